/- A writer is alone: plain facts on a table of locks. -/
import Derived.Test.YtkboipnfpcngcaaLkAsk
namespace Go.Proofs.Ytkboipnfpcngcaa
open Go.RowKit Go.Maps Go.Cv
set_option linter.unusedVariables false

def Alone (T : LkT) : Prop := ∀ s u v, T.how s u = 2 → v ∈ T.whos s → v = u
theorem alone_empty : Alone emptyT := fun s u v h _ => by cases h
theorem how_put {T : LkT} {tx : Bs} {x : WantT} {s u : Bs} : (putW tx T x).how s u = if s = x.1.data.toList ∧ u = tx then max (wantN x.2) (T.how x.1.data.toList tx) else T.how s u := rfl
def Free1 (T : LkT) (tx : Bs) (l : List WantT) : Prop := ∀ x ∈ l, ∀ v ∈ T.whos x.1.data.toList, v ≠ tx → x.2 = false ∧ T.how x.1.data.toList v ≠ 2
theorem free1_of {T : LkT} {tx : Bs} {l : List WantT} (h : busyB T tx l = false) : Free1 T tx l := by
  intro x hx v hv hne
  unfold busyB at h
  rw [List.any_eq_false] at h
  have h1 := h x hx
  have h2 : busy1 T tx x = false := by simpa using h1
  unfold busy1 at h2
  rw [List.any_eq_false] at h2
  have h3 := h2 v hv
  unfold other at h3
  simp [hne] at h3
  exact h3
theorem alone_put {T : LkT} (ok : LkOk T) {tx : Bs} {x : WantT} {r : List WantT} (ha : Alone T) (hf : Free1 T tx (x :: r)) : Alone (putW tx T x) ∧ Free1 (putW tx T x) tx r := by
  constructor
  · intro s u v h2 hv
    rw [how_put] at h2
    have hx := hf x List.mem_cons_self
    by_cases e : s = x.1.data.toList ∧ u = tx
    · rw [if_pos e] at h2
      obtain ⟨rfl, rfl⟩ := e
      rcases whos_put.1 hv with h | h
      · by_cases e2 : v = u
        · exact e2
        · obtain ⟨h3, h4⟩ := hx v h e2
          have h5 : wantN x.2 = 1 := by rw [h3]; rfl
          rw [h5] at h2
          have h6 : T.how x.1.data.toList u = 2 := by have := ok.hv x.1.data.toList u; omega
          exact absurd (ha _ _ _ h6 h) e2
      · exact h.2
    · rw [if_neg e] at h2
      rcases whos_put.1 hv with h | ⟨h, h'⟩
      · exact ha _ _ _ h2 h
      · subst h
        have hne : u ≠ tx := fun h => e ⟨rfl, h⟩
        have hu : u ∈ T.whos x.1.data.toList := (ok.hw _ _).2 (by rw [h2]; decide)
        exact absurd h2 (hx u hu hne).2
  · intro y hy v hv hne
    have hv' : v ∈ T.whos y.1.data.toList := by
      rcases whos_put.1 hv with h | h
      · exact h
      · exact absurd h.2 hne
    obtain ⟨h1, h2⟩ := hf y (List.mem_cons_of_mem _ hy) v hv' hne
    refine ⟨h1, ?_⟩
    rw [how_put, if_neg (fun h => hne h.2)]
    exact h2
theorem alone_take {tx : Bs} (htx : tx.length ≤ maxLen) : ∀ (l : List WantT) {T : LkT}, LkOk T → (∀ x ∈ l, x.1.size ≤ maxLen) → Alone T → Free1 T tx l → Alone (takeT T tx l)
  | [], T, ok, hs, ha, hf => ha
  | x :: r, T, ok, hs, ha, hf => by
    obtain ⟨h1, h2⟩ := alone_put ok ha hf
    exact alone_take htx r (put_ok ok tx htx x (hs x List.mem_cons_self)) (fun y hy => hs y (List.mem_cons_of_mem _ hy)) h1 h2
theorem alone_takeS {T : LkT} (ok : LkOk T) {tx : Bs} (htx : tx.length ≤ maxLen) {l : List WantT} (hs : ∀ x ∈ l, x.1.size ≤ maxLen) (ha : Alone T) : Alone (takeS T tx l) := by
  unfold takeS
  split
  · rename_i h
    refine alone_take htx l ok hs ha (free1_of ?_)
    unfold takeE at h
    split at h
    · cases h
    · split at h
      · cases h
      · rename_i hb; simpa using hb
  · exact ha
theorem free1_whos (T : LkT) (u s x : Bs) : (free1 u T s).whos x = if x = s then (T.whos s).filter (ne u) else T.whos x := by unfold free1; split <;> rfl
theorem free1_how (T : LkT) (u s x y : Bs) : (free1 u T s).how x y = if x = s ∧ y = u then 0 else T.how x y := by unfold free1; split <;> rfl
theorem alone_free1 {T : LkT} (u s : Bs) (ha : Alone T) : Alone (free1 u T s) := by
  intro x y v h hv
  rw [free1_how] at h
  rw [free1_whos] at hv
  split at h
  · cases h
  · split at hv
    · rename_i e; subst e; exact ha _ _ _ h (List.mem_filter.1 hv).1
    · exact ha _ _ _ h hv
theorem alone_free {T : LkT} (u : Bs) (ha : Alone T) : Alone (freeT T u) := by
  unfold freeT
  generalize heldT T u = l
  induction l generalizing T with
  | nil => exact ha
  | cons s r ih => exact ih (alone_free1 u s ha)
theorem whos_fold {u : Bs} : ∀ (l : List Bs) {T : LkT} {s v : Bs}, v ∈ (l.foldl (free1 u) T).whos s → v ∈ T.whos s ∧ (s ∈ l → v ≠ u)
  | [], T, s, v, h => ⟨h, fun h => by cases h⟩
  | x :: r, T, s, v, h => by
    obtain ⟨h1, h2⟩ := whos_fold r h
    rw [free1_whos] at h1
    by_cases e : s = x
    · subst e
      rw [if_pos rfl, List.mem_filter] at h1
      exact ⟨h1.1, fun _ => by simpa [ne] using h1.2⟩
    · rw [if_neg e] at h1
      exact ⟨h1, fun hs => (List.mem_cons.1 hs).elim (fun h => absurd h e) h2⟩
theorem whos_free {T : LkT} (ok : LkOk T) {u s v : Bs} (h : v ∈ (freeT T u).whos s) : v ∈ T.whos s ∧ v ≠ u := by
  obtain ⟨h1, h2⟩ := whos_fold _ h
  refine ⟨h1, fun e => ?_⟩
  subst e
  exact h2 ((mem_held_iff ok).2 h1) rfl
theorem alone_one {T : LkT} (ok : LkOk T) (ha : Alone T) {c u : Bs} (h : writerT T c = some u) : sortB (T.whos c) = [u] := by
  unfold writerT at h
  have h1 := List.find?_some h
  have h2 : u ∈ T.whos c := mem_sortB.1 (List.mem_of_find?_eq_some h)
  have h3 : T.how c u = 2 := by simpa using h1
  have h4 : ∀ v ∈ sortB (T.whos c), v = u := fun v hv => ha _ _ _ h3 (mem_sortB.1 hv)
  have h5 : (sortB (T.whos c)).Nodup := (sortB_perm _).nodup_iff.2 (ok.wn c)
  have h6 : u ∈ sortB (T.whos c) := mem_sortB.2 h2
  generalize sortB (T.whos c) = l at h4 h5 h6
  match l, h4, h5, h6 with
  | [x], h4, _, _ => rw [h4 x List.mem_cons_self]
  | x :: y :: r, h4, h5, _ =>
    have e1 := h4 x List.mem_cons_self
    have e2 := h4 y (List.mem_cons_of_mem _ List.mem_cons_self)
    rw [e1, e2] at h5; simp at h5

/-- Two lists of texts that the statement owns. -/
structure Two (w : World) (X : Nat → Prop) (b0 : Nat) (v : Value) (ns : List ByteArray) (u : Value) (ts : List ByteArray) : Prop where
  a : Ns w X b0 v ns
  b : Ns w X b0 u ts
  d : ∀ k, v.ownBlock = some k → u.ownBlock ≠ some k
theorem Two.flip {w : World} {X : Nat → Prop} {b0 : Nat} {v u : Value} {ns ts : List ByteArray} (h : Two w X b0 v ns u ts) : Two w X b0 u ts v ns := ⟨h.b, h.a, fun k hk hv => h.d k hv hk⟩
theorem Two.fr {w w' : World} {X : Nat → Prop} {b0 : Nat} {v u : Value} {ns ts : List ByteArray} (h : Two w X b0 v ns u ts) {S : Nat → Prop} (g : Fr S w w') (hS : ∀ k, X k → ¬ S k) : Two w' X b0 v ns u ts := ⟨h.a.fr g hS, h.b.fr g hS, h.d⟩
theorem Two.own {w w' : World} {X : Nat → Prop} {b0 : Nat} {v u : Value} {ns ts : List ByteArray} (h : Two w X b0 v ns u ts) (g : Fr (Own X b0) w w') : Two w' X b0 v ns u ts := h.fr g (fun k hx ho => ho.2 hx)
theorem Two.fr0 {w w' : World} {X : Nat → Prop} {b0 : Nat} {v u : Value} {ns ts : List ByteArray} (h : Two w X b0 v ns u ts) (g : Fr (fun _ => False) w w') : Two w' X b0 v ns u ts := h.fr g (fun _ _ h => h)
theorem Two.mono {w : World} {X X' : Nat → Prop} {b0 : Nat} {v u : Value} {ns ts : List ByteArray} (h : Two w X b0 v ns u ts) (hX : ∀ k, X k → X' k) : Two w X' b0 v ns u ts := ⟨h.a.mono hX, h.b.mono hX, h.d⟩
theorem Two.more {wr wa w' : World} {X : Nat → Prop} {b0 tb : Nat} {T : LkT} {v v' u : Value} {ns ts : List ByteArray} {c : ByteArray} (hL : Lkd wr X b0 tb T) (h : Two wr X b0 v ns u ts) (hal : Fr (fun _ => False) wr wa)
    (hown : w'.ownsRow b0 9 1 v' (ns.length + 1) (ns.map .string ++ [.string c])) (hg : wa.grownBy w' v.ownBlock) (hat : v'.ownBlock = v.ownBlock ∨ v'.ownBlock = some wa.heap.size) :
    Lkd w' (fun k => X k ∨ (wr.heap.size ≤ k ∧ k < w'.heap.size)) b0 tb T ∧ Two w' (fun k => X k ∨ (wr.heap.size ≤ k ∧ k < w'.heap.size)) b0 v' (ns ++ [c]) u ts ∧ Fr (fun k => X k ∧ b0 ≤ k) wr w' ∧ ∀ q, q < wr.heap.size → v.ownBlock ≠ some q → w'.heap[q]? = wr.heap[q]? ∧ v'.ownBlock ≠ some q := by
  obtain ⟨h1, h2, h3, h4⟩ := h.a.more hL hal hown hg hat
  have h0 : Fr (fun k => v.ownBlock = some k) wr w' := (hal.mono (fun _ _ h => h.elim)).trans (Fr.grown (S := fun k => v.ownBlock = some k) hg (fun k hk => hk)) (fun k _ hk => hk)
  have h5 : ∀ k, u.ownBlock = some k → k < wr.heap.size ∧ v.ownBlock ≠ some k := fun k hk => ⟨(h.b.1.lt k hk).2, fun hv => h.d k hv hk⟩
  refine ⟨h1, ⟨h2, ⟨ownsRow_fr h.b.1 h0 (fun k hk => (h5 k hk).2), fun k hk => .inl (h.b.2 k hk)⟩, fun k hv hu => ?_⟩, h3, h4⟩
  obtain ⟨h6, h7⟩ := h5 k hu
  exact (h4 k h6 h7).2 hv
end Go.Proofs.Ytkboipnfpcngcaa
