/- What the statements on locks with a list of calls have in common. -/
import Derived.Test.YtkboipnfpcngcaaKnownLocks
import Derived.Test.YtkboipnfpcngcaaCells
namespace Go.Proofs.Ytkboipnfpcngcaa
open Go.RowKit Go.Maps Go.Cv
set_option linter.unusedVariables false

abbrev AskT := Int × ByteArray × (Option Addr × Nat × List WantT)
abbrev acells (a : AskT) : List Value := [.int .i64 a.1, .string a.2.1, .slice a.2.2.1 a.2.2.2.2.length a.2.2.2.1]
theorem acells_len (a : AskT) : (acells a).length = 3 := rfl
abbrev agood (w : World) (a : AskT) : Prop := (Lit.int .i64 a.1).wf = true ∧ a.2.1.size ≤ maxLen ∧ (Reads w (.slice a.2.2.1 a.2.2.2.2.length a.2.2.2.1) a.2.2.2.2.length 2 (a.2.2.2.2.flatMap wcell) ∧ (∀ z ∈ a.2.2.2.2, z.1.size ≤ maxLen ∧ True) ∧ a.2.2.2.2.length ≤ maxLen)

theorem Lk.alsoS {w w' : World} {X : Nat → Prop} {b0 tb ob : Nat} {mb : Bs → Nat} {T : LkT} (h : Lk w X b0 tb ob mb T) {S : Nat → Prop} (g : Fr S w w') (hS : ∀ k, k < w.heap.size → S k → X k) : Lk w' (fun k => X k ∨ (w.heap.size ≤ k ∧ k < w'.heap.size)) b0 tb ob mb T := by
  have h3 := h.fr g hS
  refine ⟨h3.blk, h3.out, h3.inn, h3.t0, h3.o0, h3.m0, h3.d, h3.dt, h3.inj, ?_, ?_, fun s hs => ?_, ?_⟩
  · rintro (e | e)
    · exact h.xt e
    · have := h.lt; omega
  · rintro (e | e)
    · exact h.xo e
    · have := h.out.lt; omega
  · rintro (e | e)
    · exact h.xm s hs e
    · have := (h.inn s hs).lt; omega
  · rintro k (e | e)
    · exact h3.xl k e
    · exact e.2
theorem Lkd.alsoS {w w' : World} {X : Nat → Prop} {b0 tb : Nat} {T : LkT} (h : Lkd w X b0 tb T) {S : Nat → Prop} (g : Fr S w w') (hS : ∀ k, k < w.heap.size → S k → X k) : Lkd w' (fun k => X k ∨ (w.heap.size ≤ k ∧ k < w'.heap.size)) b0 tb T := by
  obtain ⟨ob, mb, h1, h2⟩ := h; exact ⟨ob, mb, h1.alsoS g hS, h2⟩

/-- A list of texts that the statement owns, its block in X. -/
def Ns (w : World) (X : Nat → Prop) (b0 : Nat) (v : Value) (ns : List ByteArray) : Prop := w.ownsRow b0 9 1 v ns.length (ns.map .string) ∧ ∀ k, v.ownBlock = some k → X k
theorem Ns.nil (w : World) (X : Nat → Prop) (b0 : Nat) : Ns w X b0 (.slice none 0 0) [] := ⟨World.ownsRow_nil w b0 9 1, fun k h => by cases h⟩
theorem Ns.fr {w w' : World} {X : Nat → Prop} {b0 : Nat} {v : Value} {ns : List ByteArray} (h : Ns w X b0 v ns) {S : Nat → Prop} (g : Fr S w w') (hS : ∀ k, X k → ¬ S k) : Ns w' X b0 v ns :=
  ⟨ownsRow_fr h.1 g (fun k hk => hS k (h.2 k hk)), h.2⟩
theorem Ns.own {w w' : World} {X : Nat → Prop} {b0 : Nat} {v : Value} {ns : List ByteArray} (h : Ns w X b0 v ns) (g : Fr (Own X b0) w w') : Ns w' X b0 v ns := h.fr g (fun k hx ho => ho.2 hx)
theorem Ns.fr0 {w w' : World} {X : Nat → Prop} {b0 : Nat} {v : Value} {ns : List ByteArray} (h : Ns w X b0 v ns) (g : Fr (fun _ => False) w w') : Ns w' X b0 v ns := h.fr g (fun _ _ h => h)
theorem Ns.mono {w : World} {X X' : Nat → Prop} {b0 : Nat} {v : Value} {ns : List ByteArray} (h : Ns w X b0 v ns) (hX : ∀ k, X k → X' k) : Ns w X' b0 v ns := ⟨h.1, fun k hk => hX k (h.2 k hk)⟩
theorem Ns.reads {w : World} {X : Nat → Prop} {b0 : Nat} {v : Value} {ns : List ByteArray} (h : Ns w X b0 v ns) : Reads w v ns.length 1 (ns.map .string) := Reads.of_own h.1
/-- One more text is put behind. -/
theorem Ns.more {wr wa w' : World} {X : Nat → Prop} {b0 tb : Nat} {T : LkT} {v v' : Value} {ns : List ByteArray} {c : ByteArray} (hL : Lkd wr X b0 tb T) (hN : Ns wr X b0 v ns) (hal : Fr (fun _ => False) wr wa)
    (hown : w'.ownsRow b0 9 1 v' (ns.length + 1) (ns.map .string ++ [.string c])) (hg : wa.grownBy w' v.ownBlock) (hat : v'.ownBlock = v.ownBlock ∨ v'.ownBlock = some wa.heap.size) :
    Lkd w' (fun k => X k ∨ (wr.heap.size ≤ k ∧ k < w'.heap.size)) b0 tb T ∧ Ns w' (fun k => X k ∨ (wr.heap.size ≤ k ∧ k < w'.heap.size)) b0 v' (ns ++ [c]) ∧ Fr (fun k => X k ∧ b0 ≤ k) wr w' ∧ ∀ q, q < wr.heap.size → v.ownBlock ≠ some q → w'.heap[q]? = wr.heap[q]? ∧ v'.ownBlock ≠ some q := by
  have h0 : Fr (fun k => v.ownBlock = some k) wr w' := (hal.mono (fun _ _ h => h.elim)).trans (Fr.grown (S := fun k => v.ownBlock = some k) hg (fun k hk => hk)) (fun k _ hk => hk)
  have h1 : Fr (fun k => X k ∧ b0 ≤ k) wr w' := h0.mono (fun k _ hk => ⟨hN.2 k hk, (hN.1.lt k hk).1⟩)
  refine ⟨hL.alsoS h1 (fun k _ hk => hk.1), ⟨by rw [List.length_append, List.map_append]; exact hown, fun k hk => ?_⟩, h1, fun q hq hne => ⟨h0.block q hq hne, ?_⟩⟩
  · rcases hat with e | e
    · exact .inl (hN.2 k (e ▸ hk))
    · refine .inr ⟨?_, (hown.lt k hk).2⟩
      rw [hk] at e; cases e; exact hal.size
  · rcases hat with e | e
    · rw [e]; exact hne
    · rw [e]; intro e2; cases e2; exact absurd hal.size (by omega)

theorem has_any (w : World) (v : Value) (l : List ByteArray) (h : Reads w v l.length 1 (l.map .string)) (hl : l.length ≤ 1000000) (s : ByteArray) (q : Bool) (hq : q = true ↔ s ∈ l) :
    Calls Try.prog 15 #[v, .string s] w fun e w' => e = .returned (.bool q) ∧ w' = w := by
  obtain ⟨-, a, cp, rfl, -, -, hc⟩ := h
  obtain ⟨n, hn⟩ : ∃ n, l.length = n := ⟨_, rfl⟩
  rw [hn] at hl
  have HC := hide hc
  have HN := hide hn
  have HQ := hide hq
  have hn9 : (n : Int) ≤ 1000000 := by omega
  clear hc hl hq
  rw [hn]
  clear hn
  go_enter Try.func15, Try.ntmps15
  go_wp2_with fail
  go_loopw [5] (fun i wr => ∃ k : Nat, i = .int .i64 k ∧ k ≤ n ∧ wr = w ∧ Hid (∀ (j : Nat) u, j < k → l[j]? = some u → u ≠ s)) (fun i _ => n - (intOf i).toNat)
  case atStart => exact ⟨0, rfl, Nat.zero_le _, rfl, fun j u hj => absurd hj (Nat.not_lt_zero _)⟩
  case round =>
    obtain ⟨k, rfl, hk, rfl, HB⟩ := hrel
    by_cases hlt : k < n
    · have ik0 : (0 : Int) ≤ (k : Int) := by omega
      have ik1 : (k : Int) < (n : Int) := by omega
      obtain ⟨u, hu⟩ : ∃ u, l[k]? = some u := ⟨_, List.getElem?_eq_getElem (by rw [HN.out]; exact hlt)⟩
      obtain ⟨b1, o1, rfl, e1⟩ := HC.out k (.string u) (by rw [List.getElem?_map, hu]; rfl)
      have HU := hide hu
      clear hu
      by_cases hus : u = s
      · subst hus
        go_wp2_with fail
        go_ret
        exact ⟨by rw [HQ.out.2 (List.mem_of_getElem? HU.out)]; rfl, rfl⟩
      · have hus2 := bytes_beq hus
        go_wp2_with fail
        go_roundw
        case rel =>
          refine ⟨k + 1, by go_num, by omega, trivial, fun j u' hj hu' => ?_⟩
          by_cases e : j = k
          · subst e; rw [HU.out] at hu'; cases hu'; exact hus
          · exact HB.out j u' (by omega) hu'
        case measure => simp [intOf]; omega
    · have ik1 : ¬ (k : Int) < (n : Int) := by omega
      have hk2 : k = n := by omega
      subst hk2
      go_wp2_with fail
      go_ret
      have hno : ¬ s ∈ l := fun hm => by
        obtain ⟨j, hj⟩ := List.mem_iff_getElem?.1 hm
        exact HB.out j s (by have := (List.getElem?_eq_some_iff.1 hj).1; have := HN.out; omega) hj rfl
      cases q with
      | false => exact ⟨rfl, rfl⟩
      | true => exact absurd (HQ.out.1 rfl) hno
/-- What was there when the call began. -/
theorem reads_gone {w : World} {a : Option Addr} {n c s : Nat} {xs : List Value} (h : Reads w (.slice a n c) n s xs) (hs : 0 < s) (hn : 0 < n) : ∀ b, foot (.slice a n c) = some b → b < w.heap.size := by
  obtain ⟨hl, a0, c0, e, h3, h4, h5⟩ := h
  cases e
  intro b hb
  have : 0 < n * s := Nat.mul_pos hn hs
  obtain ⟨b1, o1, rfl, hc⟩ := h5 0 xs[0] (List.getElem?_eq_getElem (by omega))
  have := World.block_lt_of_cell? w _ hc
  injection hb with hb
  subst hb; exact this

abbrev toB (u : Bs) : ByteArray := ⟨u.toArray⟩
theorem toB_data (c : ByteArray) : toB c.data.toList = c := by cases c; simp [toB]
theorem names_put {T : LkT} {tx : Bs} {x : WantT} {s : Bs} : s ∈ (putW tx T x).names ↔ s ∈ T.names ∨ s = x.1.data.toList := mem_addB
theorem whos_put {T : LkT} {tx : Bs} {x : WantT} {s u : Bs} : u ∈ (putW tx T x).whos s ↔ u ∈ T.whos s ∨ (s = x.1.data.toList ∧ u = tx) := by
  show u ∈ (if s = x.1.data.toList then addB (T.whos x.1.data.toList) tx else T.whos s) ↔ _
  by_cases e : s = x.1.data.toList
  · subst e; rw [if_pos rfl, mem_addB]; simp
  · rw [if_neg e]; simp [e]
theorem names_take {tx : Bs} : ∀ (l : List WantT) {T : LkT} {s : Bs}, s ∈ (takeT T tx l).names → s ∈ T.names ∨ ∃ x ∈ l, x.1.data.toList = s
  | [], T, s, h => .inl h
  | x :: r, T, s, h => by
    rcases names_take r h with h | ⟨y, hy, e⟩
    · rcases names_put.1 h with h | h
      · exact .inl h
      · exact .inr ⟨x, List.mem_cons_self, h.symm⟩
    · exact .inr ⟨y, List.mem_cons_of_mem _ hy, e⟩
theorem whos_take {tx : Bs} : ∀ (l : List WantT) {T : LkT} {s u : Bs}, u ∈ (takeT T tx l).whos s ↔ u ∈ T.whos s ∨ (u = tx ∧ ∃ x ∈ l, x.1.data.toList = s)
  | [], T, s, u => by simp [takeT]
  | x :: r, T, s, u => by
    show u ∈ (takeT (putW tx T x) tx r).whos s ↔ _
    rw [whos_take r, whos_put]
    constructor
    · rintro ((h | ⟨rfl, h⟩) | ⟨h, y, hy, e⟩)
      · exact .inl h
      · exact .inr ⟨h, x, List.mem_cons_self, rfl⟩
      · exact .inr ⟨h, y, List.mem_cons_of_mem _ hy, e⟩
    · rintro (h | ⟨h, y, hy, e⟩)
      · exact .inl (.inl h)
      · rcases List.mem_cons.1 hy with rfl | hy
        · exact .inl (.inr ⟨e.symm, h⟩)
        · exact .inr ⟨h, y, hy, e⟩
theorem names_takeS {T : LkT} {tx : Bs} {l : List WantT} {s : Bs} (h : s ∈ (takeS T tx l).names) : s ∈ T.names ∨ ∃ x ∈ l, x.1.data.toList = s := by
  unfold takeS at h
  split at h
  · exact names_take l h
  · exact .inl h
theorem whos_takeS {T : LkT} {tx : Bs} {l : List WantT} {s u : Bs} (h : u ∈ (takeS T tx l).whos s) : u ∈ T.whos s ∨ u = tx := by
  unfold takeS at h
  split at h
  · rcases (whos_take l).1 h with h | h
    · exact .inl h
    · exact .inr h.1
  · exact .inl h
theorem mem_held_iff {T : LkT} (ok : LkOk T) {u s : Bs} : s ∈ heldT T u ↔ u ∈ T.whos s := by
  unfold heldT
  rw [List.mem_filter, mem_sortB]
  constructor
  · rintro ⟨_, h⟩
    rw [ok.hw]
    have : 0 < T.how s u := by simpa using h
    omega
  · intro h
    refine ⟨(ok.ne s).2 (fun e => by rw [e] at h; cases h), ?_⟩
    have := (ok.hw s u).1 h
    have := ok.hv s u
    simp; omega
theorem held_st {T : LkT} (u : Bs) : (heldT T u).Pairwise (fun x y => leB x y = true) := (sortB_st _).filter _
theorem free_names' {T : LkT} {u s : Bs} (h : s ∈ (freeT T u).names) : s ∈ T.names := free_names _ h
/-- Of two neighbours in a list in order without doubles the first is less. -/
theorem st_lt {l : List Bs} (h : l.Pairwise (fun x y => leB x y = true)) (hn : l.Nodup) {k : Nat} {x y : Bs} (hx : l[k]? = some x) (hy : l[k + 1]? = some y) : leB y x = false := by
  obtain ⟨h1, rfl⟩ := List.getElem?_eq_some_iff.1 hx
  obtain ⟨h2, rfl⟩ := List.getElem?_eq_some_iff.1 hy
  have h3 := List.pairwise_iff_getElem.1 h k (k + 1) h1 h2 (by omega)
  have h4 := List.pairwise_iff_getElem.1 (List.nodup_iff_pairwise_ne.1 hn) k (k + 1) h1 h2 (by omega)
  cases e : leB l[k + 1] l[k] with
  | false => rfl
  | true =>
    simp only [leB, decide_eq_true_eq] at h3 e
    exact absurd (List.le_antisymm h3 e) h4
/-- The first m elements of a slice. -/
theorem reads_take {α : Type} {toC : α → List Value} {s : Nat} (hs : ∀ a, (toC a).length = s) {w : World} {a : Option Addr} {n c m : Nat} {l : List α} (h : Reads w (.slice a n c) n s (l.flatMap toC)) (hn : l.length = n) (hm : m ≤ n) :
    Reads w (.slice a m c) m s ((l.take m).flatMap toC) := by
  obtain ⟨hl, a0, c0, e, h3, h4, h5⟩ := h
  cases e
  refine ⟨by rw [Go.Cv.flat_len toC s hs, List.length_take, hn, Nat.min_eq_left hm], a, c, rfl, fun e => ⟨?_, (h3 e).2⟩, Nat.le_trans hm h4, fun i u hu => h5 i u ?_⟩
  · have := (h3 e).1; omega
  · have e1 : l.flatMap toC = (l.take m).flatMap toC ++ (l.drop m).flatMap toC := by rw [← List.flatMap_append, List.take_append_drop]
    rw [e1, List.getElem?_append_left (List.getElem?_eq_some_iff.1 hu).1]; exact hu
/-- An ask as it lies in the statement's own block, cut. -/
structure Cut (w0 wr wd : World) (xb : Nat) (kd : Int) (tx : ByteArray) (la : Option Addr) (lc m : Nat) (L : List WantT) : Prop where
  blk : wd.heap[xb]? = some (.cells #[.int .i64 kd, .string tx, .slice la m lc] 36 (0, 0))
  fr : Fr (fun _ => False) wr wd
  rd : Reads w0 (.slice la m lc) m 2 (L.flatMap wcell)
  len : L.length = m
  sz : ∀ z ∈ L, z.1.size ≤ maxLen
theorem Cut.mk' (w0 wr : World) (kd : Int) (tx : ByteArray) (la : Option Addr) (lc n m : Nat) (L : List WantT) (h : Reads w0 (.slice la n lc) n 2 (L.flatMap wcell)) (hn : L.length = n) (hm : m ≤ n) (hs : ∀ z ∈ L, z.1.size ≤ maxLen ∧ True) :
    Cut w0 wr (wr.alloc (.cells #[.int .i64 kd, .string tx, .slice la m lc] 36)) wr.heap.size kd tx la lc m (L.take m) :=
  ⟨block_alloc _ _, Fr.alloc _ _ _, reads_take wcell_len h hn hm, by rw [List.length_take, hn, Nat.min_eq_left hm], fun z hz => (hs z (List.mem_of_mem_take hz)).1⟩
theorem less_list : ∀ x y : Bs, Go.Op.bytesLess x y = true ↔ x < y
  | [], [] => by simp [Go.Op.bytesLess]
  | _ :: _, [] => by simp [Go.Op.bytesLess]
  | [], _ :: _ => by simp [Go.Op.bytesLess]
  | a :: x, b :: y => by
    rw [List.cons_lt_cons_iff, ← less_list x y]
    simp [Go.Op.bytesLess]
theorem less_of {x y : Bs} (h : leB y x = false) : Go.Op.bytesLess (toB x).toList (toB y).toList = true := by
  rw [ByteArray.toList_eq, ByteArray.toList_eq]
  show Go.Op.bytesLess x y = true
  rw [less_list]
  have : ¬ y ≤ x := by simpa [leB] using h
  exact List.not_le.1 this
theorem reads_shape {w : World} {v : Value} {n s : Nat} {xs : List Value} (h : Reads w v n s xs) : ∃ a q, v = .slice a n q := by
  obtain ⟨-, a, q, e, -⟩ := h; exact ⟨a, q, e⟩
theorem isAll_len {T : LkT} {m : Nat} {l : List Bs} (ok : LkOk T) (h : IsAll T l) (f : Fits T m) : l.length ≤ m * m := by
  have h1 : l.length ≤ (T.names.flatMap T.whos).length := nodup_sub_len h.nd (fun u hu => by
    obtain ⟨s, hs⟩ := (h.mem u).1 hu
    exact List.mem_flatMap.2 ⟨s, (ok.ne s).2 (fun e => by rw [e] at hs; cases hs), hs⟩)
  have h2 : (T.names.flatMap T.whos).length ≤ T.names.length * m := Go.Proofs.Ytkboipnfpcngcaa.flat_len f.2 T.names
  have h3 : T.names.length * m ≤ m * m := Nat.mul_le_mul_right m f.1
  omega
end Go.Proofs.Ytkboipnfpcngcaa
