/- Split of ranges. -/
import Derived.Test.YtkaibekeokkpnaaRgMaps
namespace Go.Proofs.Ytkaibekeokkpnaa
open Go.RowKit Go.Maps Go.Cv Go.Shelf
set_option linter.unusedVariables false

/-- An operation: kind, case, name, n. -/
abbrev O4 := Int × ByteArray × ByteArray × Int
def oc (x : O4) : List Value := [.int .i64 x.1, .string x.2.1, .string x.2.2.1, .int .i64 x.2.2.2]
theorem oc_len (x : O4) : (oc x).length = 4 := rfl
def rowO (l : List O4) : List Value := l.flatMap oc
def ints (l : List Int) : List Value := l.map (.int .i64)
theorem ints_snoc (l : List Int) (x : Int) : ints (l ++ [x]) = ints l ++ [.int .i64 x] := by simp [ints]
theorem ints_one (x : Int) : ∀ u ∈ [Value.int .i64 x], u.oneCell' = true := by simp [Value.oneCell']
theorem slice_one (a : Option Addr) (n c : Nat) : ∀ u ∈ [Value.slice a n c], u.oneCell' = true := by simp [Value.oneCell']

/-- The places of one group. -/
def idx (h : Nat → Int) (g : Int) : Nat → List Int
  | 0 => []
  | k + 1 => if h k = g then idx h g k ++ [(k : Int)] else idx h g k
theorem idx_len (h : Nat → Int) (g : Int) : ∀ k, (idx h g k).length ≤ k
  | 0 => Nat.le_refl _
  | k + 1 => by
    have := idx_len h g k
    rw [idx]; split
    · simp; omega
    · omega
/-- All groups that own something, with their places. -/
def splitG (h : Nat → Int) (n : Nat) : Nat → List (Int × List Int)
  | 0 => []
  | g + 1 => if idx h g n = [] then splitG h n g else splitG h n g ++ [((g : Int), idx h g n)]
theorem splitG_len (h : Nat → Int) (n : Nat) : ∀ g, (splitG h n g).length ≤ g
  | 0 => Nat.le_refl _
  | g + 1 => by
    have := splitG_len h n g
    rw [splitG]; split
    · omega
    · simp; omega

/-- The blocks of groups and places. -/
def OB (vg va : Value) (vs : List Value) (k : Nat) : Prop := vg.ownBlock = some k ∨ va.ownBlock = some k ∨ ∃ v ∈ vs, v.ownBlock = some k
structure SP (w : World) (B : Nat) (vg va : Value) (S : List (Int × List Int)) (vs : List Value) : Prop where
  g : w.ownsRow B 3 1 vg S.length (S.map fun x => .int .i64 x.1)
  a : w.ownsRow B 42 1 va S.length vs
  rd : ∀ (i : Nat) (x : Int × List Int) v, S[i]? = some x → vs[i]? = some v → Reads w v x.2.length 1 (ints x.2) ∧ ∃ k, v.ownBlock = some k ∧ B ≤ k ∧ k < w.heap.size ∧ vg.ownBlock ≠ some k ∧ va.ownBlock ≠ some k
  dis : ∀ k, vg.ownBlock = some k → va.ownBlock ≠ some k
theorem SP.len {w : World} {B : Nat} {vg va : Value} {S : List (Int × List Int)} {vs : List Value} (h : SP w B vg va S vs) : vs.length = S.length := by have := h.a.1; omega
theorem SP.lt {w : World} {B : Nat} {vg va : Value} {S : List (Int × List Int)} {vs : List Value} (h : SP w B vg va S vs) (k : Nat) (hk : OB vg va vs k) : B ≤ k ∧ k < w.heap.size := by
  rcases hk with hk | hk | ⟨v, hv, hk⟩
  · exact h.g.lt k hk
  · exact h.a.lt k hk
  · obtain ⟨i, hi⟩ := List.mem_iff_getElem?.1 hv
    have hl := (List.getElem?_eq_some_iff.1 hi).1
    obtain ⟨x, hx⟩ : ∃ x, S[i]? = some x := ⟨_, List.getElem?_eq_getElem (by have := h.len; omega)⟩
    obtain ⟨_, k', e, h1, h2, _⟩ := h.rd i x v hx hi
    rw [hk] at e; cases e; exact ⟨h1, h2⟩
theorem SP.fr {w w' : World} {B : Nat} {vg va : Value} {S : List (Int × List Int)} {vs : List Value} (h : SP w B vg va S vs) {X : Nat → Prop} (f : Fr X w w') (hX : ∀ k, OB vg va vs k → ¬ X k) : SP w' B vg va S vs := by
  refine ⟨ownsRow_fr h.g f (fun k hk => hX k (.inl hk)), ownsRow_fr h.a f (fun k hk => hX k (.inr (.inl hk))), fun i x v hx hv => ?_, h.dis⟩
  obtain ⟨h1, k, e, h2, h3, h4⟩ := h.rd i x v hx hv
  refine ⟨h1.fr f (fun a n c e2 => hX _ (.inr (.inr ⟨v, List.mem_of_getElem? hv, by rw [e2]; rfl⟩))), k, e, h2, Nat.lt_of_lt_of_le h3 f.size, h4⟩
theorem SP.nil (w : World) (B : Nat) : SP w B (.slice none 0 0) (.slice none 0 0) [] [] :=
  ⟨World.ownsRow_nil _ _ _ _, World.ownsRow_nil _ _ _ _, fun i x v h => by simp at h, fun k h => by cases h⟩
theorem SP.push {w W1 W2 : World} {B : Nat} {vg va vg' va' : Value} {S : List (Int × List Int)} {vs : List Value} (h : SP w B vg va S vs) (g : Int) (l : List Int) (v : Value) {o1 o2 : Obj}
    (hr : Reads w v l.length 1 (ints l)) {k : Nat} (hk : v.ownBlock = some k) (hkB : B ≤ k) (hkl : k < w.heap.size) (hd : ¬ OB vg va vs k)
    (h1 : W1.ownsRow B 3 1 vg' (S.length + 1) ((S.map fun x => Value.int .i64 x.1) ++ [.int .i64 g])) (g1 : (w.alloc o1).grownBy W1 vg.ownBlock) (a1 : vg'.ownBlock = vg.ownBlock ∨ vg'.ownBlock = some (w.alloc o1).heap.size)
    (h2 : W2.ownsRow B 42 1 va' (S.length + 1) (vs ++ [v])) (g2 : (W1.alloc o2).grownBy W2 va.ownBlock) (a2 : va'.ownBlock = va.ownBlock ∨ va'.ownBlock = some (W1.alloc o2).heap.size) :
    SP W2 B vg' va' (S ++ [(g, l)]) (vs ++ [v]) ∧ Fr (fun j => vg.ownBlock = some j ∨ va.ownBlock = some j) w W2 ∧ (∀ j, w.heap.size ≤ j → OB vg' va' (vs ++ [v]) j → True) := by
  have f1 : Fr (fun j => vg.ownBlock = some j) w W1 := ((Fr.alloc (fun _ => False) w o1).mono (fun _ _ h => h.elim)).trans (Fr.grown (S := fun j => vg.ownBlock = some j) g1 (fun j hj => hj)) (fun _ _ h => h)
  have f2 : Fr (fun j => va.ownBlock = some j) W1 W2 := ((Fr.alloc (fun _ => False) W1 o2).mono (fun _ _ h => h.elim)).trans (Fr.grown (S := fun j => va.ownBlock = some j) g2 (fun j hj => hj)) (fun _ _ h => h)
  have f12 : Fr (fun j => vg.ownBlock = some j ∨ va.ownBlock = some j) w W2 := (f1.mono (fun _ _ h => .inl h)).trans f2 (fun _ _ h => .inr h)
  have hs1 : w.heap.size < (w.alloc o1).heap.size := by simp
  have hs2 : (w.alloc o1).heap.size ≤ W1.heap.size := g1.size
  have hs3 : W1.heap.size < (W1.alloc o2).heap.size := by simp
  have hnew : ∀ j, j < w.heap.size → vg.ownBlock ≠ some j → va.ownBlock ≠ some j → vg'.ownBlock ≠ some j ∧ va'.ownBlock ≠ some j := fun j hj n1 n2 => by
    constructor
    · rcases a1 with e | e
      · rw [e]; exact n1
      · rw [e]; intro e2; cases e2; omega
    · rcases a2 with e | e
      · rw [e]; exact n2
      · rw [e]; intro e2; cases e2; omega
  refine ⟨⟨?_, ?_, ?_, ?_⟩, f12, fun _ _ _ => trivial⟩
  · rw [List.length_append, List.map_append]
    refine ownsRow_fr h1 f2 (fun j hj e => ?_)
    rcases a1 with e1 | e1
    · exact h.dis j (by rw [← e1]; exact hj) e
    · rw [e1] at hj; cases hj; have := (h.a.lt _ e).2; omega
  · rw [List.length_append]; exact h2
  · intro i x u hx hu
    by_cases hi : i < S.length
    · rw [List.getElem?_append_left hi] at hx
      rw [List.getElem?_append_left (by rw [h.len]; exact hi)] at hu
      obtain ⟨r1, k', e, r2, r3, r4, r5⟩ := h.rd i x u hx hu
      obtain ⟨n1, n2⟩ := hnew k' r3 r4 r5
      refine ⟨r1.fr f12 (fun a n c e2 hh => ?_), k', e, r2, Nat.lt_of_lt_of_le r3 f12.size, n1, n2⟩
      have : u.ownBlock = some a.block := by rw [e2]; rfl
      rw [e] at this; cases this
      exact hh.elim r4 r5
    · rw [List.getElem?_append_right (by omega)] at hx
      rw [List.getElem?_append_right (by rw [h.len]; omega)] at hu
      have hi0 : i - S.length = 0 := by have := (List.getElem?_eq_some_iff.1 hx).1; simp at this; omega
      rw [hi0] at hx
      rw [show i - vs.length = 0 by rw [h.len]; exact hi0] at hu
      simp at hx hu
      subst hx hu
      have n1 : vg.ownBlock ≠ some k := fun e => hd (.inl e)
      have n2 : va.ownBlock ≠ some k := fun e => hd (.inr (.inl e))
      obtain ⟨m1, m2⟩ := hnew k hkl n1 n2
      refine ⟨hr.fr f12 (fun a n c e2 hh => ?_), k, hk, hkB, Nat.lt_of_lt_of_le hkl f12.size, m1, m2⟩
      have : v.ownBlock = some a.block := by rw [e2]; rfl
      rw [hk] at this; cases this
      exact hh.elim n1 n2
  · intro j hj e
    rcases a1 with e1 | e1
    · rcases a2 with e2 | e2
      · exact h.dis j (by rw [← e1]; exact hj) (by rw [← e2]; exact e)
      · rw [e2] at e; cases e
        rw [e1] at hj
        have := (h.g.lt _ hj).2; omega
    · rw [e1] at hj; cases hj
      rcases a2 with e2 | e2
      · rw [e2] at e; have := (h.a.lt _ e).2; omega
      · rw [e2] at e
        have := Option.some.inj e; omega
end Go.Proofs.Ytkaibekeokkpnaa
