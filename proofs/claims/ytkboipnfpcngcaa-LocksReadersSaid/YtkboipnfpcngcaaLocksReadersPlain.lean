/- LocksReaders: the table when some read one case. -/
import Derived.Test.YtkboipnfpcngcaaKnownLocks
namespace Go.Proofs.Ytkboipnfpcngcaa.LocksReaders
open Go.RowKit Go.Maps Go.Cv
set_option linter.unusedVariables false

def tn (i : Nat) : ByteArray := ⟨#[116, 97 + i.toUInt8]⟩
def tb (i : Nat) : Bs := (tn i).data.toList
def xb : Bs := cx.data.toList
def RT (l : List Bs) : LkT := ⟨if l = [] then [] else [xb], fun s => if s = xb then l else [], fun s u => if s = xb ∧ u ∈ l then 1 else 0⟩
theorem LkT.ext' {A B : LkT} (h1 : A.names = B.names) (h2 : A.whos = B.whos) (h3 : A.how = B.how) : A = B := by cases A; cases B; cases h1; cases h2; cases h3; rfl
theorem rt0 : RT [] = emptyT := LkT.ext' rfl (by funext s; simp [RT, emptyT]) (by funext s u; simp [RT, emptyT])
theorem rt_take (l : List Bs) (u : ByteArray) (hu : u.data.toList ∉ l) (hu0 : u.data.toList ≠ []) : takeE (RT l) u.data.toList [(cx, false)] = 0 ∧ takeS (RT l) u.data.toList [(cx, false)] = RT (l ++ [u.data.toList]) := by
  have he : takeE (RT l) u.data.toList [(cx, false)] = 0 := by
    unfold takeE
    rw [if_neg hu0, if_neg]
    intro h
    unfold busyB busy1 at h
    simp only [List.any_cons, List.any_nil, Bool.or_false] at h
    rw [List.any_eq_true] at h
    obtain ⟨y, hy, h⟩ := h
    unfold other at h
    simp only [Bool.false_or, Bool.and_eq_true, decide_eq_true_eq] at h
    have h2 : (RT l).how xb y = 2 := h.2
    change (if xb = xb ∧ y ∈ l then (1 : Int) else 0) = 2 at h2
    split at h2 <;> cases h2
  refine ⟨he, ?_⟩
  unfold takeS
  rw [if_pos he]
  show putW u.data.toList (RT l) (cx, false) = _
  refine LkT.ext' ?_ ?_ ?_
  · show addB (if l = [] then [] else [xb]) xb = if l ++ [u.data.toList] = [] then [] else [xb]
    have h1 : ¬ (l ++ [u.data.toList] = []) := by simp
    rw [if_neg h1]
    by_cases h : l = []
    · rw [if_pos h]; rfl
    · rw [if_neg h]; simp [addB]
  · funext s
    show (if s = xb then addB (if xb = xb then l else []) u.data.toList else if s = xb then l else []) = if s = xb then l ++ [u.data.toList] else []
    by_cases h : s = xb
    · rw [if_pos h, if_pos h, if_pos rfl]; simp [addB, hu]
    · rw [if_neg h, if_neg h, if_neg h]
  · funext s y
    show (if s = xb ∧ y = u.data.toList then max (wantN false) (if xb = xb ∧ u.data.toList ∈ l then 1 else 0) else if s = xb ∧ y ∈ l then 1 else 0) = if s = xb ∧ y ∈ l ++ [u.data.toList] then 1 else 0
    rw [if_neg (c := xb = xb ∧ u.data.toList ∈ l) (fun h => hu h.2)]
    by_cases h : s = xb
    · by_cases h2 : y = u.data.toList
      · rw [if_pos ⟨h, h2⟩, if_pos ⟨h, by simp [h2]⟩]; rfl
      · rw [if_neg (fun q => h2 q.2)]
        have : (s = xb ∧ y ∈ l) ↔ (s = xb ∧ y ∈ l ++ [u.data.toList]) := by simp [h2]
        by_cases h3 : s = xb ∧ y ∈ l
        · rw [if_pos h3, if_pos (this.1 h3)]
        · rw [if_neg h3, if_neg (fun q => h3 (this.2 q))]
    · rw [if_neg (fun q => h q.1), if_neg (fun q => h q.1), if_neg (fun q => h q.1)]
theorem rt_held (l : List Bs) (u : Bs) (hu : u ∈ l) : heldT (RT l) u = [xb] := by
  have hl : l ≠ [] := fun e => by rw [e] at hu; cases hu
  have hn : (RT l).names = [xb] := if_neg hl
  rw [held_of (by rw [hn]; simp), hn]
  have : (RT l).how xb u = 1 := if_pos ⟨rfl, hu⟩
  simp [this]
theorem rt_free (l : List Bs) (u : Bs) (hn : (u :: l).Nodup) : freeT (RT (u :: l)) u = RT l := by
  unfold freeT
  rw [rt_held _ _ List.mem_cons_self]
  show free1 u (RT (u :: l)) xb = RT l
  rw [List.nodup_cons] at hn
  have hf : ((RT (u :: l)).whos xb).filter (ne u) = l := by
    show (if xb = xb then u :: l else []).filter (ne u) = l
    rw [if_pos rfl, List.filter_cons_of_neg (by simp [ne])]
    exact List.filter_eq_self.2 (fun x hx => by simp [ne]; exact fun e => hn.1 (e ▸ hx))
  have e1 : (free1 u (RT (u :: l)) xb).whos = (RT l).whos := by
    have : (free1 u (RT (u :: l)) xb).whos = (unholdT (RT (u :: l)) xb u).whos := by unfold free1; split <;> rfl
    rw [this]
    funext s
    show (if s = xb then ((RT (u :: l)).whos xb).filter (ne u) else if s = xb then u :: l else []) = if s = xb then l else []
    rw [hf]
    by_cases h : s = xb
    · rw [if_pos h, if_pos h]
    · rw [if_neg h, if_neg h, if_neg h]
  have e2 : (free1 u (RT (u :: l)) xb).how = (RT l).how := by
    have : (free1 u (RT (u :: l)) xb).how = (unholdT (RT (u :: l)) xb u).how := by unfold free1; split <;> rfl
    rw [this]
    funext s y
    show (if s = xb ∧ y = u then 0 else if s = xb ∧ y ∈ u :: l then (1 : Int) else 0) = if s = xb ∧ y ∈ l then 1 else 0
    by_cases h : s = xb
    · by_cases h2 : y = u
      · rw [if_pos ⟨h, h2⟩, if_neg (fun q => hn.1 (h2 ▸ q.2))]
      · rw [if_neg (fun q => h2 q.2)]
        have : (s = xb ∧ y ∈ u :: l) ↔ (s = xb ∧ y ∈ l) := by simp [h2]
        by_cases h3 : s = xb ∧ y ∈ l
        · rw [if_pos (this.2 h3), if_pos h3]
        · rw [if_neg (fun q => h3 (this.1 q)), if_neg h3]
    · rw [if_neg (fun q => h q.1), if_neg (fun q => h q.1), if_neg (fun q => h q.1)]
  refine LkT.ext' ?_ e1 e2
  have hnm : (RT (u :: l)).names = [xb] := by simp [RT]
  unfold free1
  rw [hf]
  by_cases h : l = []
  · rw [if_pos h]
    show (RT (u :: l)).names.filter (ne xb) = if l = [] then [] else [xb]
    rw [hnm, if_pos h]; simp [ne]
  · rw [if_neg h]
    show (RT (u :: l)).names = if l = [] then [] else [xb]
    rw [hnm, if_neg h]
theorem rt_write (l : List Bs) (u : Bs) (hu0 : u ≠ []) : takeE (RT l) u [(cx, true)] = if (∀ y ∈ l, y = u) then 0 else 35 := by
  unfold takeE
  rw [if_neg hu0]
  have hb : busyB (RT l) u [(cx, true)] = true ↔ ¬ ∀ y ∈ l, y = u := by
    unfold busyB busy1
    simp only [List.any_cons, List.any_nil, Bool.or_false]
    have hw : (RT l).whos (cx.data.toList) = l := by show (if cx.data.toList = xb then l else []) = l; exact if_pos rfl
    rw [hw, List.any_eq_true]
    unfold other
    simp only [Bool.true_or, Bool.and_true, decide_eq_true_eq]
    constructor
    · rintro ⟨y, hy, h⟩ hall; exact h (hall y hy)
    · intro h
      exact Classical.byContradiction fun hc => h (fun y hy => Classical.byContradiction fun hn => hc ⟨y, hy, hn⟩)
  by_cases h : ∀ y ∈ l, y = u
  · rw [if_pos h, if_neg (fun q => (hb.1 q) h)]
  · rw [if_neg h, if_pos (hb.2 h)]
theorem rt_fits (l : List Bs) (m : Nat) (h : l.length ≤ m) (hm : 1 ≤ m) : Fits (RT l) m := ⟨by show (if l = [] then [] else [xb]).length ≤ m; split <;> simp; omega, fun s => by show (if s = xb then l else []).length ≤ m; split; exact h; simp⟩
end Go.Proofs.Ytkboipnfpcngcaa.LocksReaders
