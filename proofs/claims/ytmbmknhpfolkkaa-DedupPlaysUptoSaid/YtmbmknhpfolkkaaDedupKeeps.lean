/- Of the table: what stays true of it while requests come with growing numbers. -/
import Derived.Test.YtmbmknhpfolkkaaDedup3
namespace Go.Proofs.Ytmbmknhpfolkkaa
open Go.RowKit Go.Maps Go.Cv Go.Shelf
set_option linter.unusedVariables false

def notc (c : ByteArray) (y : ByteArray) : Bool := decide (y ≠ c)
theorem filter_erase (c : ByteArray) : ∀ (l : List L3), (l.map (·.1)).Nodup → (l.map (·.1)).filter (notc c) = (l.eraseP (is c)).map (·.1)
  | [], _ => rfl
  | x :: t, h => by
    simp only [List.map_cons, List.nodup_cons] at h
    by_cases e : x.1 = c
    · have hx : is c x = true := by simp [is, e]
      have hn : notc c x.1 = false := by simp [notc, e]
      rw [List.map_cons, List.filter_cons, hn, List.eraseP_cons, hx]
      simp only [Bool.false_eq_true, if_false, cond_true]
      rw [List.filter_eq_self]
      intro y hy
      have : y ≠ c := fun e2 => h.1 (e ▸ e2 ▸ hy)
      simp [notc, this]
    · have hx : is c x = false := by simp [is, e]
      have hn : notc c x.1 = true := by simp [notc, e]
      rw [List.map_cons, List.filter_cons, hn, List.eraseP_cons, hx]
      simp only [if_true, cond_false, List.map_cons]
      rw [filter_erase c t h.2]
theorem nodup_erase {l : List L3} (h : (l.map (·.1)).Nodup) (c : ByteArray) (i : Int) (r : ByteArray) : ((l.eraseP (is c) ++ [(c, i, r)]).map (·.1)).Nodup := by
  rw [List.map_append, ← filter_erase c l h]
  refine List.nodup_append.2 ⟨h.filter _, by simp, ?_⟩
  intro a ha b hb
  simp at hb; subst hb
  simp [notc] at ha
  exact ha.2
theorem map_eraseIdx0 (l : List L3) : (l.eraseIdx 0).map (·.1) = (l.map (·.1)).drop 1 := by cases l <;> simp

/-- What the loop keeps of the table. -/
structure Keeps (most : Int) (i : Nat) (l : List L3) : Prop where
  nd : (l.map (·.1)).Nodup
  ids : ∀ x ∈ l, x.2.1 < (i : Int)
  len : (l.length : Int) ≤ most
theorem Keeps.fresh {most : Int} {i : Nat} {l : List L3} (h : Keeps most i l) (c : ByteArray) : (askT l c i).1 = 1 := by
  unfold askT
  cases hf : l.find? (is c) with
  | none => rfl
  | some x => simp only [if_pos (h.ids x (List.mem_of_find?_eq_some hf))]
theorem Keeps.next {most : Int} {i : Nat} {l : List L3} (h : Keeps most i l) (h0 : 0 ≤ most) (c r : ByteArray) : Keeps most (i + 1) (doneT most l c i r) := by
  have h1 := nodup_erase h.nd c i r
  have h2 : ∀ x ∈ l.eraseP (is c) ++ [(c, (i : Int), r)], x.2.1 < ((i + 1 : Nat) : Int) := by
    intro x hx
    rcases List.mem_append.1 hx with hx | hx
    · have := h.ids x (List.mem_of_mem_eraseP hx); omega
    · simp at hx; subst hx; simp; omega
  have h3 : ((l.eraseP (is c) ++ [(c, (i : Int), r)]).length : Int) ≤ most + 1 := by
    have := h.len
    have := List.length_eraseP_le (l := l) (p := is c)
    simp; omega
  refine ⟨?_, ?_, lose_le most _ h3 h0⟩
  · unfold doneT lose; split
    · rw [map_eraseIdx0]; exact h1.sublist (List.drop_sublist _ _)
    · exact h1
  · unfold doneT lose; split
    · intro x hx; exact h2 x (List.mem_of_mem_eraseIdx hx)
    · exact h2
theorem Keeps.order {most : Int} {i : Nat} {l : List L3} (h : Keeps most i l) (c r : ByteArray) (n : Nat) (hn : ((l.map (·.1)).filter (notc c)).length + 1 = n) :
    (most < (n : Int) → (doneT most l c i r).map (·.1) = ((l.map (·.1)).filter (notc c) ++ [c]).drop 1) ∧ (¬ most < (n : Int) → (doneT most l c i r).map (·.1) = (l.map (·.1)).filter (notc c) ++ [c]) := by
  have e : (l.eraseP (is c) ++ [(c, (i : Int), r)]).map (·.1) = (l.map (·.1)).filter (notc c) ++ [c] := by
    rw [List.map_append, ← filter_erase c l h.nd]; rfl
  have el : (l.eraseP (is c) ++ [(c, (i : Int), r)]).length = n := by
    rw [← hn, filter_erase c l h.nd]; simp
  unfold doneT lose
  rw [el]
  constructor
  · intro hm; rw [if_pos hm, map_eraseIdx0, e]
  · intro hm; rw [if_neg hm, e]

end Go.Proofs.Ytmbmknhpfolkkaa
