/- The document's Log: two arrays of 512 and two numbers, as one row of 1026 cells behind a pointer. -/
import Derived.Test.YtpjdepepgfimeaaLogMore
import Derived.Deep.WholeRow
import Derived.Deep.CutBlock
namespace Go.Proofs.Ytpjdepepgfimeaa
open Go.RowKit Go.Maps Go.Cv
set_option linter.unusedVariables false

/-- Block b is the document's Log. -/
def RL (w : World) (b : Nat) (f : Int → Option ByteArray) (base taken : Int) : Prop :=
  ∃ cs, w.heap[b]? = some (.cells cs 51 (0, 0)) ∧ cs.size = 1026 ∧ (∀ i : Nat, i < 512 → cs[i]? = some (.string ((f i).getD ⟨#[]⟩)) ∧ cs[512 + i]? = some (.bool (f i).isSome)) ∧ cs[1024]? = some (.int .i64 base) ∧ cs[1025]? = some (.int .i64 taken)
section
variable {w w' : World} {b : Nat} {f : Int → Option ByteArray} {base taken : Int}
theorem RL.lt (h : RL w b f base taken) : b < w.heap.size := by obtain ⟨cs, h1, _⟩ := h; exact lt_of_block h1
theorem RL.fr (h : RL w b f base taken) {S : Nat → Prop} (g : Fr S w w') (hS : ¬ S b) : RL w' b f base taken := by
  obtain ⟨cs, h1, h2⟩ := h; exact ⟨cs, (g.block b (lt_of_block h1) hS).trans h1, h2⟩
theorem RL.v (h : RL w b f base taken) (i : Nat) (hi : i < 512) : w.cell? ⟨b, i, none⟩ = some (.string ((f i).getD ⟨#[]⟩)) := by
  obtain ⟨cs, h1, h2, h3, _⟩ := h; rw [cell_of_block h1]; exact (h3 i hi).1
theorem RL.k (h : RL w b f base taken) (i : Nat) (hi : i < 512) : w.cell? ⟨b, 512 + i, none⟩ = some (.bool (f i).isSome) := by
  obtain ⟨cs, h1, h2, h3, _⟩ := h; rw [cell_of_block h1]; exact (h3 i hi).2
theorem RL.cb (h : RL w b f base taken) : w.cell? ⟨b, 1024, none⟩ = some (.int .i64 base) := by
  obtain ⟨cs, h1, h2, h3, h4, h5⟩ := h; rw [cell_of_block h1]; exact h4
theorem RL.ct (h : RL w b f base taken) : w.cell? ⟨b, 1025, none⟩ = some (.int .i64 taken) := by
  obtain ⟨cs, h1, h2, h3, h4, h5⟩ := h; rw [cell_of_block h1]; exact h5
theorem RL.free (h : RL w b f base taken) (i : Nat) : w.frozen? ⟨b, i, none⟩ = false := by
  obtain ⟨cs, h1, _⟩ := h; exact free_of_block h1
theorem RL.congr {f' : Int → Option ByteArray} (h : RL w b f base taken) (e : ∀ i : Int, 0 ≤ i → i < 512 → f' i = f i) : RL w b f' base taken := by
  obtain ⟨cs, h1, h2, h3, h4⟩ := h
  exact ⟨cs, h1, h2, fun i hi => by rw [e _ (by omega) (by omega)]; exact h3 i hi, h4⟩
/-- A slot's two cells set: known first, then the value. -/
theorem RL.set (h : RL w b f base taken) (i : Nat) (hi : i < 512) (o : Option ByteArray) : RL ((w.setCell ⟨b, 512 + i, none⟩ (.bool o.isSome)).setCell ⟨b, i, none⟩ (.string (o.getD ⟨#[]⟩))) b (fun x => if x = (i : Int) then o else f x) base taken := by
  obtain ⟨cs, h1, h2, h3, h4, h5⟩ := h
  refine ⟨_, block_setCell (block_setCell h1 _) _, by simpa using h2, fun j hj => ?_, ?_, ?_⟩
  · obtain ⟨q1, q2⟩ := h3 j hj
    by_cases e : i = j
    · subst e
      refine ⟨?_, ?_⟩
      · rw [Array.getElem?_setIfInBounds_self]; simp [h2]; omega
      · rw [Array.getElem?_setIfInBounds_ne (by omega), Array.getElem?_setIfInBounds_self]; simp [h2]; omega
    · have e2 : ¬ (j : Int) = (i : Int) := by omega
      simp only [if_neg e2]
      refine ⟨?_, ?_⟩
      · rw [Array.getElem?_setIfInBounds_ne (by omega), Array.getElem?_setIfInBounds_ne (by omega)]; exact q1
      · rw [Array.getElem?_setIfInBounds_ne (by omega), Array.getElem?_setIfInBounds_ne (by omega)]; exact q2
  · rw [Array.getElem?_setIfInBounds_ne (by omega), Array.getElem?_setIfInBounds_ne (by omega)]; exact h4
  · rw [Array.getElem?_setIfInBounds_ne (by omega), Array.getElem?_setIfInBounds_ne (by omega)]; exact h5
theorem RL.setBase (h : RL w b f base taken) (x : Int) : RL (w.setCell ⟨b, 1024, none⟩ (.int .i64 x)) b f x taken := by
  obtain ⟨cs, h1, h2, h3, h4, h5⟩ := h
  refine ⟨_, block_setCell h1 _, by simpa using h2, fun j hj => ?_, ?_, ?_⟩
  · rw [Array.getElem?_setIfInBounds_ne (by omega), Array.getElem?_setIfInBounds_ne (by omega)]; exact h3 j hj
  · rw [Array.getElem?_setIfInBounds_self]; simp [h2]
  · rw [Array.getElem?_setIfInBounds_ne (by omega)]; exact h5
theorem RL.setTaken (h : RL w b f base taken) (x : Int) : RL (w.setCell ⟨b, 1025, none⟩ (.int .i64 x)) b f base x := by
  obtain ⟨cs, h1, h2, h3, h4, h5⟩ := h
  refine ⟨_, block_setCell h1 _, by simpa using h2, fun j hj => ?_, ?_, ?_⟩
  · rw [Array.getElem?_setIfInBounds_ne (by omega), Array.getElem?_setIfInBounds_ne (by omega)]; exact h3 j hj
  · rw [Array.getElem?_setIfInBounds_ne (by omega)]; exact h4
  · rw [Array.getElem?_setIfInBounds_self]; simp [h2]
end
theorem infoRL : (Try.prog.info? 51).map (fun i => (i.zero, i.size)) = some (some (.agg (Array.replicate 512 (.string ⟨#[]⟩) ++ Array.replicate 512 (.bool false) ++ #[.int .i64 0, .int .i64 0])), 1026) := by kernel_rfl
theorem wpList_alloc_log {ops : Array Oper} {rest : List Oper} {o : Oper} {a : Act} {w : World} {Q : Exit → Act → World → Prop} (hg : o.guard = none) (ho : o.op = .alloc 51)
    (h : ∀ w', RL w' w.heap.size (fun _ => none) 0 0 → Fr (fun _ => False) w w' → wpList Try.prog ops Q rest (a.put o.dst (.pointer (some ⟨w.heap.size, 0, none⟩))) w') : wpList Try.prog ops Q (o :: rest) a w := by
  refine wpList_plain hg fun K hK => ?_
  have hz := (zero_of_info infoRL).1
  have hk := hK _ _ (h (w.alloc (.cells (Array.replicate 512 (.string ⟨#[]⟩) ++ Array.replicate 512 (.bool false) ++ #[.int .i64 0, .int .i64 0]) 51))
    ⟨_, block_alloc _ _, by simp, fun i hi => ⟨by rw [Array.getElem?_append_left (by simp; omega), Array.getElem?_append_left (by simp; omega), Array.getElem?_replicate, if_pos hi]; rfl, by rw [Array.getElem?_append_left (by simp; omega), Array.getElem?_append_right (by simp), Array.getElem?_replicate, if_pos (by simp; omega)]; rfl⟩, by rw [Array.getElem?_append_right (by simp)]; simp, by rw [Array.getElem?_append_right (by simp)]; simp⟩ (Fr.alloc _ _ _))
  generalize (Array.replicate 512 (Value.string ⟨#[]⟩) ++ Array.replicate 512 (Value.bool false) ++ #[Value.int .i64 0, Value.int .i64 0]) = zc at *
  unfold Oper.wp execOp
  simp only [ho, Instr.alloc, Sem.run_bind, hz, Result.andThen_ok, newVar, newRow, Value.cells]
  exact hk
end Go.Proofs.Ytpjdepepgfimeaa
