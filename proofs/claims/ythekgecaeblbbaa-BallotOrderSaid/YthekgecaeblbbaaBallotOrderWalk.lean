/- BallotOrder's walk. -/
import Derived.Test.YthekgecaeblbbaaKnownBallot
namespace Go.Proofs.Ythekgecaeblbbaa.BallotOrder
open Go.RowKit Go.Maps Go.Cv
set_option linter.unusedVariables false

theorem run_neqB (w : World) (a b c d : Int) : (binOp .neq 23 (.agg #[.int .i64 a, .int .i64 b]) (.agg #[.int .i64 c, .int .i64 d])).run Try.prog w = .ok (.bool (!(a == c && b == d))) w := by
  have h := run_eqB w a b c d
  rw [run_eql_struct] at h
  rw [run_neq_struct]
  cases hr : (Op.equalIn 10000 23 (.agg #[.int .i64 a, .int .i64 b]) (.agg #[.int .i64 c, .int .i64 d])).run Try.prog w with
  | ok v w' => rw [hr] at h; simp [Result.andThen] at h ⊢; obtain ⟨h1, h2⟩ := h; exact ⟨by rw [h1], h2⟩
  | halt _ _ => rw [hr] at h; simp [Result.andThen] at h

set_option maxRecDepth 100000 in
set_option maxHeartbeats 3200000 in
theorem walk (w : World) (a : Bt) (_ : (Lit.int .i64 a.1).wf = true ∧ (Lit.int .i64 a.2).wf = true) (b : Bt) (_ : (Lit.int .i64 b.1).wf = true ∧ (Lit.int .i64 b.2).wf = true) (c : Bt) (_ : (Lit.int .i64 c.1).wf = true ∧ (Lit.int .i64 c.2).wf = true) :
    Calls Try.prog 3 #[.agg (bcells a), .agg (bcells b), .agg (bcells c)] w fun e w' => e = .returned (.bool true) ∧ Below w.heap.size w w' := by
  obtain ⟨a1, a2⟩ := a
  obtain ⟨b1, b2⟩ := b
  obtain ⟨c1, c2⟩ := c
  have haa : ∀ w, Calls Try.prog 9 #[.agg #[.int .i64 a1, .int .i64 a2], .agg #[.int .i64 a1, .int .i64 a2]] w fun e w' => e = .returned (.bool false) ∧ Fr (fun _ => False) w w' := fun w => by
    have := less_any w (a1, a2) (a1, a2)
    rwa [show less (a1, a2) (a1, a2) = false by simp [less]] at this
  obtain ⟨lab, hlab⟩ : ∃ l, less (a1, a2) (b1, b2) = l := ⟨_, rfl⟩
  obtain ⟨lba, hlba⟩ : ∃ l, less (b1, b2) (a1, a2) = l := ⟨_, rfl⟩
  obtain ⟨lbc, hlbc⟩ : ∃ l, less (b1, b2) (c1, c2) = l := ⟨_, rfl⟩
  obtain ⟨lac, hlac⟩ : ∃ l, less (a1, a2) (c1, c2) = l := ⟨_, rfl⟩
  obtain ⟨ne, hne⟩ : ∃ l, (!(a1 == b1 && a2 == b2)) = l := ⟨_, rfl⟩
  have hab : ∀ w, Calls Try.prog 9 #[.agg #[.int .i64 a1, .int .i64 a2], .agg #[.int .i64 b1, .int .i64 b2]] w fun e w' => e = .returned (.bool lab) ∧ Fr (fun _ => False) w w' := fun w => by
    have := less_any w (a1, a2) (b1, b2); rwa [hlab] at this
  have hba : ∀ w, Calls Try.prog 9 #[.agg #[.int .i64 b1, .int .i64 b2], .agg #[.int .i64 a1, .int .i64 a2]] w fun e w' => e = .returned (.bool lba) ∧ Fr (fun _ => False) w w' := fun w => by
    have := less_any w (b1, b2) (a1, a2); rwa [hlba] at this
  have hbc : ∀ w, Calls Try.prog 9 #[.agg #[.int .i64 b1, .int .i64 b2], .agg #[.int .i64 c1, .int .i64 c2]] w fun e w' => e = .returned (.bool lbc) ∧ Fr (fun _ => False) w w' := fun w => by
    have := less_any w (b1, b2) (c1, c2); rwa [hlbc] at this
  have hac : ∀ w, Calls Try.prog 9 #[.agg #[.int .i64 a1, .int .i64 a2], .agg #[.int .i64 c1, .int .i64 c2]] w fun e w' => e = .returned (.bool lac) ∧ Fr (fun _ => False) w w' := fun w => by
    have := less_any w (a1, a2) (c1, c2); rwa [hlac] at this
  have hnq : ∀ w, (binOp .neq 23 (.agg #[.int .i64 a1, .int .i64 a2]) (.agg #[.int .i64 b1, .int .i64 b2])).run Try.prog w = .ok (.bool ne) w := fun w => by rw [run_neqB, hne]
  have hcase : (lab = true ∧ lba = false ∧ ne = true ∧ (lbc = false ∨ lbc = true ∧ lac = true)) ∨ (lab = false ∧ lba = true ∧ ne = true) ∨ (lab = false ∧ lba = false ∧ ne = false) := by
    have h1 : (lab = true ∧ (a1 < b1 ∨ (a1 = b1 ∧ a2 < b2))) ∨ (lab = false ∧ ¬ (a1 < b1 ∨ (a1 = b1 ∧ a2 < b2))) := by
      rw [← hlab]; by_cases h : a1 < b1 ∨ (a1 = b1 ∧ a2 < b2)
      · exact .inl ⟨decide_eq_true h, h⟩
      · exact .inr ⟨decide_eq_false h, h⟩
    have h2 : (lba = true ∧ (b1 < a1 ∨ (b1 = a1 ∧ b2 < a2))) ∨ (lba = false ∧ ¬ (b1 < a1 ∨ (b1 = a1 ∧ b2 < a2))) := by
      rw [← hlba]; by_cases h : b1 < a1 ∨ (b1 = a1 ∧ b2 < a2)
      · exact .inl ⟨decide_eq_true h, h⟩
      · exact .inr ⟨decide_eq_false h, h⟩
    have h3 : (lbc = true ∧ (b1 < c1 ∨ (b1 = c1 ∧ b2 < c2))) ∨ (lbc = false ∧ ¬ (b1 < c1 ∨ (b1 = c1 ∧ b2 < c2))) := by
      rw [← hlbc]; by_cases h : b1 < c1 ∨ (b1 = c1 ∧ b2 < c2)
      · exact .inl ⟨decide_eq_true h, h⟩
      · exact .inr ⟨decide_eq_false h, h⟩
    have h4 : (lac = true ∧ (a1 < c1 ∨ (a1 = c1 ∧ a2 < c2))) ∨ (lac = false ∧ ¬ (a1 < c1 ∨ (a1 = c1 ∧ a2 < c2))) := by
      rw [← hlac]; by_cases h : a1 < c1 ∨ (a1 = c1 ∧ a2 < c2)
      · exact .inl ⟨decide_eq_true h, h⟩
      · exact .inr ⟨decide_eq_false h, h⟩
    have h5 : (ne = true ∧ ¬ (a1 = b1 ∧ a2 = b2)) ∨ (ne = false ∧ (a1 = b1 ∧ a2 = b2)) := by
      rw [← hne]; by_cases h : a1 = b1 ∧ a2 = b2
      · exact .inr ⟨by simp [h.1, h.2], h⟩
      · refine .inl ⟨?_, h⟩
        by_cases e1 : a1 = b1
        · have e2 : ¬ a2 = b2 := fun e => h ⟨e1, e⟩
          simp [e2]
        · simp [e1]
    clear hlab hlba hlbc hlac hne hab hba hbc hac hnq haa
    rcases h1 with ⟨rfl, h1⟩ | ⟨rfl, h1⟩ <;> rcases h2 with ⟨rfl, h2⟩ | ⟨rfl, h2⟩ <;> rcases h3 with ⟨rfl, h3⟩ | ⟨rfl, h3⟩ <;> rcases h4 with ⟨rfl, h4⟩ | ⟨rfl, h4⟩ <;> rcases h5 with ⟨rfl, h5⟩ | ⟨rfl, h5⟩ <;> first | (exfalso; omega) | simp
  have HAA := hide haa
  have HAB := hide hab
  have HBA := hide hba
  have HBC := hide hbc
  have HAC := hide hac
  clear haa hab hba hbc hac hlab hlba hlbc hlac hne
  show Calls _ _ #[.agg #[.int .i64 a1, .int .i64 a2], .agg #[.int .i64 b1, .int .i64 b2], .agg #[.int .i64 c1, .int .i64 c2]] w _
  obtain ⟨w0, hw0⟩ : ∃ w0, ((w.alloc (.cells #[.int .i64 a1, .int .i64 a2] 23)).alloc (.cells #[.int .i64 b1, .int .i64 b2] 23)).alloc (.cells #[.int .i64 c1, .int .i64 c2] 23) = w0 := ⟨_, rfl⟩
  have hF : Fr (fun _ => False) w w0 := by rw [← hw0]; exact ((Fr.alloc _ _ _).trans (Fr.alloc (fun _ => False) _ _) (fun _ _ h => h)).trans (Fr.alloc (fun _ => False) _ _) (fun _ _ h => h)
  have hA : w0.heap[w.heap.size]? = some (.cells #[.int .i64 a1, .int .i64 a2] 23 (0, 0)) := by rw [← hw0]; exact (Below.heap_alloc _ _ _ (by simp; omega)).trans ((Below.heap_alloc _ _ _ (by simp)).trans (block_alloc w _))
  have hB : w0.heap[w.heap.size + 1]? = some (.cells #[.int .i64 b1, .int .i64 b2] 23 (0, 0)) := by
    rw [← hw0]; refine (Below.heap_alloc _ _ _ (by simp)).trans ?_
    simpa using block_alloc (w.alloc (.cells #[.int .i64 a1, .int .i64 a2] 23)) (.cells #[.int .i64 b1, .int .i64 b2] 23)
  have hC : w0.heap[w.heap.size + 1 + 1]? = some (.cells #[.int .i64 c1, .int .i64 c2] 23 (0, 0)) := by
    rw [← hw0]
    simpa using block_alloc ((w.alloc (.cells #[.int .i64 a1, .int .i64 a2] 23)).alloc (.cells #[.int .i64 b1, .int .i64 b2] 23)) (.cells #[.int .i64 c1, .int .i64 c2] 23)
  have hcl : ∀ wx, Fr (fun _ => False) w0 wx → wx.cell? ⟨w.heap.size, 0, none⟩ = some (.int .i64 a1) ∧ wx.cell? ⟨w.heap.size, 1, none⟩ = some (.int .i64 a2) ∧ wx.cell? ⟨w.heap.size + 1, 0, none⟩ = some (.int .i64 b1) ∧ wx.cell? ⟨w.heap.size + 1, 1, none⟩ = some (.int .i64 b2) ∧ wx.cell? ⟨w.heap.size + 1 + 1, 0, none⟩ = some (.int .i64 c1) ∧ wx.cell? ⟨w.heap.size + 1 + 1, 1, none⟩ = some (.int .i64 c2) := fun wx hf => by
    have q1 := (hf.block _ (lt_of_block hA) id).trans hA
    have q2 := (hf.block _ (lt_of_block hB) id).trans hB
    have q3 := (hf.block _ (lt_of_block hC) id).trans hC
    exact ⟨by rw [cell_of_block q1]; rfl, by rw [cell_of_block q1]; rfl, by rw [cell_of_block q2]; rfl, by rw [cell_of_block q2]; rfl, by rw [cell_of_block q3]; rfl, by rw [cell_of_block q3]; rfl⟩
  have HCL := hide hcl
  have HF := hide hF
  have HW := hide hw0
  obtain ⟨k0, k1, k2, k3, k4, k5⟩ := hcl w0 (Fr.refl _ _)
  clear hcl hF hA hB hC hw0
  rcases hcase with ⟨rfl, rfl, rfl, rfl | ⟨rfl, rfl⟩⟩ | ⟨rfl, rfl, rfl⟩ | ⟨rfl, rfl, rfl⟩
  all_goals
    go_enter Try.func3, Try.ntmps3
    go_upto_region 1 with fail
    rw [HW.out]
    have HFX : Hid (Fr (fun _ => False) w0 w0) := Fr.refl _ _
    go_wp2_with (first
      | (go_at_call 9; first
        | ((with_reducible refine (HAA.out _).mono ?_); rintro e wn ⟨rfl, hf⟩; have h2 := HFX.out.trans hf (fun _ _ h => h); obtain ⟨k0, k1, k2, k3, k4, k5⟩ := HCL.out _ h2; have HFX := hide h2; clear hf h2)
        | ((with_reducible refine (HAB.out _).mono ?_); rintro e wn ⟨rfl, hf⟩; have h2 := HFX.out.trans hf (fun _ _ h => h); obtain ⟨k0, k1, k2, k3, k4, k5⟩ := HCL.out _ h2; have HFX := hide h2; clear hf h2)
        | ((with_reducible refine (HBA.out _).mono ?_); rintro e wn ⟨rfl, hf⟩; have h2 := HFX.out.trans hf (fun _ _ h => h); obtain ⟨k0, k1, k2, k3, k4, k5⟩ := HCL.out _ h2; have HFX := hide h2; clear hf h2)
        | ((with_reducible refine (HBC.out _).mono ?_); rintro e wn ⟨rfl, hf⟩; have h2 := HFX.out.trans hf (fun _ _ h => h); obtain ⟨k0, k1, k2, k3, k4, k5⟩ := HCL.out _ h2; have HFX := hide h2; clear hf h2)
        | ((with_reducible refine (HAC.out _).mono ?_); rintro e wn ⟨rfl, hf⟩; have h2 := HFX.out.trans hf (fun _ _ h => h); obtain ⟨k0, k1, k2, k3, k4, k5⟩ := HCL.out _ h2; have HFX := hide h2; clear hf h2)
        )
      | (go_at_call 10; refine (known_any _).mono ?_; rintro e wn ⟨rfl, hf⟩; have h2 := HFX.out.trans hf (fun _ _ h => h); have HFX := hide h2; clear hf h2))
    go_ret
    exact ⟨rfl, (HF.out.trans HFX.out (fun _ _ h => h)).toBelow (Nat.le_refl _) (fun _ _ h => h)⟩
end Go.Proofs.Ythekgecaeblbbaa.BallotOrder
