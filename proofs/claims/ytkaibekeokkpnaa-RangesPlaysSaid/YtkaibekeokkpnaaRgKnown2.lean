/- known of ranges. -/
import Derived.Test.YtkaibekeokkpnaaRgKnown
namespace Go.Proofs.Ytkaibekeokkpnaa
open Go.RowKit Go.Maps Go.Cv Go.Shelf
set_option linter.unusedVariables false

set_option maxRecDepth 100000 in
set_option maxHeartbeats 1600000 in
theorem known_any (w : World) : Calls Try.prog 13 #[] w fun e w' => e = .returned (.bool true) ∧ Fr (fun _ => False) w w' := by
  have hn := new_any w 2 (by omega)
  have HNEW := hide (show Calls Try.prog 8 #[.int .i64 2] w _ from hn)
  clear hn
  go_enter Try.func13, Try.ntmps13
  go_wp2_with fail
  refine HNEW.out.mono ?_
  rintro e w1 ⟨v, rfl, hr1, hf1⟩
  unfold mv
  have hp2 : rightM 1 (newP ((2 : Nat) : Int) 2) = true := newP_right 2 (by omega)
  have hl2 : (newP ((2 : Nat) : Int) 2).length = 2 := rfl
  obtain ⟨l, hl⟩ : ∃ l, newP ((2 : Nat) : Int) 2 = l := ⟨_, rfl⟩
  have hlz : l = pz (newF ((2 : Nat) : Int) 2) 256 := by rw [← hl]; exact new_pz2
  rw [hl] at hr1 hp2 hl2
  have hr1' := hr1
  rw [hl2] at hr1'
  obtain ⟨-, a, c, rfl, -, -, -⟩ := id hr1'
  obtain ⟨w2, hw2⟩ : ∃ w2, w1.alloc (.cells #[.int .i64 1, .slice a 2 c] 25) = w2 := ⟨_, rfl⟩
  obtain ⟨mb, hmb⟩ : ∃ mb, w1.heap.size = mb := ⟨_, rfl⟩
  have hf2 : Fr (fun _ => False) w1 w2 := by rw [← hw2]; exact Fr.alloc _ _ _
  have hb2 : w2.heap[mb]? = some (.cells #[.int .i64 1, .slice a 2 c] 25 (0, 0)) := by rw [← hw2, ← hmb]; exact block_alloc _ _
  have hr2 := reads_old hr1 hf2 (fun _ _ => id)
  have hmv := move_any w2 1 _ l (by rw [hl2]; rw [hl2] at hr2; exact hr2) (by rw [hl2]; unfold maxLen; omega) 0 256 0 hp2 (by decide) (by omega) (by omega) (by omega) (by omega) (by omega)
  rw [move_all hp2] at hmv
  have HMV := hide (show Calls Try.prog 10 #[.agg #[.int .i64 1, .slice a 2 c], .int .i64 0, .int .i64 256, .int .i64 0] w2 _ from hmv)
  have g0 : w2.cell? ⟨mb, 0, none⟩ = some (.int .i64 1) := by rw [cell_of_block hb2]; rfl
  have g1 : w2.cell? ⟨mb, 1, none⟩ = some (.slice a 2 c) := by rw [cell_of_block hb2]; rfl
  have HB2 := hide hb2
  have HR2 := hide hr2
  have HL2 := hide hl2
  have HLZ := hide hlz
  have HF2 := hide (hf1.trans hf2 (fun _ _ h => h))
  have HW2 := hide hw2
  have HMB := hide hmb
  clear hf1 hf2 hb2 hr2 hl2 hlz hw2 hmb hmv hr1 hr1' hl hp2
  go_upto_region 2 with fail
  rw [HW2.out, HMB.out]
  go_wp2_with fail
  refine HMV.out.mono ?_
  rintro e w3 ⟨v3, rfl, hr3, hf3⟩
  unfold mv
  obtain ⟨-, a3, c3, rfl, -, -, -⟩ := id hr3
  obtain ⟨w4, hw4⟩ : ∃ w4, w3.alloc (.cells #[.int .i64 2, .slice a3 1 c3] 25) = w4 := ⟨_, rfl⟩
  obtain ⟨nb, hnb⟩ : ∃ nb, w3.heap.size = nb := ⟨_, rfl⟩
  have hf4 : Fr (fun _ => False) w3 w4 := by rw [← hw4]; exact Fr.alloc _ _ _
  have hb4 : w4.heap[nb]? = some (.cells #[.int .i64 2, .slice a3 1 c3] 25 (0, 0)) := by rw [← hw4, ← hnb]; exact block_alloc _ _
  have hb2 := ((hf3.trans hf4 (fun _ _ h => h)).block mb (lt_of_block HB2.out) id).trans HB2.out
  have hcell : ∀ wx, Fr (fun _ => False) w4 wx → wx.cell? ⟨mb, 0, none⟩ = some (.int .i64 1) ∧ wx.cell? ⟨mb, 1, none⟩ = some (.slice a 2 c) ∧ wx.cell? ⟨nb, 0, none⟩ = some (.int .i64 2) ∧ wx.cell? ⟨nb, 1, none⟩ = some (.slice a3 1 c3) := fun wx hf => by
    have e1 := (hf.block mb (lt_of_block hb2) id).trans hb2
    have e2 := (hf.block nb (lt_of_block hb4) id).trans hb4
    exact ⟨by rw [cell_of_block e1]; rfl, by rw [cell_of_block e1]; rfl, by rw [cell_of_block e2]; rfl, by rw [cell_of_block e2]; rfl⟩
  have hr4 := reads_old HR2.out (hf3.trans hf4 (fun _ _ h => h)) (fun _ _ => id)
  obtain ⟨k0, k1, k2, k3⟩ := hcell w4 (Fr.refl _ _)
  have HR4 := hide hr4
  have HCELL := hide hcell
  have HF4 := hide ((HF2.out.trans hf3 (fun _ _ h => h)).trans hf4 (fun _ _ h => h))
  have HW4 := hide hw4
  have HNB := hide hnb
  have hrn : ∀ wx, Calls Try.prog 20 #[.int .i64 2] wx fun e w' => ∃ cs, e = .returned (.agg cs) ∧ RC cs 1 (newF ((2 : Nat) : Int) 2) ∧ Fr (fun _ => False) wx w' := fun wx => refNew_any wx 2 (by omega)
  have HRN := hide hrn
  have hsame : ∀ (y : World) (cs : Array Value), Fr (fun _ => False) w4 y → RC cs 1 (newF ((2 : Nat) : Int) 2) → Calls Try.prog 22 #[.agg #[.int .i64 1, .slice a 2 c], .agg cs] y (fun e w' => e = .returned (.bool true) ∧ Fr (fun _ => False) y w') := fun y cs hf hcs => by
    have h9 := sameMap_any y 1 (.slice a 2 c) l (by have := reads_old hr4 hf (fun _ _ => id); exact this) (by rw [HL2.out]; unfold maxLen; omega) cs 1 _ hcs
    rw [show decide ((1 : Int) = 1 ∧ l = pz (newF ((2 : Nat) : Int) 2) 256) = true from by rw [← HLZ.out]; simp] at h9
    exact h9
  have HSAME := hide hsame
  clear hr3 hf3 hw4 hnb hf4 hb4 hb2 hcell hr4 hrn hsame g0 g1
  go_upto_region 3 with fail
  rw [HW4.out, HNB.out]
  go_region_held3 (fun w' => w'.cell? ⟨mb, 0, none⟩ = some (.int .i64 1) ∧ w'.cell? ⟨mb, 1, none⟩ = some (.slice a 2 c) ∧ w'.cell? ⟨nb, 0, none⟩ = some (.int .i64 2) ∧ w'.cell? ⟨nb, 1, none⟩ = some (.slice a3 1 c3)) (go_keep)
    (first
      | (go_at_call 20; with_reducible refine (HRN.out _).mono ?_; rintro e y ⟨cs, rfl, hcs, hfy⟩; have hfz := ((Fr.refl (fun _ => False) w4).drew).trans hfy (fun _ _ h => h); obtain ⟨p0, p1, p2, p3⟩ := HCELL.out y hfz; have HCS := hide hcs; have T0 := hide hfz; clear hfy hfz hcs)
      | (go_at_call 22; with_reducible refine (HSAME.out _ _ T0.out HCS.out).mono ?_; rintro e y2 ⟨rfl, hfy⟩; have hfz := T0.out.trans hfy (fun _ _ h => h); obtain ⟨p4, p5, p6, p7⟩ := HCELL.out y2 hfz; have T1 := hide hfz; clear hfy hfz))
  all_goals
    go_wp2_with fail
    go_ret
    exact ⟨rfl, HF4.out.trans T1.out (fun _ _ h => h)⟩
end Go.Proofs.Ytkaibekeokkpnaa
