/- The walk of conclavelaw1.WireNumbers. -/
import Derived.Test.YtcklmdgmjgkogaaKnownWire
namespace Go.Proofs.Ytcklmdgmjgkogaa
open Go.RowKit Go.Maps Go.Cv
set_option linter.unusedVariables false
namespace WireNumbers

set_option maxHeartbeats 1600000 in
theorem walk (w : World) :
    Calls Try.prog 5 #[] w fun e w' => e = .returned (.bool true) ∧ Below w.heap.size w w' := by
  go_enter Try.func5, Try.ntmps5
  go_wp2_with fail
  refine (newWriter_any _).mono ?_
  rintro e w1 ⟨rfl, hw1, hf1⟩
  obtain ⟨b, hb⟩ : ∃ b, w.heap.size = b := ⟨_, rfl⟩
  rw [hb] at hw1 ⊢
  have hs1 := hf1.size
  have hbl := lt_of_block hw1.blk
  have W1 := hide hw1
  have F1 := hide hf1
  clear hw1 hf1
  go_wp2_with fail
  refine (newReader_lit w1 [1, 2, 3] (by decide)).mono ?_
  rintro e w2 ⟨r1, v1, rfl, hr1, hv1, hR1, hf2⟩
  have hs2 := hf2.size
  have hl1 := lt_of_block hR1.blk
  have hu1 : ∀ k, v1.ownBlock = some k → k < w2.heap.size := fun k hk => (hR1.own.lt k hk).2
  have R1 := hide hR1
  have F2 := hide hf2
  have V1 := hide hv1
  have U1 := hide hu1
  clear hR1 hf2 hv1 hu1
  go_wp2_with fail
  refine (newReader_lit w2 [255, 7] (by decide)).mono ?_
  rintro e w3 ⟨r2, v2, rfl, hr2, hv2, hR2, hf3⟩
  have hs3 := hf3.size
  have hl2 := lt_of_block hR2.blk
  have hu2 : ∀ k, v2.ownBlock = some k → k < w3.heap.size := fun k hk => (hR2.own.lt k hk).2
  have R2 := hide hR2
  have F3 := hide hf3
  have V2 := hide hv2
  have U2 := hide hu2
  clear hR2 hf3 hv2 hu2
  go_wp2_with fail
  refine (newReader_lit w3 [0, 0, 0, 9, 120] (by decide)).mono ?_
  rintro e w4 ⟨r3, v3, rfl, hr3, hv3, hR3, hf4⟩
  have hs4 := hf4.size
  have hl3 := lt_of_block hR3.blk
  have hu3 : ∀ k, v3.ownBlock = some k → k < w4.heap.size := fun k hk => (hR3.own.lt k hk).2
  have R3 := hide hR3
  have F4 := hide hf4
  have V3 := hide hv3
  have U3 := hide hu3
  clear hR3 hf4 hv3 hu3
  go_wp2_with fail
  have F14 := hide ((F2.out.trans F3.out (fun _ _ h => h)).trans F4.out (fun _ _ h => h))
  refine (byte_any _ b _ [] (W1.out.fr F14.out id (fun _ _ => id)) (-1) (by decide)).mono ?_
  rintro e w5 ⟨rfl, x5, hw5, hx5, hf5⟩
  have W5 := hide hw5
  have V5 := hide hx5
  have F5 := hide hf5
  clear hw5 hx5 hf5
  go_wp2_with fail
  refine (eight_any _ b _ _ W5.out (-2) (by decide)).mono ?_
  rintro e w6 ⟨rfl, hw6⟩
  obtain ⟨x6, hw6, hx6, hf6⟩ := Wrote.nil (Wrote.next V5.out F5.out hw6)
  have hs6 := hf6.size
  have W6 := hide hw6
  have F6 := hide hf6
  have X6 := hide hx6
  clear hw6 hf6 hx6
  go_wp2_with fail
  have S1 := hide ((R1.out.fr (F3.out.trans F4.out (fun _ _ h => h)) id (fun _ _ => id)).fr F6.out (by omega) (fun k hk => by have := V1.out k hk; omega))
  have S2 := hide ((R2.out.fr F4.out id (fun _ _ => id)).fr F6.out (by omega) (fun k hk => by have := V2.out k hk; omega))
  have S3 := hide (R3.out.fr F6.out (by omega) (fun k hk => by have := V3.out k hk; omega))
  clear R1 R2 R3
  refine (rdFour_any _ r1 v1 _ _ S1.out).mono ?_
  rintro e w7 ⟨rfl, hr7, hf7⟩
  have R7 := hide hr7
  have F7 := hide hf7
  clear hr7 hf7
  go_wp2_with fail
  refine (end_any _ r1 v1 _ _ R7.out).mono ?_
  rintro e w8 ⟨rfl, -, hf8⟩
  have F8 := hide (F7.out.trans hf8 (fun _ _ h => h))
  clear hf8
  go_wp2_with fail
  refine (rdByte_any _ r2 v2 _ _ (S2.out.fr F8.out (by omega) (fun k hk => by have := V2.out k hk; omega))).mono ?_
  rintro e w9 ⟨rfl, hr9, hf9⟩
  have R9 := hide hr9
  have F9 := hide hf9
  clear hr9 hf9
  go_wp2_with fail
  refine (end_any _ r2 v2 _ _ R9.out).mono ?_
  rintro e wa ⟨rfl, -, hfa⟩
  have FA := hide (F9.out.trans hfa (fun _ _ h => h))
  clear hfa
  go_wp2_with fail
  refine (rdText_any _ r3 v3 _ _ ((S3.out.fr F8.out (by omega) (fun k hk => by have := V3.out k hk; omega)).fr FA.out (by omega) (fun k hk => by have := V3.out k hk; omega)) 9).mono ?_
  rintro e wb ⟨rfl, hrb, hfb⟩
  have RB := hide hrb
  have FB := hide hfb
  clear hrb hfb
  go_wp2_with fail
  refine (end_any _ r3 v3 _ _ RB.out).mono ?_
  rintro e wc ⟨rfl, -, hfc⟩
  have FC := hide ((F8.out.step FA.out).step (FB.out.trans hfc (fun _ _ h => h)))
  clear hfc
  go_wp2_with fail
  refine (newWriter_any _).mono ?_
  rintro e wd ⟨rfl, hwd, hfd⟩
  have hsc := FC.out.size
  go_wp2_with fail
  refine (done_any _ _ _ _ hwd (by decide)).mono ?_
  rintro e we ⟨ve, rfl, hoe, hfe⟩
  obtain ⟨ae, ce, rfl⟩ := own_shape hoe
  have FE := hide (FC.out.trans (hfd.trans hfe (fun _ _ h => h)) (fun _ _ h => h.elim))
  clear hwd hfd hoe hfe
  have eq0 : ([] : List UInt8).length = 0 := rfl
  go_wp2_with fail
  have hwe : Wt we b x6 _ := W6.out.fr FE.out (by omega) (fun k hk => by have := X6.out k hk; omega)
  refine (done_any _ _ _ _ hwe (by decide)).mono ?_
  rintro e wf ⟨vf, rfl, hof, hff⟩
  have hrf := Reads.of_own hof
  have el : ([] ++ beN (u64 (-1)) 1 ++ beN (u64 (-2)) 8 : List UInt8) = [255, 255, 255, 255, 255, 255, 255, 255, 254] := by decide
  rw [el] at hrf
  have hs := run_string_reads (P := Try.prog) wf 22 9 5 vf _ hrf Try.underlying22 Try.underlying5 Try.underlying9
  have FF := hide hff
  obtain ⟨-, af, cf, rfl, -, -, -⟩ := hrf
  clear hof hff
  replace hs : (convert 22 9 (.slice af 9 cf)).run Try.prog wf = .ok (.string ⟨#[255, 255, 255, 255, 255, 255, 255, 255, 254]⟩) wf := hs
  have e1 : (RS.get [1, 2, 3] ⟨0, 0, 0⟩ 4).1 = 0 := by decide
  have e2 : RS.end_ [1, 2, 3] (RS.get [1, 2, 3] ⟨0, 0, 0⟩ 4).2 = (10, 3) := by decide
  have e3 : (RS.get [255, 7] ⟨0, 0, 0⟩ 1).1 = 255 := by decide
  have e4 : RS.end_ [255, 7] (RS.get [255, 7] ⟨0, 0, 0⟩ 1).2 = (11, 1) := by decide
  have e5 : (RS.text [0, 0, 0, 9, 120] ⟨0, 0, 0⟩ 9).1 = [] := by decide
  have e6 : RS.end_ [0, 0, 0, 9, 120] (RS.text [0, 0, 0, 9, 120] ⟨0, 0, 0⟩ 9).2 = (10, 5) := by decide
  rw [e1, e2, e3, e4, e5, e6]
  go_wp2_with fail
  refine (known_any _).mono ?_
  rintro e wg ⟨rfl, hfg⟩
  have FG := hide hfg
  clear hfg
  go_wp2_with fail
  go_ret
  have F : Fr (fun k => k = b ∨ (k = r1 ∨ k = r2) ∨ k = r3) w wg :=
    ((((((F1.out.step F14.out).step F6.out).step FE.out).step FF.out).step FG.out)).mono (fun k _ h => by simp only [or_false, false_or] at h; omega)
  exact ⟨rfl, F.toBelow (Nat.le_refl _) (fun k hk h => by omega)⟩
end WireNumbers
end Go.Proofs.Ytcklmdgmjgkogaa
