/- New of a transaction: refused. -/
import Derived.Test.YtehneddmamnmiaaTxNew
namespace Go.Proofs.Ytehneddmamnmiaa
open Go.RowKit Go.Maps Go.Cv Go.Shelf
set_option linter.unusedVariables false

set_option maxHeartbeats 1600000 in
theorem newTx_no (w : World) (tx : ByteArray) (s3 : Option Addr) (n3 c3 : Nat) (hn3 : n3 ≤ maxLen) (ep : Int) (a : Option Addr) (n c : Nat) (l : List P3) (h : RD w a n c l) (hc : tx = ⟨#[]⟩ ∨ n3 = 0 ∨ 4 < n3 ∨ rightM ep l = false) :
    Calls Try.prog 10 #[.string tx, .slice s3 n3 c3, .agg #[.int .i64 ep, .slice a n c]] w fun e w' => e = .returned (.tuple #[.pointer none, .int .i64 1]) ∧ Fr (fun _ => False) w w' := by
  have hM := MV.made ep h
  obtain ⟨wa, hwa⟩ : ∃ wa, w.alloc (.cells #[.int .i64 ep, .slice a n c] 30) = wa := ⟨_, rfl⟩
  have hfa : Fr (fun _ => False) w wa := by rw [← hwa]; exact Fr.alloc _ _ _
  rw [hwa] at hM
  obtain ⟨pb, hpb⟩ : ∃ pb, w.heap.size = pb := ⟨_, rfl⟩
  rw [hpb] at hM
  have hri := rightC wa ep a n c l hM.2
  have c0 := hM.c0
  have c1 := hM.c1
  unfold maxLen at hn3
  have hc2 : tx = ⟨#[]⟩ ∨ ((tx.toList == []) = false ∧ n3 = 0) ∨ ((tx.toList == []) = false ∧ ((n3 : Int) == 0) = false ∧ 4 < (n3 : Int)) ∨ ((tx.toList == []) = false ∧ ((n3 : Int) == 0) = false ∧ ¬ 4 < (n3 : Int) ∧ rightM ep l = false) := by
    by_cases h1 : tx = ⟨#[]⟩
    · exact .inl h1
    · have htxb : (tx.toList == []) = false := by have := bytes_beq h1; simpa using this
      by_cases h2 : n3 = 0
      · exact .inr (.inl ⟨htxb, h2⟩)
      · have i30 : ((n3 : Int) == 0) = false := by simp; omega
        by_cases h4 : 4 < n3
        · exact .inr (.inr (.inl ⟨htxb, i30, by omega⟩))
        · rcases hc with hc | hc | hc | hc
          · exact absurd hc h1
          · exact absurd hc h2
          · exact absurd hc h4
          · exact .inr (.inr (.inr ⟨htxb, i30, by omega, hc⟩))
  have HRI := hide hri
  have HFA := hide hfa
  have HWA := hide hwa
  have HPB := hide hpb
  clear hM hfa hwa hri h hc hpb
  rcases hc2 with rfl | ⟨h1, rfl⟩ | ⟨h1, h2, h4⟩ | ⟨h1, h2, h4, h5⟩
  · go_enter Try.func10, Try.ntmps10
    go_upto_region 1 with fail
    rw [HWA.out, HPB.out]
    go_wp2_with fail
    go_ret2
    exact ⟨rfl, HFA.out⟩
  · go_enter Try.func10, Try.ntmps10
    go_upto_region 1 with fail
    rw [HWA.out, HPB.out]
    go_wp2_with fail
    go_ret2
    exact ⟨rfl, HFA.out⟩
  · go_enter Try.func10, Try.ntmps10
    go_upto_region 1 with fail
    rw [HWA.out, HPB.out]
    go_wp2_with fail
    go_ret2
    exact ⟨rfl, HFA.out⟩
  · have hri := HRI.out
    rw [h5] at hri
    have HRI2 := hide hri
    clear hri h5
    go_enter Try.func10, Try.ntmps10
    go_upto_region 1 with fail
    rw [HWA.out, HPB.out]
    go_wp2_with fail
    refine HRI2.out.mono ?_
    rintro e w1 ⟨rfl, hf1⟩
    have HF1 := hide hf1
    clear hf1 c0 c1
    go_wp2_with fail
    go_ret2
    exact ⟨rfl, HFA.out.trans HF1.out (fun _ _ h => h)⟩
end Go.Proofs.Ytehneddmamnmiaa
