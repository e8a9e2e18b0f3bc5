/- conclavebook.Same at parts; equal of the laws of ranges. -/
import Derived.Test.YtkaibekeokkpnaaRgMoved
import Derived.Laws.StructEq
namespace Go.Proofs.Ytkaibekeokkpnaa
open Go.RowKit Go.Maps Go.Cv Go.Shelf
set_option linter.unusedVariables false

theorem run_neqP (w : World) (x y : P3) : (binOp .neq 41 (.agg #[.int .i64 x.1, .int .i64 x.2.1, .int .i64 x.2.2]) (.agg #[.int .i64 y.1, .int .i64 y.2.1, .int .i64 y.2.2])).run Try.prog w = .ok (.bool (decide (x ≠ y))) w := by
  obtain ⟨a, b, c⟩ := x
  obtain ⟨a', b', c'⟩ := y
  have u3 := Try.underlying3
  have a3 := Try.isAgg3
  have z3 := Try.sizeOf3
  have hS : Try.prog.underlying 41 = some (.struct (Try.prog.fieldsOf 41)) := by kernel_rfl
  have hp : Try.prog.stoodInHeld 41 = false := by kernel_rfl
  rw [run_neq_struct, show (10000 : Nat) = 9999 + 1 from rfl, run_equalIn_agg w 9999 41 _ _ hS hp]
  simp only [Program.fieldsOf, Try.underlying41]
  go_simp
  by_cases h1 : a = a' <;> by_cases h2 : b = b' <;> by_cases h3 : c = c' <;> simp [h1, h2, h3]

set_option maxRecDepth 100000 in
set_option maxHeartbeats 800000 in
theorem sameP_any (w : World) (a1 : Option Addr) (n1 c1 : Nat) (l1 : List P3) (a2 : Option Addr) (n2 c2 : Nat) (l2 : List P3) (h1 : RD w a1 n1 c1 l1) (h2 : RD w a2 n2 c2 l2) :
    Calls Try.prog 36 #[.slice a1 n1 c1, .slice a2 n2 c2] w fun e w' => e = .returned (.bool (decide (l1 = l2))) ∧ ∃ m, w' = w.drewN m := by
  obtain ⟨e1, h1, b1⟩ := h1
  obtain ⟨e2, h2, b2⟩ := h2
  have E1 := hide e1
  have E2 := hide e2
  by_cases hlen : n1 = n2
  · have hne : ((n1 : Int) != (n2 : Int)) = false := by simp [hlen]
    obtain ⟨d, hd⟩ : ∃ d, decide (l1 = l2) = d := ⟨_, rfl⟩
    rw [hd]
    have HL := hide hlen
    have HD := hide hd
    have H1 := hide h1
    have H2 := hide h2
    have hb9 : (n1 : Int) ≤ 4096 := by omega
    clear hlen hd h1 h2 e1 e2
    go_enter Try.func36, Try.ntmps36
    go_wp2
    go_loopw [5] (fun i wr => ∃ k m : Nat, k ≤ n1 ∧ i = .int .i64 k ∧ wr = w.drewN m ∧ l1.take k = l2.take k) (fun i _ => n1 - (intOf i).toNat)
    case atStart => exact ⟨0, 0, by omega, rfl, rfl, rfl⟩
    case round =>
      obtain ⟨k, m, hk, rfl, rfl, htake⟩ := hrel
      have HT := hide htake
      clear htake
      by_cases hlt : k < n1
      · obtain ⟨x, g1⟩ : ∃ x, l1[k]? = some x := ⟨_, List.getElem?_eq_getElem (by have := E1.out; omega)⟩
        obtain ⟨y, g2⟩ : ∃ y, l2[k]? = some y := ⟨_, List.getElem?_eq_getElem (by have := E2.out; have := HL.out; omega)⟩
        obtain ⟨b1, o1, rfl, hl1, hc1⟩ := row_cells pc_len H1.out g1 (by decide)
        obtain ⟨b2, o2, rfl, hl2, hc2⟩ := row_cells pc_len H2.out g2 (by decide)
        obtain ⟨x1, x2, x3⟩ := x
        obtain ⟨y1, y2, y3⟩ := y
        have e0 := hc1 0 (.int .i64 x1) rfl w rfl
        have e1 := hc1 1 (.int .i64 x2) rfl w rfl
        have e2 := hc1 2 (.int .i64 x3) rfl w rfl
        have f0 := hc2 0 (.int .i64 y1) rfl w rfl
        have f1 := hc2 1 (.int .i64 y2) rfl w rfl
        have f2 := hc2 2 (.int .i64 y3) rfl w rfl
        rw [Nat.add_zero] at e0 f0
        have hi0 : (0 : Int) ≤ (k : Int) := by omega
        have hi1 : (k : Int) < (n1 : Int) := by omega
        have hi2 : (k : Int) < (n2 : Int) := by have := HL.out; omega
        have G1 := hide g1
        have G2 := hide g2
        have hneq2 : ∀ w : World, (binOp .neq 41 (.agg #[.int .i64 x1, .int .i64 x2, .int .i64 x3]) (.agg #[.int .i64 y1, .int .i64 y2, .int .i64 y3])).run Try.prog w = .ok (.bool (decide (((x1, x2, x3) : P3) ≠ (y1, y2, y3)))) w := fun w => run_neqP w (x1, x2, x3) (y1, y2, y3)
        clear g1 g2 hc1 hc2
        by_cases hxy : ((x1, x2, x3) : P3) = (y1, y2, y3)
        · have HXY := hide hxy
          have hq : decide (((x1, x2, x3) : P3) ≠ (y1, y2, y3)) = false := by simp only [ne_eq, hxy, not_true_eq_false, decide_false]
          rw [hq] at hneq2
          clear hxy hq
          go_wp2
          go_quiet (fail)
          go_wp2
          go_roundw
          case rel => exact ⟨k + 1, _, by omega, by go_num, rfl, take_eq_succ HT.out G1.out G2.out HXY.out⟩
          case measure => simp [intOf]; omega
        · have HXY := hide hxy
          have hq : decide (((x1, x2, x3) : P3) ≠ (y1, y2, y3)) = true := by simp only [ne_eq, hxy, not_false_eq_true, decide_true]
          rw [hq] at hneq2
          clear hxy hq
          go_wp2
          go_quiet (fail)
          go_wp2
          go_ret
          refine ⟨?_, _, (World.drewN_drewN _ _ _)⟩
          rw [← HD.out]
          have : l1 ≠ l2 := fun e => HXY.out (by have h1 := G1.out; have h2 := G2.out; rw [e, h2] at h1; exact (Option.some.inj h1).symm)
          simp [this]
      · obtain rfl : k = n1 := by omega
        go_wp2
        go_ret
        refine ⟨?_, _, rfl⟩
        rw [← HD.out]
        have := HT.out
        rw [List.take_of_length_le (by have := E1.out; omega), List.take_of_length_le (by have := E2.out; have := HL.out; omega)] at this
        simp [this]
  · have hne : ((n1 : Int) != (n2 : Int)) = true := by rw [bne_iff_ne]; omega
    have hd : decide (l1 = l2) = false := by simp; intro e; exact hlen (by rw [← e1, ← e2, e])
    rw [hd]
    clear hd e1 e2
    go_enter Try.func36, Try.ntmps36
    go_wp2
    go_ret
    exact ⟨rfl, 0, rfl⟩

set_option maxRecDepth 100000 in
set_option maxHeartbeats 800000 in
theorem equalM (w : World) (ep1 : Int) (a1 : Option Addr) (n1 c1 : Nat) (l1 : List P3) (ep2 : Int) (a2 : Option Addr) (n2 c2 : Nat) (l2 : List P3) (h1 : RD w a1 n1 c1 l1) (h2 : RD w a2 n2 c2 l2) :
    Calls Try.prog 18 #[.agg #[.int .i64 ep1, .slice a1 n1 c1], .agg #[.int .i64 ep2, .slice a2 n2 c2]] w fun e w' => e = .returned (.bool (decide (ep1 = ep2 ∧ l1 = l2))) ∧ Fr (fun _ => False) w w' := by
  have hM := MV.made ep1 h1
  obtain ⟨wa, hwa⟩ : ∃ wa, w.alloc (.cells #[.int .i64 ep1, .slice a1 n1 c1] 25) = wa := ⟨_, rfl⟩
  have hfa : Fr (fun _ => False) w wa := by rw [← hwa]; exact Fr.alloc _ _ _
  rw [hwa] at hM
  have hM2 := MV.made ep2 (h2.fr0 hfa)
  obtain ⟨wb, hwb⟩ : ∃ wb, wa.alloc (.cells #[.int .i64 ep2, .slice a2 n2 c2] 25) = wb := ⟨_, rfl⟩
  have hfb : Fr (fun _ => False) wa wb := by rw [← hwb]; exact Fr.alloc _ _ _
  rw [hwb] at hM2
  have hM1 := hM.fr0 hfb
  obtain ⟨rb, hrb⟩ : ∃ rb, w.heap.size + 1 = rb := ⟨_, rfl⟩
  have hra : wa.heap.size = rb := by rw [← hrb, ← hwa]; simp
  rw [hra] at hM2
  obtain ⟨pb, hpb⟩ : ∃ pb, w.heap.size = pb := ⟨_, rfl⟩
  rw [hpb] at hM1
  have x0 := hM1.c0
  have x1 := hM1.c1
  have y0 := hM2.c0
  have y1 := hM2.c1
  have hs := sameP_any wb a1 n1 c1 l1 a2 n2 c2 l2 hM1.2 hM2.2
  have HS := hide hs
  have HF := hide (hfa.trans hfb (fun _ _ h => h))
  have HWA := hide hwa
  have HWB := hide hwb
  have HRB := hide hrb
  have HPB := hide hpb
  clear hM hM1 hM2 hfa hfb hwa hwb hrb hpb hra hs h1 h2
  by_cases he : ep1 = ep2
  · have heq : (ep1 == ep2) = true := by simp [he]
    have hdd : decide (ep1 = ep2 ∧ l1 = l2) = decide (l1 = l2) := by simp [he]
    rw [hdd]
    clear he hdd
    go_enter Try.func18, Try.ntmps18
    go_upto_region 1 with fail
    rw [HWA.out, HRB.out, HPB.out, HWB.out]
    go_wp2_with fail
    refine HS.out.mono ?_
    rintro e w1 ⟨rfl, m, rfl⟩
    go_wp2_with fail
    go_ret
    exact ⟨rfl, HF.out.drewN _⟩
  · have heq : (ep1 == ep2) = false := by simp [he]
    have hdd : decide (ep1 = ep2 ∧ l1 = l2) = false := by simp [he]
    rw [hdd]
    clear he hdd
    go_enter Try.func18, Try.ntmps18
    go_upto_region 1 with fail
    rw [HWA.out, HRB.out, HPB.out, HWB.out]
    go_wp2_with fail
    go_ret
    exact ⟨rfl, HF.out⟩
end Go.Proofs.Ytkaibekeokkpnaa
