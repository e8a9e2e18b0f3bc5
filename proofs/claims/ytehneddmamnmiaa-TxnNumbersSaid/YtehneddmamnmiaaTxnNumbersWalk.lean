/- TxnNumbers's walk. -/
import Derived.Test.YtehneddmamnmiaaTxLoadNo
import Derived.Test.YtehneddmamnmiaaTxLeft
import Derived.Test.YtehneddmamnmiaaTxKnown2
import Derived.Test.YtehneddmamnmiaaSameInt
import Derived.Test.YtehneddmamnmiaaTxGood
import Derived.Lib.SlBytesConst
namespace Go.Proofs.Ytehneddmamnmiaa.TxnNumbers
open Go.RowKit Go.Maps Go.Cv Go.Shelf
set_option linter.unusedVariables false

def nK : TxR := ⟨⟨#[116]⟩, [rdO ⟨#[97]⟩, rdO ⟨#[98]⟩], 1, newP 1 1, [(0, [0, 1])], [], [], 0, 0, 0⟩
def nR : TxR := ⟨⟨#[116]⟩, [rdO ⟨#[97]⟩, rdO ⟨#[98]⟩], 1, newP 1 1, [(0, [0, 1])], [], [], 3, 1, 30⟩
def nR2 : TxR := ⟨⟨#[116]⟩, [rdO ⟨#[97]⟩, rdO ⟨#[98]⟩], 1, newP 1 1, [(0, [0, 1])], [], [0], 3, 1, 30⟩
theorem newR_two : newR ⟨#[116]⟩ [rdO ⟨#[97]⟩, rdO ⟨#[98]⟩] 1 (newP 1 1) = nK := by
  unfold newR
  have h0 : ∀ k, ownAt (newP 1 1) [rdO ⟨#[97]⟩, rdO ⟨#[98]⟩] k = 0 := by
    intro k; unfold ownAt; split <;> first | exact ownF_one _ | rfl
  have : splitG (ownAt (newP 1 1) [rdO ⟨#[97]⟩, rdO ⟨#[98]⟩]) [rdO ⟨#[97]⟩, rdO ⟨#[98]⟩].length 3 = [(0, [0, 1])] := by
    have e : ownAt (newP 1 1) [rdO ⟨#[97]⟩, rdO ⟨#[98]⟩] = fun _ => 0 := funext h0
    rw [e]; show splitG (fun _ => 0) 2 3 = _; decide
  rw [this]; rfl
theorem ack1 : ackR nK 0 = nK := by unfold ackR; rw [if_neg (by simp [nK])]
def one : ByteArray := ⟨#[111, 110, 101]⟩
theorem vote1 : voteR nK 0 true [⟨#[111, 110, 101]⟩] 0 0 = nK := by
  unfold voteR; rw [if_neg (by simp [nK, grp, keys]), if_neg (by simp), if_pos (by simp [nK, atOf])]
theorem vote2 : voteR nK 1 false [] 0 30 = nK := by unfold voteR; rw [if_pos (.inr (.inl (by simp [nK, grp])))]
theorem vote3 : voteR nK 0 false [] 1 30 = nR := by
  unfold voteR; rw [if_neg (by simp [nK, grp, keys]), if_pos rfl, if_pos (by decide)]; rfl
theorem vote4 : voteR nR 0 true [⟨#[120]⟩, ⟨#[121]⟩] 0 0 = nR := by unfold voteR; rw [if_pos (.inl (by simp [nR]))]
theorem late1 : lateR nR = nR := by unfold lateR; rw [if_neg (by simp [nR])]
theorem ack2 : ackR nR 0 = nR2 := by unfold ackR; rw [if_pos (by simp [nR, grp])]; rfl
theorem left1 : leftL nR = [0] := by simp [leftL, grp, nR, ackB]
theorem left2 : leftL nR2 = [] := by simp [leftL, grp, nR2, ackB]
theorem goodK : Good nK := by rw [← newR_two]; exact good_new _ _ _ _ (by decide)
theorem goodR : Good nR := by rw [← vote3]; exact good_vote goodK _ _ _ _ _
theorem goodR2 : Good nR2 := by rw [← ack2]; exact good_ack goodR _
theorem texts2 : textsR nR2 = [] := by unfold textsR; rw [if_neg (by simp [nR2])]
theorem right0 : rightM 0 [] = false := by decide
def noB : List UInt8 := [110, 111, 32, 115, 97, 118, 101]
def noR : RS := ⟨4, 3, 0⟩
theorem no1 : (⟨0, 0, 0⟩ : RS).text noB noB.length = ([], noR) := by rfl
theorem no2 : noR.text noB noB.length = ([], noR) := by rfl
theorem no3 : noR.count noB 4 = (0, noR) := by rfl
theorem infoOp : (Try.prog.info? 26).map (fun i => (i.zero, i.size, i.bytes)) = some (some (Value.agg #[.int .i64 0, .string ⟨#[]⟩, .string ⟨#[]⟩, .int .i64 0]), 4, 48) := infoCOp
theorem reads_ops2 (w : World) (x y : O4) (t : TypeId) : Reads (w.alloc (.cells (oc x ++ oc y).toArray t)) (.slice (some ⟨w.heap.size, 0, none⟩) 2 2) 2 4 (rowO [x, y]) :=
  ⟨by simp [rowO, oc], some ⟨w.heap.size, 0, none⟩, 2, rfl, (by intro h; cases h), Nat.le_refl _, fun i u hu => ⟨_, 0, rfl, by rw [cell_of_block (block_alloc w _)]; simpa [rowO] using hu⟩⟩

set_option maxRecDepth 100000 in
set_option maxHeartbeats 6400000 in
theorem walk (w : World) : Calls Try.prog 6 #[] w fun e w' => e = .returned (.bool true) ∧ Below w.heap.size w w' := by
  obtain ⟨i0, hi0, hz0, hz1, hz2⟩ := info_parts infoOp
  have HNEW := hide (newM w 1 (by omega))
  go_enter Try.func6, Try.ntmps6
  go_wp2_with fail
  refine HNEW.out.mono ?_
  rintro e w1 ⟨a, m, c, rfl, hr1, hf1⟩
  have hr1 : RD w1 a m c (newP 1 1) := hr1
  have hm1 : m = 1 := by rw [← hr1.1]; rfl
  subst hm1
  have hM := MV.made 1 hr1
  obtain ⟨w2, hw2⟩ : ∃ w2, w1.alloc (.cells #[.int .i64 1, .slice a 1 c] 30) = w2 := ⟨_, rfl⟩
  obtain ⟨mb, hmb⟩ : ∃ mb, w1.heap.size = mb := ⟨_, rfl⟩
  have hf2 : Fr (fun _ => False) w w2 := hf1.trans (by rw [← hw2]; exact Fr.alloc (fun _ => False) _ _) (fun _ _ h => h)
  rw [hw2, hmb] at hM
  have hmv0 : ∀ wx, Fr (fun _ => False) w2 wx → MV wx mb 1 a 1 c (newP 1 1) := fun wx hx => hM.fr0 hx
  have HMV0 := hide hmv0
  have HMV := hide hmv0
  have HF2 := hide hf2
  have HW2 := hide hw2
  have HMB := hide hmb
  clear hf1 hr1 hM hw2 hmb hf2 hmv0
  go_upto_region 2 with fail
  rw [HW2.out, HMB.out]
  go_cut [3, 4] from 21 to 27 (fun t e wx => t = .pointer none ∧ e = .int .i64 1 ∧ Fr (fun _ => False) w2 wx)
  case first =>
    refine wp_region_news [Lft.is (.agg #[.int .i64 5, .string ⟨#[97]⟩, .string ⟨#[]⟩, .int .i64 0]), Lft.stay (fun v w' => ∃ b, v = .slice (some ⟨b, 0, none⟩) 1 1) (fun u w1 w2 h g => h), Lft.is (.agg #[.int .i64 1, .slice a 1 c]), Lft.is (.tuple #[.pointer none, .int .i64 1]), Lft.is (.tuple #[.pointer none, .int .i64 1]), Lft.is (.pointer none), Lft.is (.int .i64 1), Lft.is (.pointer none), Lft.is (.int .i64 1)] _ (by kernel_rfl) (by kernel_rfl) (fun vs => by simp only [putAll, Act.put, List.setIfInBounds_toArray, List.set_cons_succ, List.set_cons_zero, Nat.zero_add, Nat.reduceAdd]; exact rfl) ⟨?_, ?_, ?_, ?_, ?_, ?_, ?_, ?_, ?_, trivial⟩ ?_
    · refine StepN.call rfl 8 (fun _ => #[.string ⟨#[97]⟩]) (fun vs w2 hf hp => by go_simp) (fun vs w2 hf hp => ?_)
      refine (keepRead_any w2 ⟨#[97]⟩).mono ?_
      rintro e w3 ⟨rfl, hf3⟩
      exact ⟨_, rfl, rfl, hf3, by intro h; cases h⟩
    · refine StepN.run rfl (fun vs w2 hf hp => ?_)
      obtain ⟨g0, -⟩ := hp; have g0 : vs 0 = .agg #[.int .i64 5, .string ⟨#[97]⟩, .string ⟨#[]⟩, .int .i64 0] := g0
      exact ⟨.slice (some ⟨w2.heap.size, 0, none⟩) 1 1, w2.alloc (.cells #[.int .i64 5, .string ⟨#[97]⟩, .string ⟨#[]⟩, .int .i64 0] 26), by go_simp, ⟨_, rfl⟩, Fr.alloc _ _ _, by intro h; cases h⟩
    · exact StepN.quiet rfl _ rfl (fun vs w2 hf hp => by have hm := HMV.out w2 hf; have c0 := hm.c0; have c1 := hm.c1; go_simp)
    · refine StepN.call rfl 10 (fun vs => #[.string ⟨#[]⟩, vs 1, .agg #[.int .i64 1, .slice a 1 c]]) (fun vs w2 hf hp => by obtain ⟨g1, g2, -⟩ := hp; obtain ⟨b, g1⟩ := g1; have g1 : vs 1 = .slice (some ⟨b, 0, none⟩) 1 1 := g1; have g2 : vs 2 = .agg #[.int .i64 1, .slice a 1 c] := g2; go_simp) (fun vs w2 hf hp => ?_)
      obtain ⟨g1, g2, -⟩ := hp; obtain ⟨b, g1⟩ := g1; have g1 : vs 1 = .slice (some ⟨b, 0, none⟩) 1 1 := g1; have g2 : vs 2 = .agg #[.int .i64 1, .slice a 1 c] := g2
      simp only [g1]
      refine (newTx_no w2 ⟨#[]⟩ _ 1 1 (by decide) 1 a 1 c (newP 1 1) (HMV.out w2 hf).2 (.inl rfl)).mono ?_
      rintro e w3 ⟨rfl, hf3⟩
      exact ⟨_, rfl, rfl, hf3, by intro h; cases h⟩
    · exact StepN.quiet rfl _ rfl (fun vs w2 hf hp => by obtain ⟨g3, -⟩ := hp; have g3 : vs 3 = .tuple #[.pointer none, .int .i64 1] := g3; go_simp)
    · exact StepN.quiet rfl _ rfl (fun vs w2 hf hp => by obtain ⟨g4, -⟩ := hp; have g4 : vs 4 = .tuple #[.pointer none, .int .i64 1] := g4; go_simp)
    · exact StepN.quiet rfl _ rfl (fun vs w2 hf hp => by obtain ⟨g4, -⟩ := hp; have g4 : vs 4 = .tuple #[.pointer none, .int .i64 1] := g4; go_simp)
    · exact StepN.quiet rfl _ rfl (fun vs w2 hf hp => by obtain ⟨g5, -⟩ := hp; have g5 : vs 5 = .pointer none := g5; go_simp)
    · exact StepN.quiet rfl _ rfl (fun vs w2 hf hp => by obtain ⟨g6, -⟩ := hp; have g6 : vs 6 = .int .i64 1 := g6; go_simp)
    · intro vs w5 hf he _
      have h7 : vs 7 = .pointer none := (he.get 7 (by decide)).1
      have h8 : vs 8 = .int .i64 1 := (he.get 8 (by decide)).1
      rw [h7, h8]
      have HFx := hide hf
      clear he hf h7 h8
      go_wp2_with fail
      go_meet
      case rel => exact ⟨rfl, rfl, HFx.out⟩
  case rest =>
    obtain ⟨rfl, rfl, hf3⟩ := hcut
    obtain ⟨w3, hw3⟩ : ∃ w3, wc = w3 := ⟨_, rfl⟩
    rw [hw3] at hf3
    rw [hw3]
    have hm3 := HMV0.out w3 hf3
    have c0 := hm3.c0
    have c1 := hm3.c1
    have hno3 := newTx_no w3 ⟨#[116]⟩ none 0 0 (by decide) 1 a 1 c (newP 1 1) hm3.2 (.inr (.inl rfl))
    have HNO3 := hide hno3
    have HF3 := hide hf3
    clear hw3 hf3 hm3 hno3
    go_wp2_with fail
    refine HNO3.out.mono ?_
    rintro e w4 ⟨rfl, hf4⟩
    have HF4 := hide (HF3.out.trans hf4 (fun _ _ h => h))
    clear hf4
    go_wp2_with fail
    refine (keepRead_any w4 ⟨#[97]⟩).mono ?_
    rintro e w5 ⟨rfl, hf5⟩
    have ha5 : Fr (fun _ => False) w5 (w5.alloc (.cells #[.int .i64 5, .string ⟨#[97]⟩, .string ⟨#[]⟩, .int .i64 0] 26)) := Fr.alloc _ _ _
    have hno5 := newTx_no (w5.alloc (.cells #[.int .i64 5, .string ⟨#[97]⟩, .string ⟨#[]⟩, .int .i64 0] 26)) ⟨#[116]⟩ (some ⟨w5.heap.size, 0, none⟩) 1 1 (by decide) 0 none 0 0 [] ⟨rfl, Reads.nil _ _, by decide⟩ (.inr (.inr (.inr right0)))
    have HNO5 := hide hno5
    have HF5 := hide ((HF4.out.trans hf5 (fun _ _ h => h)).trans ha5 (fun _ _ h => h))
    clear hf5 ha5 hno5
    go_wp2_with fail
    refine HNO5.out.mono ?_
    rintro e w6 ⟨rfl, hf6⟩
    have HF6 := hide (HF5.out.trans hf6 (fun _ _ h => h))
    have HMV := hide (fun (wx : World) (hx : Fr (fun _ => False) w6 wx) => HMV0.out wx (HF6.out.trans hx (fun _ _ h => h)))
    clear hf6 c0 c1
    go_upto_region 5 with fail
    go_cut [9, 10] from 40 to 45 (fun t e wx => t = .pointer none ∧ e = .int .i64 1 ∧ Fr (fun _ => False) w6 wx)
    case first =>
      refine wp_region_news [Lft.stay (fun v w' => ∃ b, v = .slice (some ⟨b, 0, none⟩) 5 5) (fun u w1 w2 h g => h), Lft.is (.agg #[.int .i64 1, .slice a 1 c]), Lft.is (.tuple #[.pointer none, .int .i64 1]), Lft.is (.tuple #[.pointer none, .int .i64 1]), Lft.is (.pointer none), Lft.is (.int .i64 1), Lft.is (.pointer none), Lft.is (.int .i64 1)] _ (by kernel_rfl) (by kernel_rfl) (fun vs => by simp only [putAll, Act.put, List.setIfInBounds_toArray, List.set_cons_succ, List.set_cons_zero, Nat.zero_add, Nat.reduceAdd]; exact rfl) ⟨?_, ?_, ?_, ?_, ?_, ?_, ?_, ?_, trivial⟩ ?_
      · refine StepN.run rfl (fun vs w2 hf hp => ?_)
        obtain ⟨w3, hrun, r1, r2⟩ := run_make_full (P := Try.prog) w2 w2.heap.size 24 26 i0 _ 4 Try.underlying24 hi0 hz0 hz1 .i64 .i64 5 (by rw [hz2]; decide) (by decide) (Nat.le_refl _)
        have hrun' : (Instr.makeSlice 24 (.int .i64 5) (.int .i64 5)).run Try.prog w2 = .ok (.slice (some ⟨w2.heap.size, 0, none⟩) 5 5) w3 := hrun
        exact ⟨.slice (some ⟨w2.heap.size, 0, none⟩) 5 5, w3, by simp [execOp, Act.eval, hrun', Result.andThen], ⟨_, rfl⟩, Fr.grown r2 (by intro k hk; cases hk), by intro h; cases h⟩
      · exact StepN.quiet rfl _ rfl (fun vs w2 hf hp => by have hm := HMV.out w2 hf; have c0 := hm.c0; have c1 := hm.c1; go_simp)
      · refine StepN.call rfl 10 (fun vs => #[.string ⟨#[116]⟩, vs 0, .agg #[.int .i64 1, .slice a 1 c]]) (fun vs w2 hf hp => by obtain ⟨g0, g1, -⟩ := hp; obtain ⟨b, g0⟩ := g0; have g0 : vs 0 = .slice (some ⟨b, 0, none⟩) 5 5 := g0; have g1 : vs 1 = .agg #[.int .i64 1, .slice a 1 c] := g1; go_simp) (fun vs w2 hf hp => ?_)
        obtain ⟨g0, g1, -⟩ := hp; obtain ⟨b, g0⟩ := g0; have g0 : vs 0 = .slice (some ⟨b, 0, none⟩) 5 5 := g0; have g1 : vs 1 = .agg #[.int .i64 1, .slice a 1 c] := g1
        simp only [g0]
        refine (newTx_no w2 ⟨#[116]⟩ _ 5 5 (by decide) 1 a 1 c (newP 1 1) (HMV.out w2 hf).2 (.inr (.inr (.inl (by decide))))).mono ?_
        rintro e w3 ⟨rfl, hf3⟩
        exact ⟨_, rfl, rfl, hf3, by intro h; cases h⟩
      · exact StepN.quiet rfl _ rfl (fun vs w2 hf hp => by obtain ⟨g2, -⟩ := hp; have g2 : vs 2 = .tuple #[.pointer none, .int .i64 1] := g2; go_simp)
      · exact StepN.quiet rfl _ rfl (fun vs w2 hf hp => by obtain ⟨g3, -⟩ := hp; have g3 : vs 3 = .tuple #[.pointer none, .int .i64 1] := g3; go_simp)
      · exact StepN.quiet rfl _ rfl (fun vs w2 hf hp => by obtain ⟨g3, -⟩ := hp; have g3 : vs 3 = .tuple #[.pointer none, .int .i64 1] := g3; go_simp)
      · exact StepN.quiet rfl _ rfl (fun vs w2 hf hp => by obtain ⟨g4, -⟩ := hp; have g4 : vs 4 = .pointer none := g4; go_simp)
      · exact StepN.quiet rfl _ rfl (fun vs w2 hf hp => by obtain ⟨g5, -⟩ := hp; have g5 : vs 5 = .int .i64 1 := g5; go_simp)
      · intro vs w5 hf he _
        have h6 : vs 6 = .pointer none := (he.get 6 (by decide)).1
        have h7 : vs 7 = .int .i64 1 := (he.get 7 (by decide)).1
        rw [h6, h7]
        have HFx := hide hf
        clear he hf h6 h7
        go_wp2_with fail
        go_meet
        case rel => exact ⟨rfl, rfl, HFx.out⟩
    case rest =>
      obtain ⟨rfl, rfl, hf7⟩ := hcut
      obtain ⟨w7, hw7⟩ : ∃ w7, wc = w7 := ⟨_, rfl⟩
      rw [hw7] at hf7
      rw [hw7]
      have HF7 := hide (HF6.out.trans hf7 (fun _ _ h => h))
      have HMV7 := hide (fun (wx : World) (hx : Fr (fun _ => False) w7 wx) => HMV0.out wx (HF7.out.trans hx (fun _ _ h => h)))
      clear hw7 hf7
      go_upto_region 6 with fail
      go_cut [11, 12] from 46 to 53 (fun t e wx => ∃ tb, t = .pointer (some ⟨tb, 0, none⟩) ∧ e = .int .i64 0 ∧ Hid (TX wx (fun k => k < w7.heap.size) w7.heap.size tb nK) ∧ Hid (Fr (fun _ => False) w7 wx))
      case first =>
        refine wp_region_news [Lft.is (.agg #[.int .i64 5, .string ⟨#[97]⟩, .string ⟨#[]⟩, .int .i64 0]), Lft.is (.agg #[.int .i64 5, .string ⟨#[98]⟩, .string ⟨#[]⟩, .int .i64 0]), Lft.stay (fun v w' => ∃ b, v = .slice (some ⟨b, 0, none⟩) 2 2 ∧ Reads w' v 2 4 (rowO [rdO ⟨#[97]⟩, rdO ⟨#[98]⟩])) (fun u w1 w2 h g => by obtain ⟨b, e, h⟩ := h; exact ⟨b, e, reads_old h g (fun _ _ => id)⟩),
          Lft.is (.agg #[.int .i64 1, .slice a 1 c]), Lft.stay (fun v w' => ∃ tb, v = .tuple #[.pointer (some ⟨tb, 0, none⟩), .int .i64 0] ∧ TX w' (fun k => k < w7.heap.size) w7.heap.size tb nK) (fun u w1 w2 h g => by obtain ⟨tb, e, h⟩ := h; exact ⟨tb, e, h.fr0 g⟩),
          ⟨[4], fun vs v _ => v = vs 4 ∧ ∃ tb : Nat, v = .tuple #[.pointer (some ⟨tb, 0, none⟩), .int .i64 0], fun vs vs' u w h hp => by rw [← h 4 (by simp)]; exact hp, fun vs u w1 w2 h g => h, false⟩, ⟨[5], fun vs v _ => vs 5 = .tuple #[v, .int .i64 0], fun vs vs' u w h hp => by rw [← h 5 (by simp)]; exact hp, fun vs u w1 w2 h g => h, false⟩, Lft.is (.int .i64 0), Lft.of [6] (fun vs => vs 6) (fun vs vs' h => h 6 (by simp)), Lft.is (.int .i64 0)] _ (by kernel_rfl) (by kernel_rfl) (fun vs => by simp only [putAll, Act.put, List.setIfInBounds_toArray, List.set_cons_succ, List.set_cons_zero, Nat.zero_add, Nat.reduceAdd]; exact rfl) ⟨?_, ?_, ?_, ?_, ?_, ?_, ?_, ?_, ?_, ?_, trivial⟩ ?_
        · refine StepN.call rfl 8 (fun _ => #[.string ⟨#[97]⟩]) (fun vs w2 hf hp => by go_simp) (fun vs w2 hf hp => ?_)
          refine (keepRead_any w2 ⟨#[97]⟩).mono ?_
          rintro e w3 ⟨rfl, hf3⟩
          exact ⟨_, rfl, rfl, hf3, by intro h; cases h⟩
        · refine StepN.call rfl 8 (fun _ => #[.string ⟨#[98]⟩]) (fun vs w2 hf hp => by go_simp) (fun vs w2 hf hp => ?_)
          refine (keepRead_any w2 ⟨#[98]⟩).mono ?_
          rintro e w3 ⟨rfl, hf3⟩
          exact ⟨_, rfl, rfl, hf3, by intro h; cases h⟩
        · refine StepN.run rfl (fun vs w2 hf hp => ?_)
          obtain ⟨h1, h2, -⟩ := hp
          have h1 : vs 0 = .agg #[.int .i64 5, .string ⟨#[97]⟩, .string ⟨#[]⟩, .int .i64 0] := h1
          have h2 : vs 1 = .agg #[.int .i64 5, .string ⟨#[98]⟩, .string ⟨#[]⟩, .int .i64 0] := h2
          exact ⟨.slice (some ⟨w2.heap.size, 0, none⟩) 2 2, w2.alloc (.cells #[.int .i64 5, .string ⟨#[97]⟩, .string ⟨#[]⟩, .int .i64 0, .int .i64 5, .string ⟨#[98]⟩, .string ⟨#[]⟩, .int .i64 0] 26), by go_simp, ⟨_, rfl, reads_ops2 w2 (rdO ⟨#[97]⟩) (rdO ⟨#[98]⟩) _⟩, Fr.alloc _ _ _, by intro h; cases h⟩
        · refine StepN.quiet rfl _ rfl (fun vs w2 hf hp => ?_)
          have hm := HMV7.out w2 hf
          have c0 := hm.c0
          have c1 := hm.c1
          go_simp
        · refine StepN.call rfl 10 (fun vs => #[.string ⟨#[116]⟩, vs 2, vs 3]) (fun vs w2 hf hp => by go_simp) (fun vs w2 hf hp => ?_)
          obtain ⟨h1, h2, -⟩ := hp
          obtain ⟨b, h1, hrd⟩ := h1
          have h1 : vs 2 = .slice (some ⟨b, 0, none⟩) 2 2 := h1
          have h2 : vs 3 = .agg #[.int .i64 1, .slice a 1 c] := h2
          have hrd : Reads w2 (vs 2) 2 4 (rowO [rdO ⟨#[97]⟩, rdO ⟨#[98]⟩]) := hrd
          rw [h1] at hrd
          simp only [h1, h2]
          refine (newTx_any w2 ⟨#[116]⟩ (by intro e; cases e) _ 2 2 [rdO ⟨#[97]⟩, rdO ⟨#[98]⟩] hrd rfl (by decide) (by decide) (by intro x hx; simp at hx; rcases hx with rfl | rfl <;> (unfold maxLen rdO; decide)) 1 a 1 c (newP 1 1) (HMV7.out w2 hf).2 new_right.1).mono ?_
          rintro e w3 ⟨tb, rfl, ht, hf3⟩
          rw [newR_two] at ht
          have hs := hf.size
          exact ⟨_, rfl, ⟨tb, rfl, (ht.low hs).less (fun k hk => Nat.lt_of_lt_of_le hk hs)⟩, hf3, by intro h; cases h⟩
        · refine StepN.run rfl (fun vs w2 hf hp => ?_)
          obtain ⟨h1, -⟩ := hp
          obtain ⟨tb, h1, -⟩ := h1
          have h1 : vs 4 = .tuple #[.pointer (some ⟨tb, 0, none⟩), .int .i64 0] := h1
          exact ⟨vs 4, w2, by go_simp, ⟨rfl, tb, h1⟩, Fr.refl _ _, by intro h; cases h⟩
        · refine StepN.run rfl (fun vs w2 hf hp => ?_)
          obtain ⟨h1, -⟩ := hp
          obtain ⟨-, tb, h1⟩ := h1
          have h1 : vs 5 = .tuple #[.pointer (some ⟨tb, 0, none⟩), .int .i64 0] := h1
          exact ⟨.pointer (some ⟨tb, 0, none⟩), w2, by go_simp, h1, Fr.refl _ _, by intro h; cases h⟩
        · refine StepN.quiet rfl _ rfl (fun vs w2 hf hp => ?_)
          obtain ⟨h1, -⟩ := hp
          obtain ⟨-, tb, h1⟩ := h1
          have h1 : vs 5 = .tuple #[.pointer (some ⟨tb, 0, none⟩), .int .i64 0] := h1
          go_simp
        · refine StepN.run rfl (fun vs w2 hf hp => ⟨vs 6, w2, by go_simp, rfl, Fr.refl _ _, by intro h; cases h⟩)
        · refine StepN.quiet rfl _ rfl (fun vs w2 hf hp => ?_)
          obtain ⟨h1, -⟩ := hp
          have h1 : vs 7 = .int .i64 0 := h1
          go_simp
        intro vs w8 hf8 he _
        obtain ⟨⟨tb, h3, ht⟩, -⟩ := he.get 4 (by decide)
        obtain ⟨⟨h4, -⟩, -⟩ := he.get 5 (by decide)
        have h5 := (he.get 6 (by decide)).1
        have h7 : vs 8 = vs 6 := (he.get 8 (by decide)).1
        have h8 : vs 9 = .int .i64 0 := (he.get 9 (by decide)).1
        have h5 : vs 6 = .pointer (some ⟨tb, 0, none⟩) := by
          have h5 : vs 5 = .tuple #[vs 6, .int .i64 0] := h5
          rw [show vs 5 = vs 4 from h4, show vs 4 = _ from h3] at h5
          injection h5 with h5; have := Array.mk.inj h5; simp at this; exact this.symm
        rw [h5] at h7
        rw [h7, h8]
        have HT := hide ht
        have HF8 := hide hf8
        clear he h3 h4 h5 h7 h8 ht hf8
        go_wp2_with fail
        go_meet
        case rel => exact ⟨tb, rfl, rfl, HT.out, HF8.out⟩
      case rest =>
        obtain ⟨tb, rfl, rfl, HT, HF8⟩ := hcut
        obtain ⟨w8, hw8⟩ : ∃ w8, wc = w8 := ⟨_, rfl⟩
        rw [hw8] at HT HF8
        rw [hw8]
        obtain ⟨b0, hb0⟩ : ∃ b0, w7.heap.size = b0 := ⟨_, rfl⟩
        rw [hb0] at HT
        have hF8 : Fr (fun k => b0 ≤ k) w7 w8 := HF8.out.mono (fun _ _ h => h.elim)
        have hb8 : b0 ≤ w8.heap.size := by have := HF8.out.size; omega
        have hF7 : Fr (fun _ => False) w w7 := HF2.out.trans HF7.out (fun _ _ h => h)
        have HB0 := hide hb0
        have HWW := hide hF7
        obtain ⟨X, hX⟩ : ∃ X, (fun k => k < b0) = X := ⟨_, rfl⟩
        rw [hX] at HT
        have HFA := hide hF8
        have t1 := ack_any w8 X b0 tb nK HT.out (by decide) (by decide) 0 (by decide)
        rw [ack1] at t1
        have T1 := hide t1
        clear t1 hw8 hF8 hF7 hb0 hX HF8
        go_wp2_with fail
        refine T1.out.mono ?_
        rintro e w9 ⟨rfl, ht9, hf9⟩
        have HF9 := hide (HFA.out.trans hf9 (fun _ _ h => h.1))
        have HT9 := hide ht9
        have ha9 : Fr (fun _ => False) w9 (w9.alloc (.cells #[.string ⟨#[111, 110, 101]⟩] 9)) := Fr.alloc _ _ _
        have t1 := vote_any (w9.alloc (.cells #[.string ⟨#[111, 110, 101]⟩] 9)) X b0 tb nK (ht9.fr0 ha9) (by decide) (by decide) (by have := HF9.out.size; have := HB0.out; have := ha9.size; omega) 0 (by decide) true _ [⟨#[111, 110, 101]⟩] (Reads.built w9 [.string ⟨#[111, 110, 101]⟩] 9) (by decide) 0 0
        rw [vote1] at t1
        have T1 := hide t1
        have HF9' := hide (HF9.out.trans ha9 (fun _ _ h => h.elim))
        clear t1 ht9 hf9 ha9
        go_wp2_with fail
        refine T1.out.mono ?_
        rintro e w10 ⟨rfl, ht10, hf10⟩
        have HF10 := hide (HF9'.out.trans hf10 (fun _ _ h => h.1))
        have HT10 := hide ht10
        clear ht10 hf10
        go_wp2_with fail
        refine (outcome_any w10 X b0 tb nK HT10.out).mono ?_
        rintro e w11 ⟨rfl, rfl⟩
        rw [show nK.o = 0 from rfl]
        have t1 := vote_any w11 X b0 tb nK HT10.out (by decide) (by decide) (by have := HF10.out.size; have := HB0.out; omega) 1 (by decide) false _ [] (Reads.nil _ _) (by decide) 0 30
        rw [vote2] at t1
        have T1 := hide t1
        clear t1
        go_wp2_with fail
        refine T1.out.mono ?_
        rintro e w12 ⟨rfl, ht12, hf12⟩
        have HF12 := hide (HF10.out.trans hf12 (fun _ _ h => h.1))
        have t1 := vote_any w12 X b0 tb nK ht12 (by decide) (by decide) (by have := HF12.out.size; have := HB0.out; omega) 0 (by decide) false _ [] (Reads.nil _ _) (by decide) 1 30
        rw [vote3] at t1
        have T1 := hide t1
        clear t1 ht12 hf12
        go_wp2_with fail
        refine T1.out.mono ?_
        rintro e w13 ⟨rfl, ht13, hf13⟩
        have HF13 := hide (HF12.out.trans hf13 (fun _ _ h => h.1))
        have ha13 : Fr (fun _ => False) w13 (w13.alloc (.cells #[.string ⟨#[120]⟩, .string ⟨#[121]⟩] 9)) := Fr.alloc _ _ _
        have t1 := vote_any (w13.alloc (.cells #[.string ⟨#[120]⟩, .string ⟨#[121]⟩] 9)) X b0 tb nR (ht13.fr0 ha13) (by decide) (by decide) (by have := HF13.out.size; have := HB0.out; have := ha13.size; omega) 0 (by decide) true _ [⟨#[120]⟩, ⟨#[121]⟩] (Reads.built w13 [.string ⟨#[120]⟩, .string ⟨#[121]⟩] 9) (by decide) 0 0
        rw [vote4] at t1
        have T1 := hide t1
        have HF13' := hide (HF13.out.trans ha13 (fun _ _ h => h.elim))
        clear t1 ht13 hf13 ha13
        go_wp2_with fail
        refine T1.out.mono ?_
        rintro e w14 ⟨rfl, ht14, hf14⟩
        have HF14 := hide (HF13'.out.trans hf14 (fun _ _ h => h.1))
        have t1 := late_any w14 X b0 tb nR ht14
        rw [late1] at t1
        have T1 := hide t1
        clear t1 ht14 hf14
        go_wp2_with fail
        refine T1.out.mono ?_
        rintro e w15 ⟨rfl, ht15, hf15⟩
        have HF15 := hide (HF14.out.trans hf15 (fun _ _ h => h.1))
        have t1 := left_any w15 X b0 tb nR ht15 goodR
        rw [left1] at t1
        have T1 := hide t1
        have HT15 := hide ht15
        clear t1 ht15 hf15
        go_wp2_with fail
        refine T1.out.mono ?_
        rintro e w16 ⟨v16, rfl, hr16, hf16, hb16⟩
        have ht16 := HT15.out.more hf16
        obtain ⟨X2, hX2⟩ : ∃ X2, (fun k => X k ∨ (w15.heap.size ≤ k ∧ k < w16.heap.size)) = X2 := ⟨_, rfl⟩
        rw [hX2] at ht16
        have HF16 := hide (HF15.out.trans hf16 (fun _ _ h => h.elim))
        obtain ⟨-, a16, c16, rfl, -, -, -⟩ := id hr16
        have hx16 : ∀ q, foot (.slice a16 1 c16) = some q → X2 q := fun q hq => by rw [← hX2]; exact .inr (hb16 q hq)
        have HX16 := hide hx16
        have HR16 := hide hr16
        have t1 := ack_any w16 X2 b0 tb nR ht16 (by decide) (by decide) 0 (by decide)
        rw [ack2] at t1
        have T1 := hide t1
        clear t1 ht16 hf16 hb16 hX2 hx16 hr16
        go_wp2_with fail
        refine T1.out.mono ?_
        rintro e w17 ⟨rfl, ht17, hf17⟩
        have HF17 := hide (HF16.out.trans hf17 (fun _ _ h => h.1))
        have HR17 := hide (HR16.out.fr hf17 (fun a n c e h => by cases e; exact h.2 (HX16.out _ rfl)))
        have HT17 := hide ht17
        have hcv := Go.Lib.run_convert_bytes_const (P := Try.prog) w17 57 5 #[.int .u8 110, .int .u8 111, .int .u8 32, .int .u8 115, .int .u8 97, .int .u8 118, .int .u8 101] 7 7 Try.underlying57 Try.underlying5
        obtain ⟨y1, hy1⟩ : ∃ y, w17.alloc (.cells #[.int .u8 110, .int .u8 111, .int .u8 32, .int .u8 115, .int .u8 97, .int .u8 118, .int .u8 101] 5 (7, 8)) = y := ⟨_, rfl⟩
        have hcv' : _ = Result.ok (Value.slice (some ⟨w17.heap.size, 0, none⟩) 7 7) y1 := hcv.trans (by rw [← hy1]; rfl)
        have hfy : Fr (fun _ => False) w17 y1 := by rw [← hy1]; exact Fr.alloc _ _ _
        have hby : Reads y1 (.slice (some ⟨w17.heap.size, 0, none⟩) 7 7) noB.length 1 (bc noB) :=
          ⟨rfl, _, _, rfl, (by intro h; cases h), Nat.le_refl _, fun i u hu => ⟨_, _, rfl, by rw [← hy1, cell_of_block (block_alloc w17 _)]; simpa [bc, noB] using hu⟩⟩
        have hln := txLoadNo y1 _ noB hby (by decide) noR no1 no2 no3
        have HLN := hide hln
        have HFY := hide (HF17.out.trans hfy (fun _ _ h => h.elim))
        have HTY := hide (ht17.fr0 hfy)
        have HRY := hide (reads_old HR17.out hfy (fun _ _ h => h))
        clear ht17 hf17 hcv hy1 hfy hby hln
        go_wp2_with fail
        refine HLN.out.mono ?_
        rintro e w18 ⟨rfl, hf18⟩
        have HF18 := hide (HFY.out.trans hf18 (fun _ _ h => h.elim))
        have HT18 := hide (HTY.out.fr0 hf18)
        have HR18 := hide (reads_old HRY.out hf18 (fun _ _ h => h))
        have t1 := reply_any w18 X2 b0 tb nR2 HT18.out goodR2.ok
        rw [texts2] at t1
        have t1 : Calls Try.prog 13 #[.pointer (some ⟨tb, 0, none⟩)] w18 fun e w' => ∃ a n c, e = .returned (.agg #[.int .i64 3, .slice a n c, .int .i64 1, .int .i64 30]) ∧ Reads w' (.slice a n c) ([] : List ByteArray).length 1 (([] : List ByteArray).map .string) ∧ Fr (fun _ => False) w18 w' ∧ ∀ b, foot (.slice a n c) = some b → w18.heap.size ≤ b ∧ b < w'.heap.size := t1
        have T1 := hide t1
        clear t1 hf18
        go_wp2_with fail
        refine T1.out.mono ?_
        rintro e w19 ⟨a19, n19, c19, rfl, hr19, hf19, -⟩
        have HF19 := hide (HF18.out.trans hf19 (fun _ _ h => h.elim))
        have HT19 := hide (HT18.out.fr0 hf19)
        have HR19 := hide (reads_old HR18.out hf19 (fun _ _ h => h))
        have t1 := keepReply_any w19 3 1 30 a19 n19 c19 [] hr19 3 1 30 none 0 0 [] (Reads.nil _ _) (by decide)
        have t1 : Calls Try.prog 18 #[.agg #[.int .i64 3, .slice a19 n19 c19, .int .i64 1, .int .i64 30], .agg #[.int .i64 3, .slice none 0 0, .int .i64 1, .int .i64 30]] w19 fun e w' => e = .returned (.bool true) ∧ Fr (fun _ => False) w19 w' := by
          refine t1.mono ?_
          rintro e w' ⟨rfl, h⟩
          exact ⟨by simp, h⟩
        have T1 := hide t1
        clear t1 hr19 hf19
        go_wp2_with fail
        refine T1.out.mono ?_
        rintro e w20 ⟨rfl, hf20⟩
        have HF20 := hide (HF19.out.trans hf20 (fun _ _ h => h.elim))
        have HT20 := hide (HT19.out.fr0 hf20)
        have hr20 := reads_old HR19.out hf20 (fun _ _ h => h)
        have ha20 : Fr (fun _ => False) w20 (w20.alloc (.cells #[.int .i64 0] 3)) := Fr.alloc _ _ _
        have t1 := same_any (w20.alloc (.cells #[.int .i64 0] 3)) (.slice a16 1 c16) (.slice (some ⟨w20.heap.size, 0, none⟩) 1 1) [0] [0] (reads_old hr20 ha20 (fun _ _ h => h)) (Reads.built w20 [.int .i64 0] 3) (by decide)
        have HF20' := hide (HF20.out.trans ha20 (fun _ _ h => h.elim))
        have HT20' := hide (HT20.out.fr0 ha20)
        have T1 := hide t1
        clear t1 hr20 ha20 hf20
        go_wp2_with fail
        refine T1.out.mono ?_
        rintro e w21 ⟨he, mq, rfl⟩
        have he : e = .returned (.bool true) := he
        subst he
        have hdr : Fr (fun _ => False) (w20.alloc (.cells #[.int .i64 0] 3)) ((w20.alloc (.cells #[.int .i64 0] 3)).drewN mq) := (Fr.refl _ _).drewN mq
        have HF21 := hide (HF20'.out.trans hdr (fun _ _ h => h.elim))
        have ht21 := HT20'.out.fr0 hdr
        obtain ⟨w21, hw21⟩ : ∃ w21, (w20.alloc (.cells #[.int .i64 0] 3)).drewN mq = w21 := ⟨_, rfl⟩
        rw [hw21] at HF21 ht21
        rw [hw21]
        have t1 := left_any w21 X2 b0 tb nR2 ht21 goodR2
        rw [left2] at t1
        have T1 := hide t1
        clear t1 ht21 hdr hw21
        go_wp2_with fail
        refine T1.out.mono ?_
        rintro e w22 ⟨v22, rfl, hr22, hf22, -⟩
        obtain ⟨-, a22, c22, rfl, -, -, -⟩ := id hr22
        have HF22 := hide (HF21.out.trans hf22 (fun _ _ h => h.elim))
        clear hr22 hf22
        go_wp2_with fail
        refine (known_any w22).mono ?_
        rintro e w23 ⟨rfl, hf23⟩
        have HF23 := hide (HF22.out.trans hf23 (fun _ _ h => h.elim))
        clear hf23
        go_wp2_with fail
        go_ret
        have hsz := HWW.out.size
        have hb0 := HB0.out
        exact ⟨rfl, ((HWW.out.mono (S' := fun k => b0 ≤ k) (fun _ _ h => h.elim)).trans HF23.out (fun _ _ h => h)).toBelow (Nat.le_refl _) (fun q hq h => by omega)⟩
end Go.Proofs.Ytehneddmamnmiaa.TxnNumbers
