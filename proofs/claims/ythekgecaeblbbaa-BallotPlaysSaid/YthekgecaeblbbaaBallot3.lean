/- Prepare of ballot; conclavekeep.Votes. -/
import Derived.Test.YthekgecaeblbbaaBallotVotes
import Derived.Test.YthekgecaeblbbaaRows2
namespace Go.Proofs.Ythekgecaeblbbaa
open Go.RowKit Go.Maps Go.Cv
set_option linter.unusedVariables false

/-- What Prepare leaves. -/
def Prepared (w : World) (ab mb n : Nat) (b : Bt) (l : List Vt) (s : Int) (q : Bool) (e : Ending) (w' : World) : Prop :=
  ∃ v, e = .returned (.tuple #[.bool q, v]) ∧
      ((q = false ∧ v = .slice none 0 0 ∧ Fr (fun _ => False) w w') ∨ (q = true ∧ Ac w' ab mb n b l ∧ w'.ownsRow w.heap.size 40 4 v (fromV l s).length (rowV (fromV l s)) ∧ Fr (fun k => k = ab) w w'))

set_option maxRecDepth 100000 in
set_option maxHeartbeats 1600000 in
theorem prepare_any (w : World) (ab mb n : Nat) (p : Bt) (l : List Vt) (h : Ac w ab mb n p l) (hn : n ≤ 1000000) (b : Bt) (s : Int) :
    Calls Try.prog 15 #[.pointer (some ⟨ab, 0, none⟩), .agg (bcells b), .int .i64 s] w (Prepared w ab mb n b l s (less p b)) := by
  obtain ⟨p1, p2⟩ := p
  obtain ⟨b1, b2⟩ := b
  have hL : ∀ w, Calls Try.prog 9 #[.agg #[.int .i64 p1, .int .i64 p2], .agg #[.int .i64 b1, .int .i64 b2]] w fun e w' => e = .returned (.bool (less (p1, p2) (b1, b2))) ∧ Fr (fun _ => False) w w' := fun w => less_any w (p1, p2) (b1, b2)
  generalize less (p1, p2) (b1, b2) = q at *
  have hab := lt_of_block h.blk
  have hmb := h.map.lt
  obtain ⟨w0, hw0⟩ : ∃ w0, w.alloc (.cells #[.int .i64 b1, .int .i64 b2] 23) = w0 := ⟨_, rfl⟩
  have hF : Fr (fun _ => False) w w0 := by rw [← hw0]; exact Fr.alloc _ _ _
  have hxb : w0.heap[w.heap.size]? = some (.cells #[.int .i64 b1, .int .i64 b2] 23 (0, 0)) := by rw [← hw0]; exact block_alloc _ _
  have hA0 := h.fr0 hF
  have hC : ∀ wx, Fr (fun _ => False) w0 wx → wx.cell? ⟨ab, 0, none⟩ = some (.int .i64 p1) ∧ wx.cell? ⟨ab, 1, none⟩ = some (.int .i64 p2) ∧ wx.cell? ⟨w.heap.size, 0, none⟩ = some (.int .i64 b1) ∧ wx.cell? ⟨w.heap.size, 1, none⟩ = some (.int .i64 b2) ∧ wx.frozen? ⟨ab, 0, none⟩ = false ∧ wx.frozen? ⟨ab, 1, none⟩ = false := fun wx hf => by
    have e1 := (hA0.fr0 hf).blk
    have e2 := (hf.block _ (lt_of_block hxb) id).trans hxb
    exact ⟨by rw [cell_of_block e1]; rfl, by rw [cell_of_block e1]; rfl, by rw [cell_of_block e2]; rfl, by rw [cell_of_block e2]; rfl, free_of_block e1, free_of_block e1⟩
  obtain ⟨k0, k1, k2, k3, k4, k5⟩ := hC w0 (Fr.refl _ _)
  have HC := hide hC
  have HW0 := hide hw0
  have HF := hide hF
  have HL := hide hL
  have HA := hide hA0
  have hs0 : w.heap.size < w0.heap.size := lt_of_block hxb
  clear hC hw0 hF hL hA0 h hxb
  show Calls _ _ #[.pointer (some ⟨ab, 0, none⟩), .agg #[.int .i64 b1, .int .i64 b2], .int .i64 s] w _
  cases q with
  | false =>
    go_enter Try.func15, Try.ntmps15
    go_wp2_with fail
    rw [HW0.out]
    go_region_held3 (fun w' => w'.cell? ⟨ab, 0, none⟩ = some (.int .i64 p1) ∧ w'.cell? ⟨ab, 1, none⟩ = some (.int .i64 p2) ∧ w'.cell? ⟨w.heap.size, 0, none⟩ = some (.int .i64 b1) ∧ w'.cell? ⟨w.heap.size, 1, none⟩ = some (.int .i64 b2))
      (go_keep)
      ((go_at_call 9; refine (HL.out _).mono ?_; rintro e w1 ⟨rfl, hf1⟩; have hf2 := (Fr.refl (fun _ => False) w0).drew.trans hf1 (fun _ _ h => h); obtain ⟨g0, g1, g2, g3, g4, g5⟩ := HC.out w1 hf2; have HF2 := hide hf2; clear hf1 hf2))
    all_goals
      go_wp2_with fail
      go_ret2
      unfold Prepared
      exact ⟨_, rfl, .inl ⟨rfl, rfl, HF.out.trans HF2.out (fun _ _ h => h)⟩⟩
  | true =>
    go_enter Try.func15, Try.ntmps15
    go_wp2_with fail
    rw [HW0.out]
    go_region_held3 (fun w' => w'.cell? ⟨ab, 0, none⟩ = some (.int .i64 p1) ∧ w'.cell? ⟨ab, 1, none⟩ = some (.int .i64 p2) ∧ w'.cell? ⟨w.heap.size, 0, none⟩ = some (.int .i64 b1) ∧ w'.cell? ⟨w.heap.size, 1, none⟩ = some (.int .i64 b2))
      (go_keep)
      ((go_at_call 9; refine (HL.out _).mono ?_; rintro e w1 ⟨rfl, hf1⟩; have hf2 := (Fr.refl (fun _ => False) w0).drew.trans hf1 (fun _ _ h => h); obtain ⟨g0, g1, g2, g3, g4, g5⟩ := HC.out w1 hf2; have HF2 := hide hf2; clear hf1 hf2))
    all_goals
      have HA1 := hide (HA.out.fr0 HF2.out)
      obtain ⟨w2, hw2⟩ : ∃ w2, (w1.setCell ⟨ab, 0, none⟩ (.int .i64 b1)).setCell ⟨ab, 1, none⟩ (.int .i64 b2) = w2 := ⟨_, rfl⟩
      have hf3 : Fr (fun k => k = ab) w1 w2 := by rw [← hw2]; exact (Fr.setCell (S := fun k => k = ab) _ _ _ rfl).trans (Fr.setCell (S := fun k => k = ab) _ _ _ rfl) (fun _ _ h => h)
      have hA2 : Ac w2 ab mb n (b1, b2) l := by
        refine ⟨?_, HA1.out.map.of_block (hf3.block mb HA1.out.map.lt (fun e => HA1.out.ne e.symm)), HA1.out.ne, HA1.out.st, HA1.out.sl⟩
        rw [← hw2, block_setCell (block_setCell HA1.out.blk _)]; rfl
      have HV := hide (votes_any w2 ab mb n (b1, b2) l hA2 hn s)
      have HW2 := hide hw2
      have HA2 := hide hA2
      have hfw := (HF.out.trans HF2.out (fun _ _ h => h)).mono (S' := fun k => k = ab) (fun _ _ h => h.elim)
      have HF3 := hide (hfw.trans hf3 (fun _ _ h => h))
      clear hw2 hf3 hA2 hfw
      go_wp2_with fail
      rw [HW2.out]
      refine HV.out.mono ?_
      rintro e w4 ⟨v, rfl, ho, hf⟩
      obtain ⟨a9, c9, rfl⟩ := own_shape ho
      have HO := hide ho
      have HF4 := hide hf
      clear ho hf
      go_wp2_with fail
      go_ret2
      unfold Prepared
      exact ⟨_, rfl, .inr ⟨rfl, HA2.out.fr0 HF4.out, own_base HO.out HF3.out.size, HF3.out.trans HF4.out (fun _ _ h => h.elim)⟩⟩

theorem run_neqV (w : World) (x y : Vt) : (binOp .neq 40 (vval x) (vval y)).run Try.prog w = .ok (.bool (decide (x ≠ y))) w := by
  obtain ⟨a, ⟨b, c⟩, d⟩ := x
  obtain ⟨a', ⟨b', c'⟩, d'⟩ := y
  have u3 := Try.underlying3
  have a3 := Try.isAgg3
  have z3 := Try.sizeOf3
  have u9 := Try.underlying9
  have a9 := Try.isAgg9
  have z9 := Try.sizeOf9
  have ab := Try.isAgg23
  have zb := Try.sizeOf23
  have hS : Try.prog.underlying 40 = some (.struct (Try.prog.fieldsOf 40)) := by kernel_rfl
  have hp : Try.prog.stoodInHeld 40 = false := by kernel_rfl
  have hS2 : Try.prog.underlying 23 = some (.struct (Try.prog.fieldsOf 23)) := by kernel_rfl
  have hp2 : Try.prog.stoodInHeld 23 = false := by kernel_rfl
  have hB : ∀ w, (Op.equalIn 9999 23 (.agg #[.int .i64 b, .int .i64 c]) (.agg #[.int .i64 b', .int .i64 c'])).run Try.prog w = .ok (b == b' && c == c') w := fun w => by
    rw [show (9999 : Nat) = 9998 + 1 from rfl, run_equalIn_agg w 9998 23 _ _ hS2 hp2]
    simp only [Program.fieldsOf, Try.underlying23]
    go_simp
    by_cases h1 : b = b' <;> by_cases h2 : c = c' <;> simp [h1, h2]
  show (binOp .neq 40 (.agg #[.int .i64 a, .int .i64 b, .int .i64 c, .string d]) (.agg #[.int .i64 a', .int .i64 b', .int .i64 c', .string d'])).run Try.prog w = _
  rw [run_neq_struct, show (10000 : Nat) = 9999 + 1 from rfl, run_equalIn_agg w 9999 40 _ _ hS hp]
  simp only [Program.fieldsOf, Try.underlying40]
  go_simp
  have hd : (d.toList = d'.toList) ↔ d = d' := by
    rw [ByteArray.toList_eq, ByteArray.toList_eq]
    constructor
    · intro e; cases d; cases d'; simp at e; simp [e]
    · rintro rfl; rfl
  by_cases h1 : a = a' <;> by_cases h2 : b = b' <;> by_cases h3 : c = c' <;> by_cases h4 : d = d' <;> simp [h1, h2, h3, h4, hd]

set_option maxRecDepth 100000 in
set_option maxHeartbeats 800000 in
theorem keepVotes_any (w : World) (v1 v2 : Value) (l1 l2 : List Vt) (h1 : Reads w v1 l1.length 4 (rowV l1)) (h2 : Reads w v2 l2.length 4 (rowV l2)) (hb1 : l1.length ≤ 9223372036854775807) :
    Calls Try.prog 18 #[v1, v2] w fun e w' => e = .returned (.bool (decide (l1 = l2))) ∧ ∃ m, w' = w.drewN m := by
  have h1' := h1
  have h2' := h2
  obtain ⟨-, a1, c1, rfl, -, -, -⟩ := h1'
  obtain ⟨-, a2, c2, rfl, -, -, -⟩ := h2'
  by_cases hlen : l1.length = l2.length
  · have hne : (((l1.length : Int)) != ((l2.length : Int))) = false := by simp [hlen]
    obtain ⟨d, hd⟩ : ∃ d, decide (l1 = l2) = d := ⟨_, rfl⟩
    rw [hd]
    have HL := hide hlen
    have HD := hide hd
    have H1 := hide h1
    have H2 := hide h2
    clear hlen hd h1 h2
    go_enter Try.func18, Try.ntmps18
    go_wp2
    go_loopw [5] (fun i wr => ∃ k m : Nat, k ≤ l1.length ∧ i = .int .i64 k ∧ wr = w.drewN m ∧ l1.take k = l2.take k) (fun i _ => l1.length - (intOf i).toNat)
    case atStart => exact ⟨0, 0, by omega, rfl, rfl, rfl⟩
    case round =>
      obtain ⟨k, m, hk, rfl, rfl, htake⟩ := hrel
      have HT := hide htake
      clear htake
      by_cases hlt : k < l1.length
      · have hlen := HL.out
        obtain ⟨x, g1⟩ : ∃ x, l1[k]? = some x := ⟨_, List.getElem?_eq_getElem hlt⟩
        obtain ⟨y, g2⟩ : ∃ y, l2[k]? = some y := ⟨_, List.getElem?_eq_getElem (by omega)⟩
        obtain ⟨b1, o1, rfl, hl1, hc1⟩ := row_cells vcells_len H1.out g1 (by decide)
        obtain ⟨b2, o2, rfl, hl2, hc2⟩ := row_cells vcells_len H2.out g2 (by decide)
        have hneq := run_neqV w x y
        obtain ⟨x1, ⟨x2, x3⟩, x4⟩ := x
        obtain ⟨y1, ⟨y2, y3⟩, y4⟩ := y
        have e0 := hc1 0 (.int .i64 x1) rfl w rfl
        have e1 := hc1 1 (.int .i64 x2) rfl w rfl
        have e2 := hc1 2 (.int .i64 x3) rfl w rfl
        have e3 := hc1 3 (.string x4) rfl w rfl
        have f0 := hc2 0 (.int .i64 y1) rfl w rfl
        have f1 := hc2 1 (.int .i64 y2) rfl w rfl
        have f2 := hc2 2 (.int .i64 y3) rfl w rfl
        have f3 := hc2 3 (.string y4) rfl w rfl
        rw [Nat.add_zero] at e0 f0
        have hi0 : (0 : Int) ≤ (k : Int) := by omega
        have hi1 : (k : Int) < (l1.length : Int) := by omega
        have hi2 : (k : Int) < (l2.length : Int) := by omega
        have G1 := hide g1
        have G2 := hide g2
        have hneq2 : ∀ w : World, (binOp .neq 40 (.agg #[.int .i64 x1, .int .i64 x2, .int .i64 x3, .string x4]) (.agg #[.int .i64 y1, .int .i64 y2, .int .i64 y3, .string y4])).run Try.prog w = .ok (.bool (decide ((x1, (x2, x3), x4) ≠ (y1, (y2, y3), y4)))) w := fun w => run_neqV w (x1, (x2, x3), x4) (y1, (y2, y3), y4)
        clear hlen g1 g2 hc1 hc2 hneq
        by_cases hxy : ((x1, (x2, x3), x4) : Vt) = (y1, (y2, y3), y4)
        · have HXY := hide hxy
          have hq : decide (((x1, (x2, x3), x4) : Vt) ≠ (y1, (y2, y3), y4)) = false := by simp only [ne_eq, hxy, not_true_eq_false, decide_false]
          rw [hq] at hneq2
          clear hxy hq
          go_wp2
          go_quiet (fail)
          go_wp2
          go_roundw
          case rel => exact ⟨k + 1, _, by omega, by go_num, rfl, take_eq_succ HT.out G1.out G2.out HXY.out⟩
          case measure => simp [intOf]; omega
        · have HXY := hide hxy
          have hq : decide (((x1, (x2, x3), x4) : Vt) ≠ (y1, (y2, y3), y4)) = true := by simp only [ne_eq, hxy, not_false_eq_true, decide_true]
          rw [hq] at hneq2
          clear hxy hq
          go_wp2
          go_quiet (fail)
          go_wp2
          go_ret
          refine ⟨?_, _, (World.drewN_drewN _ _ _)⟩
          rw [← HD.out]
          have : l1 ≠ l2 := fun e => HXY.out (by have h1 := G1.out; have h2 := G2.out; rw [e, h2] at h1; exact (Option.some.inj h1).symm)
          simp [this]
      · obtain rfl : k = l1.length := by omega
        go_wp2
        go_ret
        refine ⟨?_, _, rfl⟩
        rw [← HD.out]
        have := HT.out
        rw [List.take_of_length_le (Nat.le_refl _), List.take_of_length_le (by rw [HL.out]; exact Nat.le_refl _)] at this
        simp [this]
  · have hne : (((l1.length : Int)) != ((l2.length : Int))) = true := by rw [bne_iff_ne]; omega
    have hd : decide (l1 = l2) = false := by simp; intro e; exact hlen (by rw [e])
    rw [hd]
    clear hd
    go_enter Try.func18, Try.ntmps18
    go_wp2
    go_ret
    exact ⟨rfl, 0, rfl⟩
end Go.Proofs.Ythekgecaeblbbaa
