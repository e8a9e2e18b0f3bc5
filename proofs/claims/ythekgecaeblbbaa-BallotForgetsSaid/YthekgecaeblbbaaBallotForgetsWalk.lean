/- BallotForgets's walk. -/
import Derived.Test.YthekgecaeblbbaaBallotForget
import Derived.Test.YthekgecaeblbbaaWithin
namespace Go.Proofs.Ythekgecaeblbbaa.BallotForgets
open Go.RowKit Go.Maps Go.Cv
set_option linter.unusedVariables false

/-- One call: kind, slot, ballot, value. -/
abbrev Ask5 := Int × Int × Bt × ByteArray
abbrev cellsAsk (a : Ask5) : List Value := [.int .i64 a.1, .int .i64 a.2.1, .int .i64 a.2.2.1.1, .int .i64 a.2.2.1.2, .string a.2.2.2]

theorem fromV_from (l : List Vt) (s : Int) : fromV (fromV l s) s = fromV l s := by simp [fromV]

set_option maxRecDepth 100000 in
set_option maxHeartbeats 6400000 in
theorem walk (w : World) (v0 : Value) (l0 : List Ask5) (h0 : Reads w v0 l0.length 5 (l0.flatMap cellsAsk)) (_ : ∀ a ∈ l0, (Lit.int .i64 a.1).wf = true ∧ (Lit.int .i64 a.2.1).wf = true ∧ ((Lit.int .i64 a.2.2.1.1).wf = true ∧ (Lit.int .i64 a.2.2.1.2).wf = true) ∧ a.2.2.2.size ≤ maxLen) (_ : l0.length ≤ maxLen)
    (x1 : Int) (_ : (Lit.int .i64 x1).wf = true) :
    Calls Try.prog 5 #[v0, .int .i64 x1] w fun e w' => e = .returned (.bool true) ∧ Below w.heap.size w w' := by
  obtain ⟨n0, hn0⟩ : ∃ n, l0.length = n := ⟨_, rfl⟩
  have h0' := h0
  rw [hn0] at h0'
  obtain ⟨-, a0, c0, rfl, -, -, -⟩ := h0'
  have HR0 := hide h0
  have HN0 := hide hn0
  clear h0 hn0
  go_enter Try.func5, Try.ntmps5
  go_wp2_with fail
  refine (newAcd w).mono ?_
  rintro e w1 ⟨ab, rfl, ha, hf⟩
  obtain ⟨D, hD⟩ : ∃ D, w1.heap.size = D := ⟨_, rfl⟩
  rw [hD] at ha
  have hwD : w.heap.size ≤ D := by rw [← hD]; exact hf.size
  have A1 := hide ha
  have F1 := hide (hf.mono (S' := fun k => w.heap.size ≤ k) (fun _ _ h => h.elim))
  have HD := hide (show D ≤ w1.heap.size by omega)
  clear ha hf hD
  go_wp2_with fail
  go_loopw [6] (fun i wr => ∃ (k : Nat) (p : Bt) (l : List Vt), i = .int .i64 k ∧ k ≤ 30 ∧ Acd wr w.heap.size D ab k p l ∧ Fr (fun j => w.heap.size ≤ j) w wr ∧ D ≤ wr.heap.size)
    (fun i _ => 30 - (intOf i).toNat)
  case atStart => exact ⟨0, (0, 0), [], rfl, by omega, A1.out, F1.out, HD.out⟩
  case round =>
    obtain ⟨k, p, l, rfl, hk, ha, hf, hDw⟩ := hrel
    have HA := hide ha
    have HF := hide hf
    clear ha hf
    by_cases hgo : k < n0 ∧ k < 30
    · obtain ⟨hg1, hg2⟩ := hgo
      obtain ⟨x, hx⟩ : ∃ x, l0[k]? = some x := ⟨_, List.getElem?_eq_getElem (by have := HN0.out; omega)⟩
      obtain ⟨b0, o0, rfl, hlt0, hcells⟩ := row_cells (toC := cellsAsk) (s := 5) (fun _ => rfl) (by have := HR0.out; rw [HN0.out] at this; exact this) hx (by decide)
      obtain ⟨kind, slot, ⟨r, nd⟩, vv⟩ := x
      have hbk := HF.out.block _ hlt0 (by omega)
      have e1 := hcells 1 (.int .i64 slot) rfl wr hbk
      have e2 := hcells 2 (.int .i64 r) rfl wr hbk
      have e3 := hcells 3 (.int .i64 nd) rfl wr hbk
      have e4 := hcells 4 (.string vv) rfl wr hbk
      have ik0 : (0 : Int) ≤ (k : Int) := by omega
      have ik1 : (k : Int) < (n0 : Int) := by omega
      have hacc : ∀ s, Calls Try.prog 16 #[.pointer (some ⟨ab, 0, none⟩), .agg #[.int .i64 r, .int .i64 nd], .int .i64 s, .string vv] wr.drew _ := fun s =>
        acceptAcd wr.drew _ D ab k p l (HA.out.fr0 (Fr.refl (fun _ => False) wr).drew) (by omega) (r, nd) s vv
      have HACC := hide hacc
      have hce : ∀ wx, Fr (fun j => w.heap.size ≤ j) w wx → wx.cell? ⟨b0, o0 + k * 5 + 1, none⟩ = some (.int .i64 slot) ∧ wx.cell? ⟨b0, o0 + k * 5 + 2, none⟩ = some (.int .i64 r) ∧ wx.cell? ⟨b0, o0 + k * 5 + 3, none⟩ = some (.int .i64 nd) ∧ wx.cell? ⟨b0, o0 + k * 5 + 4, none⟩ = some (.string vv) := fun wx hf => by
        have hbk := hf.block _ hlt0 (by omega)
        exact ⟨hcells 1 _ rfl wx hbk, hcells 2 _ rfl wx hbk, hcells 3 _ rfl wx hbk, hcells 4 _ rfl wx hbk⟩
      have HCE := hide hce
      clear hcells hx hbk hacc hce
      go_wp2_with fail
      go_region_held3 (fun w' => w'.cell? ⟨b0, o0 + k * 5 + 1, none⟩ = some (.int .i64 slot) ∧ w'.cell? ⟨b0, o0 + k * 5 + 2, none⟩ = some (.int .i64 r) ∧ w'.cell? ⟨b0, o0 + k * 5 + 3, none⟩ = some (.int .i64 nd) ∧ w'.cell? ⟨b0, o0 + k * 5 + 4, none⟩ = some (.string vv))
        (go_keep)
        (first
          | ((go_at_call 12; refine (within_ex _ slot 0 20 (by omega) (by omega) (by omega)).mono ?_; rintro e y1 ⟨s, rfl, hs0, hs20, rfl⟩))
          | ((go_at_call 16; refine (HACC.out s).mono ?_; rintro e y2 ⟨rfl, ha2, hf2⟩; have HA2 := hide ha2; have HF2 := hide hf2; obtain ⟨d1, d2, d3, d4⟩ := HCE.out y2 ((HF.out.drew).trans hf2 (fun j _ hj => hj.1)); clear ha2 hf2)))
      all_goals
        go_wp2_with fail
        go_roundw
        case rel =>
          refine ⟨k + 1, _, _, by go_num, by omega, HA2.out, (HF.out.drew).trans HF2.out (fun j _ hj => hj.1), ?_⟩
          have := HF2.out.size
          exact Nat.le_trans hDw this
        case measure => simp [intOf]; omega
    · have hex : n0 ≤ k ∨ (k < n0 ∧ 30 ≤ k) := by omega
      clear hgo
      rcases hex with hx | ⟨hx, hx2⟩
      all_goals
        go_wp2_with fail
        refine (within_ex _ x1 0 22 (by omega) (by omega) (by omega)).mono ?_
        rintro e w' ⟨s, rfl, hs0, hs5, rfl⟩
        go_wp2_with fail
        refine (promisedAcd wr _ D ab k p l HA.out).mono ?_
        obtain ⟨p1, p2⟩ := p
        rintro e y3 ⟨rfl, ha3, hf3⟩
        obtain ⟨qb, hqb⟩ : ∃ xb, y3.heap.size = xb := ⟨_, rfl⟩
        obtain ⟨y4, hy4⟩ : ∃ y, y3.alloc (.cells #[.int .i64 p1, .int .i64 p2] 23) = y := ⟨_, rfl⟩
        have hb4 : y4.heap[qb]? = some (.cells #[.int .i64 p1, .int .i64 p2] 23 (0, 0)) := by rw [← hy4, ← hqb]; exact block_alloc _ _
        have hfa : Fr (fun _ => False) y3 y4 := by rw [← hy4]; exact Fr.alloc _ _ _
        have hq2 : Fr (fun _ => False) wr y4 := hf3.trans hfa (fun _ _ h => h)
        have hqD : D ≤ qb := by have := hf3.size; omega
        have HB4 := hide hb4
        have HA4 := hide (ha3.fr0 hfa)
        have HF4 := hide (HF.out.trans hq2 (fun _ _ h => h.elim))
        have hD4 : D ≤ y4.heap.size := by have := hq2.size; omega
        have HY4 := hide hy4
        have HQB := hide hqb
        clear ha3 hf3 hb4 hfa hq2 hy4 hqb
        have HSH : bcells (p1, p2) = #[.int .i64 p1, .int .i64 p2] := rfl
        rw [HSH]
        clear HSH
        go_wp2_with fail
        rw [HY4.out, HQB.out]
        have hvo := votesAcd y4 _ D ab k (p1, p2) l HA4.out (by omega) s
        obtain ⟨l2, hl2⟩ : ∃ l2, fromV l s = l2 := ⟨_, rfl⟩
        rw [hl2] at hvo
        have HL2 := hide hl2
        have HVO := hide hvo
        clear hvo hl2
        refine HVO.out.mono ?_
        rintro e y5 ⟨v7, rfl, ho7, ha5, hf5⟩
        have hr7 := Reads.of_own ho7
        obtain ⟨a7, c7, rfl⟩ := own_shape ho7
        have HO7 := hide ho7
        have hb5 := (hf5.block qb (lt_of_block HB4.out) id).trans HB4.out
        have HB5 := hide hb5
        have HA5 := hide ha5
        have HF5 := hide (HF4.out.trans hf5 (fun _ _ h => h.elim))
        have hD5 : D ≤ y5.heap.size := by have := hf5.size; omega
        clear hb5 ha5 hf5 ho7
        go_wp2_with fail
        have hfo := forgetAcd y5 _ D ab k (p1, p2) l HA5.out s
        rw [HL2.out] at hfo
        have HFO := hide hfo
        clear hfo
        refine HFO.out.mono ?_
        rintro e y6 ⟨rfl, ha6, hf6⟩
        have hb6 := (hf6.block qb (lt_of_block HB5.out) (by simp [Mid]; omega)).trans HB5.out
        have hq6 : ∀ wx, Fr (fun _ => False) y6 wx → wx.cell? ⟨qb, 0, none⟩ = some (.int .i64 p1) ∧ wx.cell? ⟨qb, 1, none⟩ = some (.int .i64 p2) := fun wx hf => by
          have := (hf.block _ (lt_of_block hb6) id).trans hb6
          exact ⟨by rw [cell_of_block this]; rfl, by rw [cell_of_block this]; rfl⟩
        have hr6 := hr7.fr hf6 (fun a n c e hS => by
          cases e
          have := (HO7.out.lt _ rfl).1
          simp [Mid] at hS; omega)
        have hsl := ha6.slots
        have hst := ha6.sorted
        have hfs : fromV l2 s = l2 := by rw [← HL2.out]; exact fromV_from l s
        obtain ⟨m7, hm7⟩ : ∃ m, l2.length = m := ⟨_, rfl⟩
        have hv0 : ∀ wx, Fr (fun _ => False) y6 wx → Calls Try.prog 14 #[.pointer (some ⟨ab, 0, none⟩), .int .i64 0] wx fun e w' => ∃ v', e = .returned v' ∧ Reads w' v' l2.length 4 (rowV l2) ∧ Fr (fun _ => False) y6 w' := fun wx hf => by
          have := votesAcd wx _ D ab k (p1, p2) l2 (ha6.fr0 hf) (by omega) 0
          rw [fromV_all hsl] at this
          refine this.mono ?_
          rintro e w' ⟨v', rfl, ho, _, hf2⟩
          exact ⟨v', rfl, Reads.of_own ho, hf.trans hf2 (fun _ _ h => h)⟩
        have hvs : ∀ wx, Fr (fun _ => False) y6 wx → Calls Try.prog 14 #[.pointer (some ⟨ab, 0, none⟩), .int .i64 s] wx fun e w' => ∃ v', e = .returned v' ∧ Reads w' v' l2.length 4 (rowV l2) ∧ Fr (fun _ => False) y6 w' := fun wx hf => by
          have := votesAcd wx _ D ab k (p1, p2) l2 (ha6.fr0 hf) (by omega) s
          rw [hfs] at this
          refine this.mono ?_
          rintro e w' ⟨v', rfl, ho, _, hf2⟩
          exact ⟨v', rfl, Reads.of_own ho, hf.trans hf2 (fun _ _ h => h)⟩
        have hln : l2.length ≤ 512 := ha6.acc.votes_le
        have hkp : ∀ wx v, Fr (fun _ => False) y6 wx → Reads wx v l2.length 4 (rowV l2) → Calls Try.prog 18 #[v, .slice a7 l2.length c7] wx fun e w' => e = .returned (.bool true) ∧ Fr (fun _ => False) y6 w' := fun wx v hf hr => by
          have := keepVotes_any wx v (.slice a7 l2.length c7) l2 l2 hr (reads_old hr6 hf (fun _ _ => id)) (by omega)
          rw [decide_eq_true rfl] at this
          refine this.mono ?_
          rintro e w' ⟨rfl, m, rfl⟩
          exact ⟨rfl, hf.drewN m⟩
        have hpr : ∀ wx, Fr (fun _ => False) y6 wx → Calls Try.prog 13 #[.pointer (some ⟨ab, 0, none⟩)] wx fun e w' => e = .returned (.agg #[.int .i64 p1, .int .i64 p2]) ∧ Fr (fun _ => False) y6 w' := fun wx hf => by
          refine (promisedAcd wx _ D ab k (p1, p2) l2 (ha6.fr0 hf)).mono ?_
          rintro e w' ⟨rfl, _, h⟩; exact ⟨rfl, hf.trans h (fun _ _ h => h)⟩
        have hkn : ∀ wx, Fr (fun _ => False) y6 wx → Calls Try.prog 10 #[] wx fun e w' => e = .returned (.bool true) ∧ Fr (fun _ => False) y6 w' := fun wx hf => by
          refine (known_any wx).mono ?_
          rintro e w' ⟨rfl, h⟩; exact ⟨rfl, hf.trans h (fun _ _ h => h)⟩
        have heq : ∀ w, (binOp .eql 23 (.agg #[.int .i64 p1, .int .i64 p2]) (.agg #[.int .i64 p1, .int .i64 p2])).run Try.prog w = .ok (.bool true) w := fun w => by
          have := run_eqB w p1 p2 p1 p2
          simpa using this
        have HQ6 := hide hq6
        have HV0 := hide hv0
        have HVS := hide hvs
        have HKP := hide hkp
        have HPR := hide hpr
        have HKN := hide hkn
        have HF6 := hide (HF5.out.trans hf6 (fun _ _ h => h.1))
        have W0 := hide ((Fr.refl (fun _ => False) y6).drew)
        obtain ⟨g0, g1⟩ := hq6 y6 (Fr.refl _ _)
        clear hb6 hq6 hr6 hr7 hsl hst hfs hm7 hv0 hvs hkp hpr hkn hf6 hln ha6
        go_wp2_with fail
        go_region_held3 (fun w' => w'.cell? ⟨qb, 0, none⟩ = some (.int .i64 p1) ∧ w'.cell? ⟨qb, 1, none⟩ = some (.int .i64 p2))
          (go_keep)
          (first
            | ((go_at_call 14; with_reducible refine (HV0.out _ W0.out).mono ?_; rintro e z1 ⟨v1, rfl, r1, f1⟩; obtain ⟨d0, d1⟩ := HQ6.out z1 f1; have W1 := hide f1; have R1 := hide r1; clear f1 r1))
            | ((go_at_call 18; with_reducible refine (HKP.out _ _ W1.out R1.out).mono ?_; rintro e z2 ⟨rfl, f2⟩; obtain ⟨d2, d3⟩ := HQ6.out z2 f2; have W2 := hide f2; clear f2))
            | ((go_at_call 14; with_reducible refine (HVS.out _ W2.out).mono ?_; rintro e z3 ⟨v3, rfl, r3, f3⟩; obtain ⟨d4, d5⟩ := HQ6.out z3 f3; have W3 := hide f3; have R3 := hide r3; clear f3 r3))
            | ((go_at_call 18; with_reducible refine (HKP.out _ _ W3.out R3.out).mono ?_; rintro e z4 ⟨rfl, f4⟩; obtain ⟨d6, d7⟩ := HQ6.out z4 f4; have W4 := hide f4; clear f4))
            | ((go_at_call 13; refine (HPR.out _ W4.out).mono ?_; rintro e z5 ⟨rfl, f5⟩; obtain ⟨d8, d9⟩ := HQ6.out z5 f5; have W5 := hide f5; clear f5))
            | ((go_at_call 10; refine (HKN.out _ W5.out).mono ?_; rintro e z6 ⟨rfl, f6⟩; obtain ⟨d10, d11⟩ := HQ6.out z6 f6; have W6 := hide f6; clear f6)))
        all_goals
          go_wp2_with fail
          go_ret
          exact ⟨rfl, (HF6.out.trans W6.out (fun _ _ h => h.elim)).toBelow (Nat.le_refl _) (fun j hj h => by omega)⟩
end Go.Proofs.Ythekgecaeblbbaa.BallotForgets
