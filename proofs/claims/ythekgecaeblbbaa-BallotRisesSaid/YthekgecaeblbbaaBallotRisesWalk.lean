/- BallotRises's walk. -/
import Derived.Test.YthekgecaeblbbaaBallotD
import Derived.Test.YthekgecaeblbbaaWithin
namespace Go.Proofs.Ythekgecaeblbbaa.BallotRises
open Go.RowKit Go.Maps Go.Cv
set_option linter.unusedVariables false

/-- One call: kind, slot, ballot, value. -/
abbrev Ask5 := Int × Int × Bt × ByteArray
abbrev cellsAsk (a : Ask5) : List Value := [.int .i64 a.1, .int .i64 a.2.1, .int .i64 a.2.2.1.1, .int .i64 a.2.2.1.2, .string a.2.2.2]

set_option maxRecDepth 100000 in
set_option maxHeartbeats 6400000 in
theorem walk (w : World) (v0 : Value) (l0 : List Ask5) (h0 : Reads w v0 l0.length 5 (l0.flatMap cellsAsk)) (_ : ∀ a ∈ l0, (Lit.int .i64 a.1).wf = true ∧ (Lit.int .i64 a.2.1).wf = true ∧ ((Lit.int .i64 a.2.2.1.1).wf = true ∧ (Lit.int .i64 a.2.2.1.2).wf = true) ∧ a.2.2.2.size ≤ maxLen) (_ : l0.length ≤ maxLen) :
    Calls Try.prog 4 #[v0] w fun e w' => e = .returned (.bool true) ∧ Below w.heap.size w w' := by
  obtain ⟨n0, hn0⟩ : ∃ n, l0.length = n := ⟨_, rfl⟩
  have h0' := h0
  rw [hn0] at h0'
  obtain ⟨-, a0, c0, rfl, -, -, -⟩ := h0'
  have HR0 := hide h0
  have HN0 := hide hn0
  clear h0 hn0
  go_enter Try.func4, Try.ntmps4
  go_wp2_with fail
  refine (newAcd w).mono ?_
  rintro e w1 ⟨ab, rfl, ha, hf⟩
  obtain ⟨D, hD⟩ : ∃ D, w1.heap.size = D := ⟨_, rfl⟩
  rw [hD] at ha
  have hwD : w.heap.size ≤ D := by rw [← hD]; exact hf.size
  have A1 := hide ha
  have F1 := hide (hf.mono (S' := fun k => w.heap.size ≤ k) (fun _ _ h => h.elim))
  have HD := hide (show D ≤ w1.heap.size by omega)
  clear ha hf hD
  go_wp2_with fail
  go_loopw [4] (fun i wr => ∃ (k : Nat) (p : Bt) (l : List Vt), i = .int .i64 k ∧ k ≤ 60 ∧ Acd wr w.heap.size D ab k p l ∧ Inv p l ∧ Fr (fun j => w.heap.size ≤ j) w wr ∧ D ≤ wr.heap.size)
    (fun i _ => 60 - (intOf i).toNat)
  case atStart => exact ⟨0, (0, 0), [], rfl, by omega, A1.out, (fun x hx => by cases hx), F1.out, HD.out⟩
  case round =>
    obtain ⟨k, p, l, rfl, hk, ha, hi, hf, hDw⟩ := hrel
    have HA := hide ha
    have HI := hide hi
    have HF := hide hf
    clear ha hi hf
    by_cases hgo : k < n0 ∧ k < 60
    · obtain ⟨hg1, hg2⟩ := hgo
      obtain ⟨x, hx⟩ : ∃ x, l0[k]? = some x := ⟨_, List.getElem?_eq_getElem (by have := HN0.out; omega)⟩
      obtain ⟨b0, o0, rfl, hlt0, hcells⟩ := row_cells (toC := cellsAsk) (s := 5) (fun _ => rfl) (by have := HR0.out; rw [HN0.out] at this; exact this) hx (by decide)
      obtain ⟨kind, slot, ⟨r, nd⟩, vv⟩ := x
      have hbk := HF.out.block _ hlt0 (by omega)
      have e0 := hcells 0 (.int .i64 kind) rfl wr hbk
      rw [Nat.add_zero] at e0
      have e1 := hcells 1 (.int .i64 slot) rfl wr hbk
      have e2 := hcells 2 (.int .i64 r) rfl wr hbk
      have e3 := hcells 3 (.int .i64 nd) rfl wr hbk
      have e4 := hcells 4 (.string vv) rfl wr hbk
      have ik0 : (0 : Int) ≤ (k : Int) := by omega
      have ik1 : (k : Int) < (n0 : Int) := by omega
      clear hcells hx hbk
      -- the copy, its slot turned
      obtain ⟨xb, hxb⟩ : ∃ xb, wr.heap.size = xb := ⟨_, rfl⟩
      obtain ⟨y1, hy1⟩ : ∃ y, wr.alloc (.cells #[.int .i64 kind, .int .i64 slot, .int .i64 r, .int .i64 nd, .string vv] 31) = y := ⟨_, rfl⟩
      have hb1 : y1.heap[xb]? = some (.cells #[.int .i64 kind, .int .i64 slot, .int .i64 r, .int .i64 nd, .string vv] 31 (0, 0)) := by rw [← hy1, ← hxb]; exact block_alloc _ _
      have hfa : Fr (fun _ => False) wr y1 := by rw [← hy1]; exact Fr.alloc _ _ _
      have q1 : y1.cell? ⟨xb, 1, none⟩ = some (.int .i64 slot) := by rw [cell_of_block hb1]; rfl
      have q2 : y1.frozen? ⟨xb, 1, none⟩ = false := free_of_block hb1
      have HB1 := hide hb1
      have HFA := hide hfa
      have hxD : D ≤ xb := by omega
      clear hb1 hfa
      go_wp2_with fail
      refine (within_ex _ slot 0 5 (by omega) (by omega) (by omega)).mono ?_
      rintro e w' ⟨s, rfl, hs0, hs5, rfl⟩
      obtain ⟨y2, hy2⟩ : ∃ y, y1.setCell ⟨xb, 1, none⟩ (.int .i64 s) = y := ⟨_, rfl⟩
      have hb2 : y2.heap[xb]? = some (.cells #[.int .i64 kind, .int .i64 s, .int .i64 r, .int .i64 nd, .string vv] 31 (0, 0)) := by rw [← hy2, block_setCell HB1.out]; rfl
      have hf2 : Fr (fun k => k = xb) y1 y2 := by rw [← hy2]; exact Fr.setCell _ _ _ rfl
      have HB2 := hide hb2
      have HA2 := hide ((HA.out.fr0 HFA.out).fr hf2 (fun k hk _ e => by omega))
      have HF2 := hide ((HF.out.trans HFA.out (fun _ _ h => h.elim)).trans hf2 (fun k _ hk => by omega))
      have hD2 : D ≤ y2.heap.size := by have := HFA.out.size; have := hf2.size; omega
      have HY2 := hide hy2
      clear hb2 hf2 hy2
      go_wp2_with fail
      rw [HY2.out]
      clear q1 q2
      refine (promisedAcd y2 _ D ab k p l HA2.out).mono ?_
      obtain ⟨p1, p2⟩ := p
      rintro e y3 ⟨rfl, ha3, hf3⟩
      -- was
      obtain ⟨qb, hqb⟩ : ∃ xb, y3.heap.size = xb := ⟨_, rfl⟩
      obtain ⟨y4, hy4⟩ : ∃ y, y3.alloc (.cells #[.int .i64 p1, .int .i64 p2] 23) = y := ⟨_, rfl⟩
      have hb4 : y4.heap[qb]? = some (.cells #[.int .i64 p1, .int .i64 p2] 23 (0, 0)) := by rw [← hy4, ← hqb]; exact block_alloc _ _
      have hfa : Fr (fun _ => False) y3 y4 := by rw [← hy4]; exact Fr.alloc _ _ _
      have hq2 : Fr (fun _ => False) y2 y4 := hf3.trans hfa (fun _ _ h => h)
      have hx4 := (hq2.block xb (lt_of_block HB2.out) id).trans HB2.out
      have hqD : D ≤ qb := by have := hf3.size; omega
      have HX4 := hide hx4
      have HB4 := hide hb4
      have HA4 := hide (ha3.fr0 hfa)
      have HF4 := hide (HF2.out.trans hq2 (fun _ _ h => h.elim))
      have hD4 : D ≤ y4.heap.size := by have := hq2.size; omega
      have HY4 := hide hy4
      have HQB := hide hqb
      clear ha3 hf3 hb4 hfa hq2 hx4 hy4 hqb
      have HSH : bcells (p1, p2) = #[.int .i64 p1, .int .i64 p2] := rfl
      rw [HSH]
      clear HSH
      go_wp2_with fail
      rw [HY4.out, HQB.out]
      refine (votesAcd y4 _ D ab k (p1, p2) l HA4.out (by omega) 0).mono ?_
      rw [fromV_all HA4.out.slots]
      rintro e y5 ⟨v7, rfl, ho7, ha5, hf5⟩
      obtain ⟨a7, c7, rfl⟩ := own_shape ho7
      have hx5 := (hf5.block xb (lt_of_block HX4.out) id).trans HX4.out
      have hb5 := (hf5.block qb (lt_of_block HB4.out) id).trans HB4.out
      have q0 : y5.cell? ⟨xb, 0, none⟩ = some (.int .i64 kind) := by rw [cell_of_block hx5]; rfl
      have q1 : y5.cell? ⟨xb, 1, none⟩ = some (.int .i64 s) := by rw [cell_of_block hx5]; rfl
      have q2 : y5.cell? ⟨xb, 2, none⟩ = some (.int .i64 r) := by rw [cell_of_block hx5]; rfl
      have q3 : y5.cell? ⟨xb, 3, none⟩ = some (.int .i64 nd) := by rw [cell_of_block hx5]; rfl
      have HX5 := hide hx5
      have HB5 := hide hb5
      have HA5 := hide ha5
      have HF5 := hide (HF4.out.trans hf5 (fun _ _ h => h.elim))
      have hD5 : D ≤ y5.heap.size := by have := hf5.size; omega
      have HO7 := hide ho7
      clear hx5 hb5 ha5 hf5 ho7
      by_cases hkd : kind = 1
      case' pos =>
        subst hkd
        have hri := rise_prepare HA5.out.sorted HI.out (r, nd)
        obtain ⟨p', hp'⟩ : ∃ p', (if less (p1, p2) (r, nd) then (r, nd) else (p1, p2)) = p' := ⟨_, rfl⟩
        obtain ⟨l', hl'⟩ : ∃ l', l = l' := ⟨_, rfl⟩
        have hcon := prepareAcd y5 _ D ab k (p1, p2) l HA5.out (by omega) (r, nd) s
        rw [hp'] at hri hcon
        obtain ⟨lv, hlv⟩ : ∃ lv, (if less (p1, p2) (r, nd) then fromV l s else []) = lv := ⟨_, rfl⟩
        rw [hlv] at hcon
        generalize less (p1, p2) (r, nd) = q at hcon
        have hcon' : Calls Try.prog 15 #[.pointer (some ⟨ab, 0, none⟩), .agg #[.int .i64 r, .int .i64 nd], .int .i64 s] y5 _ := hcon
        have HCON := hide hcon'
        have hri' : Rise (p1, p2) l p' l' := by rw [← hl']; exact hri
        have HRI := hide hri'
        have HLE := hide hl'
        clear hcon hcon' hri hri' hp' hl' hlv
        go_upto_region 14 with (go_at_call 15; refine HCON.out.mono ?_; rintro e y6 ⟨v6, rfl, ha6, ho6, hf6⟩; obtain ⟨a6, c6, rfl⟩ := own_shape ho6; have HA6' := hide ha6; have HF6 := hide hf6; clear ha6 ho6 hf6)
        have HA6 : Hid (Acd y6 w.heap.size D ab (k + 1) p' l') := by
          obtain ⟨mb, h6, h7, h8⟩ := HA6'.out
          rw [HLE.out] at h6
          exact ⟨mb, ⟨h6.blk, h6.map.mono (Nat.le_succ _), h6.ne, h6.st, h6.sl⟩, h7, h8⟩
      case' neg =>
        have hkb : (kind == 1) = false := by rw [beq_eq_false_iff_ne]; exact hkd
        have hri := rise_accept HA5.out.sorted HI.out (r, nd) s ⟨#[118]⟩
        have hcon := acceptAcd y5 _ D ab k (p1, p2) l HA5.out (by omega) (r, nd) s ⟨#[118]⟩
        obtain ⟨p', hp'⟩ : ∃ p', acceptP (p1, p2) (r, nd) s = p' := ⟨_, rfl⟩
        obtain ⟨l', hl'⟩ : ∃ l', acceptL (p1, p2) (r, nd) s l ⟨#[118]⟩ = l' := ⟨_, rfl⟩
        rw [hp', hl'] at hri hcon
        generalize acceptB (p1, p2) (r, nd) s = q at hcon
        have hcon' : Calls Try.prog 16 #[.pointer (some ⟨ab, 0, none⟩), .agg #[.int .i64 r, .int .i64 nd], .int .i64 s, .string ⟨#[118]⟩] y5 _ := hcon
        have HCON := hide hcon'
        have HRI := hide hri
        clear hcon hcon' hri hp' hl' hkd
        go_upto_region 14 with (go_at_call 16; refine HCON.out.mono ?_; rintro e y6 ⟨rfl, ha6, hf6⟩; have HA6 := hide ha6; have HF6 := hide hf6; clear ha6 hf6)
      all_goals
        obtain ⟨pp, pn⟩ := p'
        have hb6 := (HF6.out.block qb (lt_of_block HB5.out) (by simp [Mid]; omega)).trans HB5.out
        have hq6 : ∀ wx, Fr (fun _ => False) y6 wx → wx.cell? ⟨qb, 0, none⟩ = some (.int .i64 p1) ∧ wx.cell? ⟨qb, 1, none⟩ = some (.int .i64 p2) := fun wx hf => by
          have := (hf.block _ (lt_of_block hb6) id).trans hb6
          exact ⟨by rw [cell_of_block this]; rfl, by rw [cell_of_block this]; rfl⟩
        have hr7 : Reads y6 (.slice a7 l.length c7) l.length 4 (rowV l) := (Reads.of_own HO7.out).fr HF6.out (fun a n c e hS => by
          cases e
          have := (HO7.out.lt _ rfl).1
          simp [Mid] at hS; omega)
        have hprom : ∀ wx, Fr (fun _ => False) y6 wx → Calls Try.prog 13 #[.pointer (some ⟨ab, 0, none⟩)] wx fun e w' => e = .returned (.agg #[.int .i64 pp, .int .i64 pn]) ∧ Fr (fun _ => False) wx w' := fun wx hf => by
          refine (promisedAcd wx _ D ab (k + 1) (pp, pn) l' (HA6.out.fr0 hf)).mono ?_
          rintro e w' ⟨rfl, _, h⟩; exact ⟨rfl, h⟩
        have hless1 : ∀ wx, Calls Try.prog 9 #[.agg #[.int .i64 pp, .int .i64 pn], .agg #[.int .i64 p1, .int .i64 p2]] wx fun e w' => e = .returned (.bool false) ∧ Fr (fun _ => False) wx w' := fun wx => by
          have := less_any wx (pp, pn) (p1, p2)
          rwa [HRI.out.up] at this
        have HQ6 := hide hq6
        have HR7 := hide hr7
        have HPR := hide hprom
        have HLS := hide hless1
        obtain ⟨g0, g1⟩ := hq6 y6 (Fr.refl _ _)
        clear hb6 hq6 hr7 hprom hless1 q0 q1 q2 q3
        go_region_held3 (fun w' => w'.cell? ⟨qb, 0, none⟩ = some (.int .i64 p1) ∧ w'.cell? ⟨qb, 1, none⟩ = some (.int .i64 p2))
          (go_keep)
          (first
            | ((go_at_call 13; refine (HPR.out y6.drew ((Fr.refl (fun _ => False) y6).drew)).mono ?_; rintro e y7 ⟨rfl, hf7⟩; have hf7' := ((Fr.refl (fun _ => False) y6).drew).trans hf7 (fun _ _ h => h); obtain ⟨d0, d1⟩ := HQ6.out y7 hf7'; have HF7 := hide hf7'; clear hf7 hf7'))
            | ((go_at_call 9; refine (HLS.out _).mono ?_; rintro e y8 ⟨rfl, hf8⟩; have hf8' := HF7.out.trans hf8 (fun _ _ h => h); obtain ⟨d2, d3⟩ := HQ6.out y8 hf8'; have HF8 := hide hf8'; clear hf8 hf8')))
        all_goals
          have hv8 := votesAcd y8 _ D ab (k + 1) (pp, pn) l' (HA6.out.fr0 HF8.out) (by omega) 0
          rw [fromV_all HA6.out.slots] at hv8
          have HV8 := hide hv8
          clear hv8
          go_wp2_with fail
          refine HV8.out.mono ?_
          rintro e y9 ⟨v8, rfl, ho8, ha9, hf9⟩
          obtain ⟨a8, c8, rfl⟩ := own_shape ho8
          have hf69 := HF8.out.trans hf9 (fun _ _ h => h)
          have HR8 := hide (Reads.of_own ho8)
          have HR9 := hide (reads_old HR7.out hf69 (fun _ _ => id))
          have HF9 := hide hf69
          have HA9 := hide ha9
          obtain ⟨m8, hm8⟩ : ∃ m, l'.length = m := ⟨_, rfl⟩
          obtain ⟨m7, hm7⟩ : ∃ m, l.length = m := ⟨_, rfl⟩
          have hm85 : m8 ≤ 512 := by rw [← hm8]; exact ha9.acc.votes_le
          have hm75 : m7 ≤ 512 := by rw [← hm7]; exact HA.out.acc.votes_le
          have HM8 := hide hm8
          have HM7 := hide hm7
          clear ho8 ha9 hf9 hf69
          go_wp2_with fail
          go_loopw [9] (fun i wz => ∃ j : Nat, i = .int .i64 j ∧ j ≤ m8 ∧ Fr (fun _ => False) y9 wz) (fun i _ => m8 - (intOf i).toNat)
          case atStart => exact ⟨0, rfl, Nat.zero_le _, Fr.refl _ _⟩
          case round =>
            obtain ⟨j, rfl, hj, hfz⟩ := hrel
            have HFZ := hide hfz
            clear hfz
            by_cases hjm : j < m8
            · obtain ⟨x, hx⟩ : ∃ x, l'[j]? = some x := ⟨_, List.getElem?_eq_getElem (by have := HM8.out; omega)⟩
              obtain ⟨b8, o8, rfl, hlt8, hc8⟩ := row_cells vcells_len HR8.out hx (by decide)
              obtain ⟨x1, ⟨x2, x3⟩, x4⟩ := x
              have hc8' : ∀ wx, Fr (fun _ => False) y9 wx → wx.cell? ⟨b8, o8 + j * 4, none⟩ = some (.int .i64 x1) ∧ wx.cell? ⟨b8, o8 + j * 4 + 1, none⟩ = some (.int .i64 x2) ∧ wx.cell? ⟨b8, o8 + j * 4 + 2, none⟩ = some (.int .i64 x3) := fun wx hf =>
                ⟨by have := hc8 0 (.int .i64 x1) rfl wx (hf.block _ hlt8 id); rwa [Nat.add_zero] at this, hc8 1 (.int .i64 x2) rfl wx (hf.block _ hlt8 id), hc8 2 (.int .i64 x3) rfl wx (hf.block _ hlt8 id)⟩
              have hlx : ∀ wx, Calls Try.prog 9 #[.agg #[.int .i64 pp, .int .i64 pn], .agg #[.int .i64 x2, .int .i64 x3]] wx fun e w' => e = .returned (.bool false) ∧ Fr (fun _ => False) wx w' := fun wx => by
                have := less_any wx (pp, pn) (x2, x3)
                rwa [HRI.out.inv _ (List.mem_of_getElem? hx)] at this
              have HC8 := hide hc8'
              have HLX := hide hlx
              have HXM := hide (List.mem_of_getElem? hx)
              have ij0 : (0 : Int) ≤ (j : Int) := by omega
              have ij1 : (j : Int) < (m8 : Int) := by omega
              obtain ⟨t0, t1, t2⟩ := hc8' wr HFZ.out
              have HFY := hide (HF9.out.trans HFZ.out (fun _ _ h => h))
              clear hc8 hc8' hlx hx
              have hap := HPR.out wr.drew (HFY.out.drew)
              have HAP := hide hap
              have hmm : wr.drew.heap.size = wr.heap.size := rfl
              clear hap hmm
              go_wp2_with fail
              go_region_held3 (fun w' => w'.cell? ⟨b8, o8 + j * 4 + 1, none⟩ = some (.int .i64 x2) ∧ w'.cell? ⟨b8, o8 + j * 4 + 2, none⟩ = some (.int .i64 x3))
                (go_keep)
                (first
                  | ((go_at_call 13; refine HAP.out.mono ?_; rintro e z1 ⟨rfl, hz1⟩; have hz1' := (HFZ.out.drew).trans hz1 (fun _ _ h => h); obtain ⟨n0', n1, n2⟩ := HC8.out z1 hz1'; have HZ1 := hide hz1'; clear hz1 hz1'))
                  | ((go_at_call 9; refine (HLX.out _).mono ?_; rintro e z2 ⟨rfl, hz2⟩; have hz2' := HZ1.out.trans hz2 (fun _ _ h => h); obtain ⟨n3, n4, n5⟩ := HC8.out z2 hz2'; have HZ2 := hide hz2'; clear hz2 hz2')))
              all_goals
                go_wp2_with fail
                go_loopw [10] (fun i wq => ∃ q : Nat, i = .int .i64 q ∧ q ≤ m7 ∧ Fr (fun _ => False) y9 wq) (fun i _ => m7 - (intOf i).toNat)
                case atStart => exact ⟨0, rfl, Nat.zero_le _, HZ2.out⟩
                case round =>
                  obtain ⟨q, rfl, hq, hfq⟩ := hrel
                  have HFQ := hide hfq
                  clear hfq
                  by_cases hqm : q < m7
                  · obtain ⟨y, hy⟩ : ∃ y, l[q]? = some y := ⟨_, List.getElem?_eq_getElem (by have := HM7.out; omega)⟩
                    obtain ⟨b7, o7, rfl, hlt7, hc7⟩ := row_cells vcells_len HR9.out hy (by decide)
                    obtain ⟨z1, ⟨z2, z3⟩, z4⟩ := y
                    have hc7' : ∀ wx, Fr (fun _ => False) y9 wx → wx.cell? ⟨b7, o7 + q * 4, none⟩ = some (.int .i64 z1) ∧ wx.cell? ⟨b7, o7 + q * 4 + 1, none⟩ = some (.int .i64 z2) ∧ wx.cell? ⟨b7, o7 + q * 4 + 2, none⟩ = some (.int .i64 z3) := fun wx hf =>
                      ⟨by have := hc7 0 (.int .i64 z1) rfl wx (hf.block _ hlt7 id); rwa [Nat.add_zero] at this, hc7 1 (.int .i64 z2) rfl wx (hf.block _ hlt7 id), hc7 2 (.int .i64 z3) rfl wx (hf.block _ hlt7 id)⟩
                    have iq0 : (0 : Int) ≤ (q : Int) := by omega
                    have iq1 : (q : Int) < (m7 : Int) := by omega
                    obtain ⟨r0, r1, r2⟩ := hc7' wr HFQ.out
                    obtain ⟨r3, r4, r5⟩ := HC8.out wr HFQ.out
                    have HC7 := hide hc7'
                    by_cases hsl : z1 = x1
                    · have hlz : ∀ wx, Calls Try.prog 9 #[.agg #[.int .i64 x2, .int .i64 x3], .agg #[.int .i64 z2, .int .i64 z3]] wx fun e w' => e = .returned (.bool false) ∧ Fr (fun _ => False) wx w' := fun wx => by
                        have := less_any wx (x2, x3) (z2, z3)
                        rwa [HRI.out.votes _ HXM.out _ (List.mem_of_getElem? hy) hsl] at this
                      have HLZ := hide hlz
                      have hcb : (z1 == x1) = true := by rw [beq_iff_eq]; exact hsl
                      subst hsl
                      clear hc7 hc7' hy hlz
                      go_wp2_with fail
                      go_region_held3 (fun w' => w'.cell? ⟨b8, o8 + j * 4, none⟩ = some (.int .i64 z1) ∧ w'.cell? ⟨b8, o8 + j * 4 + 1, none⟩ = some (.int .i64 x2) ∧ w'.cell? ⟨b8, o8 + j * 4 + 2, none⟩ = some (.int .i64 x3) ∧ w'.cell? ⟨b7, o7 + q * 4, none⟩ = some (.int .i64 z1) ∧ w'.cell? ⟨b7, o7 + q * 4 + 1, none⟩ = some (.int .i64 z2) ∧ w'.cell? ⟨b7, o7 + q * 4 + 2, none⟩ = some (.int .i64 z3))
                        (go_keep)
                        ((go_at_call 9; refine (HLZ.out _).mono ?_; rintro e zz ⟨rfl, hzz⟩; have hzz' := (HFQ.out.drew).trans hzz (fun _ _ h => h); obtain ⟨s0, s1, s2⟩ := HC7.out zz hzz'; obtain ⟨s3, s4, s5⟩ := HC8.out zz hzz'; have HZZ := hide hzz'; clear hzz hzz'))
                      all_goals
                        go_wp2_with fail
                        go_roundw
                        case rel => exact ⟨q + 1, by go_num, by omega, HZZ.out⟩
                        case measure => simp [intOf]; omega
                    · have hcb : (z1 == x1) = false := by rw [beq_eq_false_iff_ne]; exact hsl
                      clear hc7 hc7' hy hsl
                      go_wp2_with fail
                      go_quiet (fail)
                      go_wp2_with fail
                      go_roundw
                      case rel => exact ⟨q + 1, by go_num, by omega, HFQ.out.drewN _⟩
                      case measure => simp [intOf]; omega
                  · go_wp2_with fail
                    go_roundw
                    case rel => exact ⟨j + 1, by go_num, by omega, HFQ.out⟩
                    case measure => simp [intOf]; omega
            · go_wp2_with fail
              go_roundw
              case rel =>
                refine ⟨k + 1, (pp, pn), l', by go_num, by omega, HA9.out.fr0 HFZ.out, HRI.out.inv, ?_, ?_⟩
                · exact ((HF5.out.trans HF6.out (fun k _ hk => by simp [Mid] at hk; omega)).trans HF9.out (fun _ _ h => h.elim)).trans HFZ.out (fun _ _ h => h.elim)
                · have := HF6.out.size; have := HF9.out.size; have := HFZ.out.size; omega
              case measure => simp [intOf]; omega
    · have hex : n0 ≤ k ∨ (k < n0 ∧ 60 ≤ k) := by omega
      clear hgo
      rcases hex with hx | ⟨hx, hx2⟩
      all_goals
        go_wp2_with fail
        refine (known_any _).mono ?_
        rintro e w10 ⟨rfl, hf10⟩
        go_wp2_with fail
        go_ret
        exact ⟨rfl, (HF.out.trans hf10 (fun j _ hj => hj.elim)).toBelow (Nat.le_refl _) (fun j hj h => by omega)⟩
end Go.Proofs.Ythekgecaeblbbaa.BallotRises
