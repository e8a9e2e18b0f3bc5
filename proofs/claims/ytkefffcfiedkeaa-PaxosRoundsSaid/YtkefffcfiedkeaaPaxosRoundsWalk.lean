/- PaxosRounds's walk. -/
import Derived.Test.YtkefffcfiedkeaaKnownPaxos
import Derived.Test.YtkefffcfiedkeaaWithin
namespace Go.Proofs.Ytkefffcfiedkeaa.PaxosRounds
open Go.RowKit Go.Maps Go.Cv
set_option linter.unusedVariables false

abbrev cellsB (a : Int × Int) : List Value := [.int .i64 a.1, .int .i64 a.2]
theorem cellsB_len (x : Int × Int) : (cellsB x).length = 2 := rfl
def rowB (l : List Bt) : List Value := l.flatMap cellsB
theorem bone (x : Bt) : ∀ u ∈ cellsB x, u.oneCell' = true := by
  intro u hu
  simp only [cellsB, List.mem_cons, List.not_mem_nil, or_false] at hu
  rcases hu with rfl | rfl <;> rfl
theorem infoB : (Try.prog.info? 29).map (fun i => (i.zero, i.size, i.bytes)) = some (some (.agg #[.int .i64 0, .int .i64 0]), 2, 16) := by kernel_rfl
theorem ballotZero_size : (Value.agg #[.int .i64 0, .int .i64 0]).cells.size = 2 := by simp [Value.cells]

/-- The blocks that the proposer leaves: the row's. -/
abbrev RX (v : Value) : Nat → Prop := fun k => v.ownBlock = some k

set_option maxRecDepth 100000 in
set_option maxHeartbeats 6400000 in
theorem walk (w : World) (x0 : Int) (_ : (Lit.int .i64 x0).wf = true) (x1 : Int) (_ : (Lit.int .i64 x1).wf = true) (v2 : Value) (l0 : List (Int × Int)) (h0 : Reads w v2 l0.length 2 (l0.flatMap cellsB)) (hg : ∀ a ∈ l0, (Lit.int .i64 a.1).wf = true ∧ (Lit.int .i64 a.2).wf = true) (_ : l0.length ≤ maxLen) :
    Calls Try.prog 3 #[.int .i64 x0, .int .i64 x1, v2] w fun e w' => e = .returned (.bool true) ∧ Below w.heap.size w w' := by
  obtain ⟨n0, hn0⟩ : ∃ n, l0.length = n := ⟨_, rfl⟩
  have h0' := h0
  rw [hn0] at h0'
  obtain ⟨-, a0, c0, rfl, -, -, -⟩ := h0'
  obtain ⟨i0, hi0, hz0, hz1, hz2⟩ := info_parts infoB
  have HR0 := hide h0
  have HN0 := hide hn0
  have HG := hide hg
  have HWF := hide (fun (k : Nat) (h : k ≤ 20) => (WalkArith.wf_i64 (n := (k : Int)) (by omega) : (Lit.int .i64 (k : Int)).wf = true))
  clear h0 hn0 hg
  go_enter Try.func3, Try.ntmps3
  go_wp2_with fail
  refine (within_ex _ x1 0 4 (by omega) (by omega) (by omega)).mono ?_
  rintro e w' ⟨t, rfl, ht0, ht1, rfl⟩
  go_wp2_with fail
  refine (within_ex _ x0 0 _ (by omega) (by omega) (by omega)).mono ?_
  rintro e w' ⟨me, rfl, hm0, hm1, rfl⟩
  go_wp2_with fail
  refine (newB w w.heap.size (fun _ => False) (fun _ h => h.elim) (Nat.le_refl _) me (1 + t) (by omega) (by omega) (by omega) (by omega)).mono ?_
  rintro e w1 ⟨pb, rfl, h1, hf1⟩
  have A1 := hide h1
  have F1 := hide (hf1.mono (S' := fun k => w.heap.size ≤ k) (fun _ _ h => h.elim))
  have hs1 := hf1.size
  clear h1 hf1
  go_wp2_with fail
  go_loopw [9, 10] (fun o i wr => ∃ (k q c : Nat) (a : Option Addr) (s : PS) (l : List Bt), i = .int .i64 k ∧ k ≤ 20 ∧ o = .slice a q c ∧ q = l.length ∧ q ≤ 2 * k ∧ Prb wr w.heap.size (RX (.slice a q c)) pb 0 s ∧ s.me = me ∧ s.nodes = 1 + t ∧ s.round ≤ 536870912 + k ∧ 0 ≤ s.round ∧ Hid (∀ y ∈ l, y.1 ≤ s.round) ∧ wr.ownsRow w1.heap.size 29 2 (.slice a q c) q (rowB l) ∧ Fr (fun j => w.heap.size ≤ j) w wr ∧ w1.heap.size ≤ wr.heap.size)
    (fun _ i _ => 20 - (intOf i).toNat)
  case atStart => exact ⟨0, 0, 0, none, ps0 me (1 + t), [], rfl, by omega, rfl, rfl, by omega, A1.out.sub (fun k hk hx => by cases hx), rfl, rfl, (by show (0 : Int) ≤ _; omega), Int.le_refl _, (fun y hy => by cases hy), World.ownsRow_nil _ _ _ _, F1.out, Nat.le_refl _⟩
  case round =>
    obtain ⟨k, q, c, a, s, l, rfl, hk, rfl, hq, hqk, hp, hme, hnd, hr, hr0, HLE, ho, hf, hsz⟩ := hrel
    have HP := hide hp
    have HO := hide ho
    have HF := hide hf
    have HQ := hide hq
    clear hp ho hf hq
    by_cases hgo : k < n0 ∧ k < 20
    · obtain ⟨hg1, hg2⟩ := hgo
      obtain ⟨x, hx⟩ : ∃ x, l0[k]? = some x := ⟨_, List.getElem?_eq_getElem (by have := HN0.out; omega)⟩
      obtain ⟨b0, o0, rfl, hlt0, hcells⟩ := row_cells cellsB_len (by have := HR0.out; rw [HN0.out] at this; exact this) hx (by decide)
      obtain ⟨r, nd⟩ := x
      have hrw := (HG.out _ (List.mem_of_getElem? hx)).1
      have hrb := (wf_bounds hrw).2
      have hce : ∀ wx, Fr (fun j => w.heap.size ≤ j) w wx → wx.cell? ⟨b0, o0 + k * 2, none⟩ = some (.int .i64 r) ∧ wx.cell? ⟨b0, o0 + k * 2 + 1, none⟩ = some (.int .i64 nd) := fun wx hfx => by
        have hbk := hfx.block _ hlt0 (by omega)
        have e := hcells 0 (.int .i64 r) rfl wx hbk
        rw [Nat.add_zero] at e
        exact ⟨e, hcells 1 (.int .i64 nd) rfl wx hbk⟩
      obtain ⟨e0, e1⟩ := hce wr HF.out
      have HCE := hide hce
      have ik0 : (0 : Int) ≤ (k : Int) := by omega
      have ik1 : (k : Int) < (n0 : Int) := by omega
      clear hcells hx hrw hce
      by_cases hbig : 536870912 ≤ r
      · go_wp2_with fail
        go_roundw
        case rel => exact ⟨k + 1, q, c, a, s, l, by go_num, by omega, rfl, HQ.out, by omega, HP.out, hme, hnd, by omega, hr0, HLE, HO.out, HF.out, hsz⟩
        case measure => simp [intOf]; omega
      · have hseen := seenB wr w.heap.size (RX (.slice a q c)) pb 0 s HP.out (r, nd) hrb
        have HSEEN := hide (show Calls Try.prog 10 #[.pointer (some ⟨pb, 0, none⟩), .agg #[.int .i64 r, .int .i64 nd]] wr _ from hseen)
        clear hseen
        go_wp2_with fail
        refine HSEEN.out.mono ?_
        rintro e w2 ⟨rfl, h2, hf2⟩
        have HF2 := hide (HF.out.trans hf2 (fun _ _ h => h.1))
        have ho2 := ownsRow_fr HO.out hf2 (fun j hj hs => hs.2 hj)
        obtain ⟨e2, e3⟩ := HCE.out w2 HF2.out
        obtain ⟨s2, hs2⟩ : ∃ s2, seenS s r = s2 := ⟨_, rfl⟩
        have hme2 : s2.me = me := by rw [← hs2]; exact hme
        have hnd2 : s2.nodes = 1 + t := by rw [← hs2]; exact hnd
        have hr2 : s2.round = max s.round r := by rw [← hs2]; rfl
        rw [hs2] at h2
        have hws := HF2.out.size
        have hB1 : w1.heap.size ≤ w2.heap.size := by have := hf2.size; omega
        have ho3 : (w2.alloc (.cells #[.int .i64 r, .int .i64 nd] 29)).ownsRow w1.heap.size 29 2 (.slice a q c) q (rowB l) := ho2.alloc _
        have hrd3 : Reads (w2.alloc (.cells #[.int .i64 r, .int .i64 nd] 29)) (.slice (some ⟨w2.heap.size, 0, none⟩) 1 1) 1 2 (cellsB (r, nd)) :=
          ⟨rfl, _, _, rfl, (by intro h; cases h), Nat.le_refl _, fun i u hu => ⟨_, _, rfl, by rw [cell_of_block (block_alloc w2 _)]; simpa [cellsB] using hu⟩⟩
        have hone := bone (r, nd)
        have hM : q + 1 ≤ maxLen := by unfold maxLen; omega
        have hM2 : (q + 1) * 16 ≤ 140737488355328 := by omega
        have hM3 : w1.heap.size ≤ (w2.alloc (.cells #[.int .i64 r, .int .i64 nd] 29)).heap.size := by simp; omega
        have HO3 := hide ho3
        have HRD3 := hide hrd3
        have HONE := hide hone
        have HM2 := hide hM2
        have HM3 := hide hM3
        have HA2 := hide h2
        clear ho2 ho3 hrd3 hone hM2 hM3 h2 hf2 e0 e1
        go_upto_region 13 with (at_builtin; refine wpList_append_reads _ rfl _ _ _ rfl w1.heap.size 29 i0 _ 2 16 Try.underlying22 hi0 hz0 hz1 hz2 ballotZero_size (by decide) _ q _ rfl HO3.out _ 1 (cellsB (r, nd)) rfl HRD3.out HONE.out hM HM2.out HM3.out ?_; intro v3 w4 hown3 hgrow hat; obtain ⟨a3, k3, rfl⟩ := own_shape hown3; have HW4 := hide hown3; have HG4 := hide hgrow; have HAT := hide hat; clear hown3 hgrow hat)
        -- the proposer beside the new row
        have hW : ∀ j, (Value.slice a3 (q + 1) k3).ownBlock = some j → (Value.slice a q c).ownBlock = some j ∨ w2.heap.size ≤ j := fun j hj => by
          rcases HAT.out with h | h
          · exact .inl (h ▸ hj)
          · rw [h] at hj; cases hj; right; simp
        have hfr4 : Fr (RX (.slice a q c)) w2 w4 := (Fr.alloc _ _ _).trans (Fr.grown (S := RX (.slice a q c)) HG4.out (fun j hj => hj)) (fun _ _ h => h)
        have hA4 : Prb w4 w.heap.size (RX (.slice a3 (q + 1) k3)) pb 0 s2 :=
          ((HA2.out.sub (X' := fun j => RX (.slice a q c) j ∨ RX (.slice a3 (q + 1) k3) j) (fun j hj hx => hx.elim id (fun h => (hW j h).elim id (fun h2 => by omega)))).fr hfr4 (fun j hj => .inl hj)).sub (fun j hj hx => .inr hx)
        have hs4 := hfr4.size
        have hX4 : ∀ j, RX (.slice a3 (q + 1) k3) j → j < w4.heap.size := fun j hj => (HW4.out.lt j hj).2
        have hF4 : Fr (fun j => w.heap.size ≤ j) w w4 := HF2.out.trans hfr4 (fun j _ hj => by have := (HO.out.lt j hj).1; omega)
        have hb5 : (beginS s2 k).b = (s2.round + 1, me) := by
          have e : min s2.round 1073741823 = s2.round := by omega
          show (min s2.round 1073741823 + 1, s2.me) = _
          rw [e, hme2]
        have hbeg := beginB w4 w.heap.size (RX (.slice a3 (q + 1) k3)) hX4 pb 0 s2 hA4 (by omega) k (HWF.out k (by omega))
        rw [hb5] at hbeg
        obtain ⟨z, hz⟩ : ∃ z, s2.round + 1 = z := ⟨_, rfl⟩
        rw [hz] at hbeg hb5
        obtain ⟨s3, hs3⟩ : ∃ s3, beginS s2 k = s3 := ⟨_, rfl⟩
        rw [hs3] at hbeg hb5
        have hme3 : s3.me = me := by rw [← hs3]; exact hme2
        have hnd3 : s3.nodes = 1 + t := by rw [← hs3]; exact hnd2
        have hr3 : s3.round = z := by
          rw [← hs3, ← hz]
          show min s2.round 1073741823 + 1 = _
          omega
        have hl3 : ledB s3 = false := by rw [← hs3]; show decide (s2.nodes < 2 * 0) = false; simp; omega
        have hz1' : ¬ z < 1 := by omega
        have hle3 : ∀ y ∈ l ++ [(r, nd)], y.1 < z := fun y hy => by
          rcases List.mem_append.1 hy with hy | hy
          · have := HLE.out y hy; omega
          · simp at hy; subst hy; show r < z; omega
        have HBEG := hide (show Calls Try.prog 11 #[.pointer (some ⟨pb, 0, none⟩), .int .i64 k] w4 fun e w' => e = .returned (.agg #[.int .i64 z, .int .i64 me]) ∧ Prb w' w.heap.size (RX (.slice a3 (q + 1) k3)) pb 0 s3 ∧ Fr (Off w.heap.size (RX (.slice a3 (q + 1) k3))) w4 w' from hbeg)
        have HLE3 := hide hle3
        have HF4 := hide hF4
        have HB5 := hide hb5
        clear hW hfr4 hA4 hX4 hF4 hbeg hle3 hs2 hs3 hb5
        go_wp2_with fail
        refine HBEG.out.mono ?_
        rintro e w5 ⟨rfl, h5, hf5⟩
        have ho5 := ownsRow_fr HW4.out hf5 (fun j hj hs => hs.2 hj)
        have hs5 := hf5.size
        obtain ⟨qb, hqb⟩ : ∃ xb, w5.heap.size = xb := ⟨_, rfl⟩
        obtain ⟨y6, hy6⟩ : ∃ y, w5.alloc (.cells #[.int .i64 z, .int .i64 me] 29) = y := ⟨_, rfl⟩
        have hb6 : y6.heap[qb]? = some (.cells #[.int .i64 z, .int .i64 me] 29 (0, 0)) := by rw [← hy6, ← hqb]; exact block_alloc _ _
        have hfa : Fr (fun _ => False) w5 y6 := by rw [← hy6]; exact Fr.alloc _ _ _
        have HP6 := hide (h5.fr0 hfa)
        have HO6 := hide (ownsRow_fr ho5 hfa (fun _ _ => id))
        have HF6 := hide ((HF4.out.trans hf5 (fun _ _ h => h.1)).trans hfa (fun _ _ h => h.elim))
        have HB6 := hide hb6
        have HY6 := hide hy6
        have HQB := hide hqb
        have hs6 := hfa.size
        have hbal : ∀ wx, Fr (fun _ => False) y6 wx → Calls Try.prog 12 #[.pointer (some ⟨pb, 0, none⟩)] wx fun e w' => e = .returned (.agg #[.int .i64 z, .int .i64 me]) ∧ Fr (fun _ => False) y6 w' := fun wx hfx => by
          have := ballotB wx _ _ pb 0 s3 (HP6.out.fr0 hfx)
          rw [HB5.out] at this
          refine this.mono ?_
          rintro e w' ⟨rfl, h⟩; exact ⟨rfl, hfx.trans h (fun _ _ h => h)⟩
        have hq6 : ∀ wx, Fr (fun _ => False) y6 wx → wx.cell? ⟨qb, 0, none⟩ = some (.int .i64 z) ∧ wx.cell? ⟨qb, 1, none⟩ = some (.int .i64 me) := fun wx hfx => by
          have := (hfx.block _ (lt_of_block HB6.out) id).trans HB6.out
          exact ⟨by rw [cell_of_block this]; rfl, by rw [cell_of_block this]; rfl⟩
        have hneq : ∀ wx, (binOp .neq 29 (.agg #[.int .i64 z, .int .i64 me]) (.agg #[.int .i64 z, .int .i64 me])).run Try.prog wx = .ok (.bool false) wx := fun wx => by
          have := run_neqB wx z me z me
          simpa using this
        have HBAL := hide hbal
        have HQ6 := hide hq6
        have W0 := hide ((Fr.refl (fun _ => False) y6).drew)
        obtain ⟨g0, g1⟩ := hq6 y6 (Fr.refl _ _)
        have hdz : decide (z < 1) = false := by simpa using hz1'
        clear h5 hf5 ho5 hb6 hfa hy6 hqb hbal hq6
        go_upto_region 14 with fail
        rw [HY6.out, HQB.out]
        go_region_held3 (fun w' => w'.cell? ⟨qb, 0, none⟩ = some (.int .i64 z) ∧ w'.cell? ⟨qb, 1, none⟩ = some (.int .i64 me))
          (go_keep)
          ((go_at_call 12; refine (HBAL.out _ W0.out).mono ?_; rintro e y7 ⟨rfl, hf7⟩; obtain ⟨d0, d1⟩ := HQ6.out y7 hf7; have HF7 := hide hf7; clear hf7))
        all_goals
          obtain ⟨l', hl'⟩ : ∃ l', l ++ [(r, nd)] = l' := ⟨_, rfl⟩
          have hrow : rowB l ++ cellsB (r, nd) = rowB l' := by rw [← hl']; simp [rowB]
          have ho7 := HO6.out
          have hq' : q + 1 = l'.length := by rw [← hl']; simp; exact HQ.out
          rw [hrow] at ho7
          have hle' := HLE3.out
          rw [hl'] at hle'
          have hrd := Reads.of_own ho7
          have hrd' : Reads y6 (.slice a3 (q + 1) k3) (q + 1) 2 (l'.flatMap cellsB) := hrd
          have HO7 := hide ho7
          have HRD := hide hrd'
          have HLE7 := hide hle'
          have HQ7 := hide hq'
          clear hl' hrow ho7 hq' hle' hrd hrd' d0 d1
          go_wp2_with fail
          go_loopw [12] (fun i wz => ∃ j : Nat, i = .int .i64 j ∧ j ≤ q + 1 ∧ Fr (fun _ => False) y6 wz) (fun i _ => q + 1 - (intOf i).toNat)
          case atStart => exact ⟨0, rfl, Nat.zero_le _, HF7.out⟩
          case round =>
            obtain ⟨j, rfl, hj, hfz⟩ := hrel
            have HFZ := hide hfz
            clear hfz
            by_cases hjm : j < q + 1
            · obtain ⟨x, hx⟩ : ∃ x, l'[j]? = some x := ⟨_, List.getElem?_eq_getElem (by have := HQ7.out; omega)⟩
              obtain ⟨b8, o8, rfl, hlt8, hc8⟩ := row_cells cellsB_len HRD.out hx (by decide)
              obtain ⟨r8, n8⟩ := x
              have t0 := hc8 0 (.int .i64 r8) rfl wr (HFZ.out.block _ hlt8 id)
              rw [Nat.add_zero] at t0
              obtain ⟨t1, t2⟩ := HQ6.out wr HFZ.out
              have hlt := HLE7.out _ (List.mem_of_getElem? hx)
              have hd8 : decide (z ≤ r8) = false := by simp only at hlt; simpa using hlt
              have ij0 : (0 : Int) ≤ (j : Int) := by omega
              have ij1 : (j : Int) < ((q + 1 : Nat) : Int) := by omega
              clear hc8 hx hlt
              go_wp2_with fail
              go_quiet (fail)
              go_wp2_with fail
              go_roundw
              case rel => exact ⟨j + 1, by go_num, by omega, HFZ.out.drewN _⟩
              case measure => simp [intOf]; omega
            · have ij1 : ¬ (j : Int) < ((q + 1 : Nat) : Int) := by omega
              obtain ⟨t1, t2⟩ := HQ6.out wr HFZ.out
              have how := ownsRow_fr HO7.out HFZ.out (fun _ _ => id)
              have hsz' := HFZ.out.size
              have ho9 := how.alloc (.cells #[.int .i64 z, .int .i64 me] 29)
              have hrd9 : Reads (wr.alloc (.cells #[.int .i64 z, .int .i64 me] 29)) (.slice (some ⟨wr.heap.size, 0, none⟩) 1 1) 1 2 (cellsB (z, me)) :=
                ⟨rfl, _, _, rfl, (by intro h; cases h), Nat.le_refl _, fun i u hu => ⟨_, _, rfl, by rw [cell_of_block (block_alloc wr _)]; simpa [cellsB] using hu⟩⟩
              have hone := bone (z, me)
              have hM : q + 1 + 1 ≤ maxLen := by unfold maxLen; omega
              have hM2 : (q + 1 + 1) * 16 ≤ 140737488355328 := by omega
              have hM3 : w1.heap.size ≤ (wr.alloc (.cells #[.int .i64 z, .int .i64 me] 29)).heap.size := by simp; omega
              have HO9 := hide ho9
              have HRD9 := hide hrd9
              have HONE := hide hone
              have HM2 := hide hM2
              have HM3 := hide hM3
              clear how ho9 hrd9 hone hM2 hM3
              go_upto_region 22 with (at_builtin; refine wpList_append_reads _ rfl _ _ _ rfl w1.heap.size 29 i0 _ 2 16 Try.underlying22 hi0 hz0 hz1 hz2 ballotZero_size (by decide) _ (q + 1) _ rfl HO9.out _ 1 (cellsB (z, me)) rfl HRD9.out HONE.out hM HM2.out HM3.out ?_; intro v8 y8 hown8 hgrow hat; obtain ⟨a8, k8, rfl⟩ := own_shape hown8; have HW8 := hide hown8; have HG8 := hide hgrow; have HAT8 := hide hat; clear hown8 hgrow hat)
              have hW : ∀ j, (Value.slice a8 (q + 1 + 1) k8).ownBlock = some j → (Value.slice a3 (q + 1) k3).ownBlock = some j ∨ wr.heap.size ≤ j := fun j hj => by
                rcases HAT8.out with h | h
                · exact .inl (h ▸ hj)
                · rw [h] at hj; cases hj; right; simp
              have hfr8 : Fr (RX (.slice a3 (q + 1) k3)) wr y8 := (Fr.alloc _ _ _).trans (Fr.grown (S := RX (.slice a3 (q + 1) k3)) HG8.out (fun j hj => hj)) (fun _ _ h => h)
              have hA8 : Prb y8 w.heap.size (RX (.slice a8 (q + 1 + 1) k8)) pb 0 s3 :=
                (((HP6.out.fr0 HFZ.out).sub (X' := fun j => RX (.slice a3 (q + 1) k3) j ∨ RX (.slice a8 (q + 1 + 1) k8) j) (fun j hj hx => hx.elim id (fun h => (hW j h).elim id (fun h2 => by omega)))).fr hfr8 (fun j hj => .inl hj)).sub (fun j hj hx => .inr hx)
              have hF8 : Fr (fun j => w.heap.size ≤ j) w y8 := ((HF6.out.trans HFZ.out (fun _ _ h => h.elim)).trans hfr8 (fun j _ hj => by have := (HO7.out.lt j hj).1; omega))
              have hs8 := hfr8.size
              have hled := ledBB y8 _ _ pb 0 s3 hA8
              rw [hl3] at hled
              have HLED := hide hled
              have HA8 := hide hA8
              have HF8 := hide hF8
              clear hW hfr8 hA8 hF8 hled
              go_wp2_with fail
              refine HLED.out.mono ?_
              rintro e w9 ⟨rfl, rfl⟩
              go_wp2_with fail
              go_roundw
              case rel =>
                refine ⟨k + 1, q + 1 + 1, k8, a8, s3, l' ++ [(z, me)], by go_num, by omega, rfl, by simp; exact HQ7.out, by omega, HA8.out, hme3, hnd3, by rw [hr3]; omega, by rw [hr3]; omega, fun y hy => ?_, ?_, HF8.out, by omega⟩
                · rw [hr3]
                  rcases List.mem_append.1 hy with hy | hy
                  · have := HLE7.out y hy; omega
                  · simp at hy; subst hy; exact Int.le_refl _
                · have := HW8.out
                  have e : rowB l' ++ cellsB (z, me) = rowB (l' ++ [(z, me)]) := by simp [rowB]
                  rw [e] at this
                  exact this
              case measure => simp [intOf]; omega
    · have hex : n0 ≤ k ∨ (k < n0 ∧ 20 ≤ k) := by omega
      clear hgo
      rcases hex with hx | ⟨hx, hx2⟩
      all_goals
        go_wp2_with fail
        refine (known_any _).mono ?_
        rintro e w10 ⟨rfl, hf10⟩
        go_wp2_with fail
        go_ret
        exact ⟨rfl, (HF.out.trans hf10 (fun j _ hj => hj.elim)).toBelow (Nat.le_refl _) (fun j hj h => by omega)⟩
end Go.Proofs.Ytkefffcfiedkeaa.PaxosRounds
