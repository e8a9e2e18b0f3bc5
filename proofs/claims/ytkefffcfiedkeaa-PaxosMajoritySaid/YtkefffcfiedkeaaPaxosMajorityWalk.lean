/- PaxosMajority's walk. -/
import Derived.Test.YtkefffcfiedkeaaPaxosB2
import Derived.Test.YtkefffcfiedkeaaWithin
namespace Go.Proofs.Ytkefffcfiedkeaa.PaxosMajority
open Go.RowKit Go.Maps Go.Cv
set_option linter.unusedVariables false

/-- The proposer's state: promised by P, with the picks ks. -/
def st (N : Int) (P : List Int) (ks : List Pk) : PS := ⟨0, N, 1, (1, 0), 0, P, [], ks⟩
theorem st_begin (N : Int) : beginS (ps0 0 N) 0 = st N [] [] := rfl
theorem st_prom (N : Int) (P : List Int) (k : Int) (h0 : 0 ≤ k) (h1 : k < N) : promS (st N P []) k (1, 0) [] = st N (addS P k) [] := by
  have hs : seenS (st N P []) 1 = st N P [] := rfl
  unfold promS
  show (if okB (seenS (st N P []) 1) k (1, 0) = true then _ else _) = _
  rw [hs]
  by_cases hk : k ∈ P
  · have : okB (st N P []) k (1, 0) = false := by simp [okB, st, hk]
    rw [this]
    simp [addS, hk]
  · have : okB (st N P []) k (1, 0) = true := by simp [okB, st, hk, h0, h1]
    rw [this]
    rfl
def inB (P : List Int) (j : Nat) : Value := .bool (decide ((j : Int) ∈ P))

set_option maxRecDepth 100000 in
set_option maxHeartbeats 6400000 in
theorem walk (w : World) (x0 : Int) (_ : (Lit.int .i64 x0).wf = true) (v1 : Value) (l1 : List Int) (h1 : Reads w v1 l1.length 1 (l1.flatMap fun z => [.int .i64 z])) (_ : ∀ a ∈ l1, (Lit.int .i64 a).wf = true) (_ : l1.length ≤ maxLen) (v2 : Value) (l2 : List Int) (h2 : Reads w v2 l2.length 1 (l2.flatMap fun z => [.int .i64 z])) (_ : ∀ a ∈ l2, (Lit.int .i64 a).wf = true) (_ : l2.length ≤ maxLen) :
    Calls Try.prog 6 #[.int .i64 x0, v1, v2] w fun e w' => e = .returned (.bool true) ∧ Below w.heap.size w w' := by
  obtain ⟨n1, hn1⟩ : ∃ n, l1.length = n := ⟨_, rfl⟩
  obtain ⟨n2, hn2⟩ : ∃ n, l2.length = n := ⟨_, rfl⟩
  rw [hn1] at h1
  rw [hn2] at h2
  have HR1 := hide h1
  have HR2 := hide h2
  obtain ⟨-, a1, cc1, rfl, -, -, -⟩ := h1
  obtain ⟨-, a2, cc2, rfl, -, -, -⟩ := h2
  have HN1 := hide hn1
  have HN2 := hide hn2
  clear hn1 hn2
  go_enter Try.func6, Try.ntmps6
  go_wp2_with fail
  refine (within_ex _ x0 0 4 (by omega) (by omega) (by omega)).mono ?_
  rintro e w' ⟨t, rfl, ht0, ht1, rfl⟩
  go_wp2_with fail
  refine (newB w w.heap.size (fun _ => False) (fun _ h => h.elim) (Nat.le_refl _) 0 (1 + t) (by omega) (by omega) (by omega) (by omega)).mono ?_
  rintro e w1 ⟨pb, rfl, hp1, hf1⟩
  have A1 := hide hp1
  have F1 := hide (hf1.mono (S' := fun k => w.heap.size ≤ k) (fun _ _ h => h.elim))
  have hs1 := hf1.size
  have hbg := beginB w1 _ _ (fun _ h => h.elim) pb 0 _ hp1 hs1 0 (by decide)
  rw [st_begin] at hbg
  have HBG := hide (show Calls Try.prog 11 #[.pointer (some ⟨pb, 0, none⟩), .int .i64 0] w1 fun e w' => e = .returned (.agg #[.int .i64 1, .int .i64 0]) ∧ Prb w' w.heap.size (fun _ => False) pb 0 (st (1 + t) [] []) ∧ Fr (Off w.heap.size (fun _ => False)) w1 w' from hbg)
  clear hp1 hf1 hbg
  go_wp2_with fail
  refine HBG.out.mono ?_
  rintro e w2 ⟨rfl, hp2, hf2⟩
  have HP2 := hide hp2
  have HF2 := hide (F1.out.trans hf2 (fun _ _ h => h.1))
  clear hp2 hf2
  obtain ⟨qb, hqb⟩ : ∃ q, w2.heap.size = q := ⟨_, rfl⟩
  obtain ⟨y3, hy3⟩ : ∃ y, w2.alloc (.cells #[.int .i64 1, .int .i64 0] 29) = y := ⟨_, rfl⟩
  obtain ⟨y4, hy4⟩ : ∃ y, y3.alloc (.cells #[.bool false, .bool false, .bool false, .bool false, .bool false] 58) = y := ⟨_, rfl⟩
  obtain ⟨y5, hy5⟩ : ∃ y, y4.alloc (.cells #[.bool false, .bool false, .bool false, .bool false, .bool false] 58) = y := ⟨_, rfl⟩
  have hf3 : Fr (fun _ => False) w2 y3 := by rw [← hy3]; exact Fr.alloc _ _ _
  have hf4 : Fr (fun _ => False) y3 y4 := by rw [← hy4]; exact Fr.alloc _ _ _
  have hf5 : Fr (fun _ => False) y4 y5 := by rw [← hy5]; exact Fr.alloc _ _ _
  have s3 : y3.heap.size = qb + 1 := by rw [← hy3, ← hqb]; simp
  have s4 : y4.heap.size = qb + 1 + 1 := by rw [← hy4, ← s3]; simp
  have s5 : y5.heap.size = qb + 1 + 1 + 1 := by rw [← hy5, ← s4]; simp
  have hb3 : y3.heap[qb]? = some (.cells #[.int .i64 1, .int .i64 0] 29 (0, 0)) := by rw [← hy3, ← hqb]; exact block_alloc _ _
  have hb4 : y4.heap[qb + 1]? = some (.cells #[.bool false, .bool false, .bool false, .bool false, .bool false] 58 (0, 0)) := by rw [← hy4, ← s3]; exact block_alloc _ _
  have hb5 : y5.heap[qb + 1 + 1]? = some (.cells #[.bool false, .bool false, .bool false, .bool false, .bool false] 58 (0, 0)) := by rw [← hy5, ← s4]; exact block_alloc _ _
  have hnil : ∀ i, i < 5 → (#[.bool false, .bool false, .bool false, .bool false, .bool false] : Array Value)[i]? = some (inB [] i) := fun i hi => by
    have : i = 0 ∨ i = 1 ∨ i = 2 ∨ i = 3 ∨ i = 4 := by omega
    rcases this with rfl | rfl | rfl | rfl | rfl <;> rfl
  have hx5 : Arr y5 (qb + 1) 58 5 (inB []) := ⟨_, (hf5.block _ (lt_of_block hb4) id).trans hb4, rfl, hnil⟩
  have hy5' : Arr y5 (qb + 1 + 1) 58 5 (inB []) := ⟨_, hb5, rfl, hnil⟩
  have hq5 := (hf5.block _ (by omega) id).trans ((hf4.block _ (lt_of_block hb3) id).trans hb3)
  let X : Nat → Prop := fun k => qb ≤ k ∧ k < qb + 3
  have hP5 : Prb y5 w.heap.size X pb 0 (st (1 + t) [] []) := (((HP2.out.sub (X' := X) (fun k hk hx => by have := hx.1; omega)).fr0 hf3).fr0 hf4).fr0 hf5
  have hF5 : Fr (fun k => w.heap.size ≤ k) w y5 := ((HF2.out.trans hf3 (fun _ _ h => h.elim)).trans hf4 (fun _ _ h => h.elim)).trans hf5 (fun _ _ h => h.elim)
  have hwq : w.heap.size ≤ qb := by rw [← hqb]; exact HF2.out.size
  have HX5 := hide hx5
  have HYA5 := hide hy5'
  have HQ5 := hide hq5
  have HP5 := hide hP5
  have HF5 := hide hF5
  have HY3 := hide hy3
  have HY4 := hide hy4
  have HY5 := hide hy5
  have HQB := hide hqb
  clear hx5 hy5' hq5 hP5 hF5 hy3 hy4 hy5 hqb hf3 hf4 hf5 hb3 hb4 hb5 hnil s3 s4
  go_wp2_with fail
  rw [HY3.out, HY4.out, HY5.out, HQB.out]
  go_loopw [12, 13] (fun nn i wr => ∃ (k : Nat) (P : List Int), i = .int .i64 k ∧ k ≤ 20 ∧ nn = .int .i64 P.length ∧ Hid (P.Nodup ∧ ∀ z ∈ P, 0 ≤ z ∧ z < 1 + t) ∧ Prb wr w.heap.size X pb 0 (st (1 + t) P []) ∧ Arr wr (qb + 1) 58 5 (inB P) ∧ Arr wr (qb + 1 + 1) 58 5 (inB []) ∧ wr.heap[qb]? = some (.cells #[.int .i64 1, .int .i64 0] 29 (0, 0)) ∧ Fr (fun k => w.heap.size ≤ k) w wr)
    (fun _ i _ => 20 - (intOf i).toNat)
  case atStart => exact ⟨0, [], rfl, by omega, rfl, ⟨List.nodup_nil, fun _ hz => by cases hz⟩, HP5.out, HX5.out, HYA5.out, HQ5.out, HF5.out⟩
  case round =>
    obtain ⟨k, P, rfl, hk, rfl, HPN, hp, hx, hy, hq, hf⟩ := hrel
    have HP := hide hp
    have HX := hide hx
    have HYA := hide hy
    have HQ := hide hq
    have HF := hide hf
    clear hp hx hy hq hf
    by_cases hgo : k < n1 ∧ k < 20
    · obtain ⟨hg1, hg2⟩ := hgo
      obtain ⟨z, hz⟩ : ∃ z, l1[k]? = some z := ⟨_, List.getElem?_eq_getElem (by have := HN1.out; omega)⟩
      obtain ⟨b0, o0, rfl, hlt0, hcells⟩ := row_cells (toC := fun z : Int => [Value.int .i64 z]) (s := 1) (fun _ => rfl) HR1.out hz (by decide)
      have e0 := hcells 0 (.int .i64 z) rfl wr (HF.out.block _ hlt0 (by omega))
      rw [Nat.add_zero, Nat.mul_one] at e0
      have ik0 : (0 : Int) ≤ (k : Int) := by omega
      have ik1 : (k : Int) < (n1 : Int) := by omega
      clear hcells hz
      go_wp2_with fail
      refine (within_ex _ z 0 _ (by omega) (by omega) (by omega)).mono ?_
      rintro e w' ⟨nd, rfl, hn0, hn1', rfl⟩
      obtain ⟨K, rfl⟩ : ∃ K : Nat, nd = (K : Int) := ⟨nd.toNat, by omega⟩
      have c0 : wr.cell? ⟨qb, 0, none⟩ = some (.int .i64 1) := by rw [cell_of_block HQ.out]; rfl
      have c1 : wr.cell? ⟨qb, 1, none⟩ = some (.int .i64 0) := by rw [cell_of_block HQ.out]; rfl
      have hpr := promiseB wr w.heap.size X pb 0 _ HP.out (K : Int) (1, 0) (.slice none 0 0) [] (by decide) (Reads.nil _ _) (fun k hk => by cases hk) (by simp)
      rw [st_prom (1 + t) P K hn0 (by omega)] at hpr
      have HPR := hide (show Calls Try.prog 17 #[.pointer (some ⟨pb, 0, none⟩), .int .i64 (K : Int), .agg #[.int .i64 1, .int .i64 0], .slice none 0 0] wr _ from hpr)
      clear hpr
      go_wp2_with fail
      refine HPR.out.mono ?_
      rintro e w3 ⟨rfl, hp3, hf3⟩
      have hx3 := HX.out.fr hf3 (fun hh => hh.2 ⟨by omega, by omega⟩)
      have hK5 : K < 5 := by omega
      have iK : (K : Int) < 5 := by omega
      have hcx : w3.cell? ⟨qb + 1, K, none⟩ = some (.bool (decide ((K : Int) ∈ P))) := hx3.cell hK5
      have hfx : w3.frozen? ⟨qb + 1, K, none⟩ = false := hx3.free K
      obtain ⟨w4, hw4⟩ : ∃ y, w3.setCell ⟨qb + 1, K, none⟩ (.bool true) = y := ⟨_, rfl⟩
      have hf4 : Fr (fun k => k = qb + 1) w3 w4 := by rw [← hw4]; exact Fr.setCell _ _ _ rfl
      have hx4 : Arr w4 (qb + 1) 58 5 (inB (addS P K)) := by
        have := hx3.set K (.bool true)
        rw [hw4] at this
        refine this.congr (fun i hi => ?_)
        by_cases e : i = K
        · subst e; simp [inB, mem_addS]
        · have : (i : Int) ≠ K := by omega
          simp [inB, mem_addS, e, this]
      have hp4 : Prb w4 w.heap.size X pb 0 (st (1 + t) (addS P K) []) := hp3.fr hf4 (fun k hk => ⟨by omega, by omega⟩)
      have hya4 := (HYA.out.fr hf3 (fun hh => hh.2 ⟨by omega, by omega⟩)).fr hf4 (by omega)
      have hq4 := (hf4.block qb (Nat.lt_of_lt_of_le (lt_of_block HQ.out) hf3.size) (by omega)).trans ((hf3.block qb (lt_of_block HQ.out) (fun hh => hh.2 ⟨by omega, by omega⟩)).trans HQ.out)
      have hF4 := (HF.out.trans hf3 (fun _ _ h => h.1)).trans hf4 (fun k _ hk => by omega)
      have hled := ledBB w4 _ X pb 0 _ hp4
      have hP5 : P.length ≤ 5 := nodup_len 5 P HPN.out.1 (fun i hi => by have := HPN.out.2 i hi; exact ⟨by omega, by show i < 5; omega⟩)
      have HX4 := hide hx4
      have HP4 := hide hp4
      have HYA4 := hide hya4
      have HQ4 := hide hq4
      have HF4 := hide hF4
      have HW4 := hide hw4
      have hPN4 : (addS P K).Nodup ∧ ∀ z ∈ addS P K, 0 ≤ z ∧ z < 1 + t := ⟨addS_nodup HPN.out.1 _, fun i hi => (mem_addS.1 hi).elim (HPN.out.2 i) (fun e => by omega)⟩
      have HPN4 := hide hPN4
      clear hx3 hf4 hx4 hp4 hya4 hq4 hF4 hw4 hPN4 hp3 hf3
      by_cases hin : (K : Int) ∈ P
      · have hd : decide ((K : Int) ∈ P) = true := decide_eq_true hin
        rw [hd] at hcx
        have hadd : addS P K = P := by unfold addS; rw [if_pos hin]
        rw [hadd] at HX4 HP4 HPN4 hled
        have HLED := hide (show Calls Try.prog 13 #[.pointer (some ⟨pb, 0, none⟩)] w4 fun e w' => e = .returned (.bool (decide (1 + t < 2 * (P.length : Int)))) ∧ w' = w4 from hled)
        clear hled hd hin hadd
        go_wp2_with fail
        rw [HW4.out]
        refine HLED.out.mono ?_
        rintro e w' ⟨rfl, rfl⟩
        go_wp2_with fail
        go_roundw
        case rel => exact ⟨k + 1, P, by go_num, by omega, rfl, HPN4, HP4.out, HX4.out, HYA4.out, HQ4.out, HF4.out⟩
        case measure => simp [intOf]; omega
      · have hd : decide ((K : Int) ∈ P) = false := decide_eq_false hin
        rw [hd] at hcx
        have hadd : (addS P K).length = P.length + 1 := by unfold addS; rw [if_neg hin]; simp
        have HLED := hide (show Calls Try.prog 13 #[.pointer (some ⟨pb, 0, none⟩)] w4 fun e w' => e = .returned (.bool (decide (1 + t < 2 * ((P.length : Int) + 1)))) ∧ w' = w4 from by
          have e : ledB (st (1 + t) (addS P K) []) = decide (1 + t < 2 * ((P.length : Int) + 1)) := by
            show decide (1 + t < 2 * ((addS P K).length : Int)) = _
            rw [hadd]; rfl
          rw [e] at hled
          exact hled)
        have HADD := hide hadd
        clear hled hd hin hadd
        go_wp2_with fail
        rw [HW4.out]
        refine HLED.out.mono ?_
        rintro e w' ⟨rfl, rfl⟩
        go_wp2_with fail
        go_roundw
        case rel => exact ⟨k + 1, addS P K, by go_num, by omega, by rw [HADD.out]; go_num, HPN4, HP4.out, HX4.out, HYA4.out, HQ4.out, HF4.out⟩
        case measure => simp [intOf]; omega
    · have hex : n1 ≤ k ∨ (k < n1 ∧ 20 ≤ k) := by omega
      clear hgo
      have hXs : ∀ j, X j → j < wr.heap.size := fun j hj => by have := HYA.out.lt; have := hj.2; omega
      have hBw : w.heap.size ≤ wr.heap.size := HF.out.size
      have hP5 : P.length ≤ 5 := nodup_len 5 P HPN.out.1 (fun i hi => by have := HPN.out.2 i hi; exact ⟨by omega, by show i < 5; omega⟩)
      by_cases hld : 1 + t < 2 * (P.length : Int)
      · have h0 : ledB (st (1 + t) P []) = true := by show decide (1 + t < 2 * (P.length : Int)) = true; exact decide_eq_true hld
        have hpk := pickNewB wr w.heap.size X hXs pb 0 _ HP.out hBw (by omega) 3 ⟨#[118]⟩ h0 (by show ¬ (3 : Int) < 0; decide) (by decide) rfl
        have HPK := hide (show Calls Try.prog 18 #[.pointer (some ⟨pb, 0, none⟩), .int .i64 3, .string ⟨#[118]⟩] wr fun e w' => e = .returned (.tuple #[.string ⟨#[118]⟩, .bool true]) ∧ (∃ p q, Prb w' w.heap.size X pb 1 (st (1 + t) P [⟨3, p, q, ⟨#[118]⟩, []⟩])) ∧ Fr (Off w.heap.size X) wr w' from hpk)
        have hdl : decide (1 + t < 2 * (P.length : Int)) = true := decide_eq_true hld
        clear h0 hpk
        rcases hex with hx | ⟨hx, hx2⟩
        all_goals
          go_wp2_with fail
          refine HPK.out.mono ?_
          rintro e z1 ⟨rfl, ⟨pp, pq, hz1⟩, hfz1⟩
          have HZ1 := hide hz1
          have HYZ1 := hide (HYA.out.fr hfz1 (fun hh => hh.2 ⟨by omega, by omega⟩))
          have HQZ1 := hide ((hfz1.block qb (lt_of_block HQ.out) (fun hh => hh.2 ⟨by omega, by omega⟩)).trans HQ.out)
          have HFZ1 := hide (HF.out.trans hfz1 (fun _ _ h => h.1))
          clear hz1 hfz1
          go_wp2_with fail
          go_loopw [17, 18] (fun mm i wr => ∃ (k : Nat) (Y : List Int), i = .int .i64 k ∧ k ≤ 20 ∧ mm = .int .i64 Y.length ∧ Hid (Y.Nodup ∧ ∀ z ∈ Y, 0 ≤ z ∧ z < 1 + t) ∧ Prb wr w.heap.size X pb 1 (st (1 + t) P [⟨3, pp, pq, ⟨#[118]⟩, Y⟩]) ∧ Arr wr (qb + 1 + 1) 58 5 (inB Y) ∧ wr.heap[qb]? = some (.cells #[.int .i64 1, .int .i64 0] 29 (0, 0)) ∧ Fr (fun k => w.heap.size ≤ k) w wr)
            (fun _ i _ => 20 - (intOf i).toNat)
          case atStart => exact ⟨0, [], rfl, by omega, rfl, ⟨List.nodup_nil, fun _ hz => by cases hz⟩, HZ1.out, HYZ1.out, HQZ1.out, HFZ1.out⟩
          case round =>
            obtain ⟨k, Y, rfl, hk, rfl, HYN, hp, hy, hq, hf⟩ := hrel
            have HP2' := hide hp
            have HY2' := hide hy
            have HQ2' := hide hq
            have HF2' := hide hf
            clear hp hy hq hf
            have hY5 : Y.length ≤ 5 := nodup_len 5 Y HYN.out.1 (fun i hi => by have := HYN.out.2 i hi; exact ⟨by omega, by show i < 5; omega⟩)
            by_cases hgo : k < n2 ∧ k < 20
            · obtain ⟨hg1, hg2⟩ := hgo
              obtain ⟨z, hz⟩ : ∃ z, l2[k]? = some z := ⟨_, List.getElem?_eq_getElem (by have := HN2.out; omega)⟩
              obtain ⟨b0, o0, rfl, hlt0, hcells⟩ := row_cells (toC := fun z : Int => [Value.int .i64 z]) (s := 1) (fun _ => rfl) HR2.out hz (by decide)
              have e0 := hcells 0 (.int .i64 z) rfl wr (HF2'.out.block _ hlt0 (by omega))
              rw [Nat.add_zero, Nat.mul_one] at e0
              have ik0 : (0 : Int) ≤ (k : Int) := by omega
              have ik1 : (k : Int) < (n2 : Int) := by omega
              clear hcells hz
              go_wp2_with fail
              refine (within_ex _ z 0 _ (by omega) (by omega) (by omega)).mono ?_
              rintro e w' ⟨nd, rfl, hn0, hn1', rfl⟩
              obtain ⟨K, rfl⟩ : ∃ K : Nat, nd = (K : Int) := ⟨nd.toNat, by omega⟩
              have hK5 : K < 5 := by omega
              have iK : (K : Int) < 5 := by omega
              have hcx : wr.cell? ⟨qb + 1 + 1, K, none⟩ = some (.bool (decide ((K : Int) ∈ Y))) := HY2'.out.cell hK5
              have hfx : wr.frozen? ⟨qb + 1 + 1, K, none⟩ = false := HY2'.out.free K
              obtain ⟨w4, hw4⟩ : ∃ y, wr.setCell ⟨qb + 1 + 1, K, none⟩ (.bool true) = y := ⟨_, rfl⟩
              have hf4 : Fr (fun k => k = qb + 1 + 1) wr w4 := by rw [← hw4]; exact Fr.setCell _ _ _ rfl
              have hx4 : Arr w4 (qb + 1 + 1) 58 5 (inB (addS Y K)) := by
                have := HY2'.out.set K (.bool true)
                rw [hw4] at this
                refine this.congr (fun i hi => ?_)
                by_cases e : i = K
                · subst e; simp [inB, mem_addS]
                · have : (i : Int) ≠ K := by omega
                  simp [inB, mem_addS, e, this]
              have hp4 := HP2'.out.fr hf4 (fun k hk => ⟨by omega, by omega⟩)
              have hq4 := (hf4.block qb (lt_of_block HQ2'.out) (by omega)).trans HQ2'.out
              have hF4 := HF2'.out.trans hf4 (fun k _ hk => by omega)
              have d0 : w4.cell? ⟨qb, 0, none⟩ = some (.int .i64 1) := by rw [cell_of_block hq4]; rfl
              have d1 : w4.cell? ⟨qb, 1, none⟩ = some (.int .i64 0) := by rw [cell_of_block hq4]; rfl
              have hac := accYesB w4 w.heap.size X pb 1 _ hp4 (K : Int) 3 (by omega) ⟨by omega, by show (K : Int) < 1 + t; omega⟩ ⟨3, pp, pq, ⟨#[118]⟩, Y⟩ rfl
              have hacs : accS (st (1 + t) P [⟨3, pp, pq, ⟨#[118]⟩, Y⟩]) ⟨3, pp, pq, ⟨#[118]⟩, Y⟩ K = st (1 + t) P [⟨3, pp, pq, ⟨#[118]⟩, addS Y K⟩] := by simp [accS, st, accP]
              rw [hacs] at hac
              have hac : Calls Try.prog 20 #[.pointer (some ⟨pb, 0, none⟩), .int .i64 (K : Int), .agg #[.int .i64 1, .int .i64 0], .int .i64 3] w4 fun e w' => e = .returned (.bool (decide (1 + t < 2 * ((addS Y K).length : Int)))) ∧ Prb w' w.heap.size X pb 1 (st (1 + t) P [⟨3, pp, pq, ⟨#[118]⟩, addS Y K⟩]) ∧ Fr (Off w.heap.size X) w4 w' := hac
              have HX4 := hide hx4
              have HQ4 := hide hq4
              have HF4 := hide hF4
              have HW4 := hide hw4
              have hYN4 : (addS Y K).Nodup ∧ ∀ z ∈ addS Y K, 0 ≤ z ∧ z < 1 + t := ⟨addS_nodup HYN.out.1 _, fun i hi => (mem_addS.1 hi).elim (HYN.out.2 i) (fun e => by omega)⟩
              have HYN4 := hide hYN4
              clear hf4 hx4 hp4 hq4 hF4 hw4 hYN4 hacs
              by_cases hin : (K : Int) ∈ Y
              case' pos =>
                have hd : decide ((K : Int) ∈ Y) = true := decide_eq_true hin
                rw [hd] at hcx
                have hadd : (addS Y K).length = Y.length := by unfold addS; rw [if_pos hin]
                rw [hadd] at hac
                have HLEN : Hid (Value.int .i64 (Y.length : Int) = .int .i64 ((addS Y K).length : Int)) := by rw [hadd]; rfl
              case' neg =>
                have hd : decide ((K : Int) ∈ Y) = false := decide_eq_false hin
                rw [hd] at hcx
                have hadd : (addS Y K).length = Y.length + 1 := by unfold addS; rw [if_neg hin]; simp
                rw [hadd, show ((Y.length + 1 : Nat) : Int) = (Y.length : Int) + 1 from rfl] at hac
                have HLEN : Hid (Value.int .i64 ((Y.length : Int) + 1) = .int .i64 ((addS Y K).length : Int)) := by rw [hadd]; rfl
              all_goals
                have HAC := hide hac
                clear hac hd hin hadd
                go_upto_region 29 with fail
                rw [HW4.out]
                go_wp2_with fail
                refine HAC.out.mono ?_
                rintro e w5 ⟨rfl, hp5, hf5⟩
                have HP5' := hide hp5
                have HX5' := hide (HX4.out.fr hf5 (fun hh => hh.2 ⟨by omega, by omega⟩))
                have HQ5' := hide ((hf5.block qb (lt_of_block HQ4.out) (fun hh => hh.2 ⟨by omega, by omega⟩)).trans HQ4.out)
                have HF5' := hide (HF4.out.trans hf5 (fun _ _ h => h.1))
                clear hp5 hf5 d0 d1
                go_wp2_with fail
                go_roundw
                case rel => exact ⟨k + 1, addS Y K, by go_num, by omega, HLEN.out, HYN4, HP5'.out, HX5'.out, HQ5'.out, HF5'.out⟩
                case measure => simp [intOf]; omega
            · have hex2 : n2 ≤ k ∨ (k < n2 ∧ 20 ≤ k) := by omega
              clear hgo
              have hop := openB wr w.heap.size X pb 1 _ HP2'.out (by show ((1 : Int), (0 : Int)) ≠ (0, 0); decide) (by omega) [3] (by simp) (fun x => by
                have e1 : vm (st (1 + t) P [⟨3, pp, pq, ⟨#[118]⟩, Y⟩]).vs (.int .i64 x) = none := rfl
                rw [e1]
                by_cases hx : x = 3
                · subst hx; simp [pkF, pkAt, st]
                · have hx' : ¬ (3 : Int) = x := fun e => hx e.symm
                  simp [pkF, pkAt, st, hx, hx']) (by simp) (by simp)
              have hdc : decB (st (1 + t) P [⟨3, pp, pq, ⟨#[118]⟩, Y⟩]) 3 = decide (1 + t < 2 * (Y.length : Int)) := rfl
              by_cases hdec : 1 + t < 2 * (Y.length : Int)
              case' pos =>
                have hR : ([3] : List Int).filter (fun x => !decB (st (1 + t) P [⟨3, pp, pq, ⟨#[118]⟩, Y⟩]) x) = [] := by simp [hdc, hdec]
                rw [hR] at hop
                have hd1 : decide (2 * (Y.length : Int) ≤ 1 + t) = false := by simp; omega
              case' neg =>
                have hR : ([3] : List Int).filter (fun x => !decB (st (1 + t) P [⟨3, pp, pq, ⟨#[118]⟩, Y⟩]) x) = [3] := by simp [hdc, hdec]
                rw [hR] at hop
                have hd1 : decide (2 * (Y.length : Int) ≤ 1 + t) = true := by simp; omega
              all_goals
                have HOP := hide hop
                clear hop hR hdc
                rcases hex2 with hx | ⟨hx, hx2⟩
              all_goals
                go_wp2_with fail
                refine HOP.out.mono ?_
                rintro e w8 ⟨v8, rfl, hr8, _, hf8⟩
                obtain ⟨-, a8, c8, rfl, -, -, -⟩ := hr8
                go_wp2_with fail
                refine (known_any _).mono ?_
                rintro e w10 ⟨rfl, hf10⟩
                go_wp2_with fail
                go_ret
                exact ⟨rfl, ((HF2'.out.trans hf8 (fun j _ hj => hj.elim)).trans hf10 (fun j _ hj => hj.elim)).toBelow (Nat.le_refl _) (fun j hj h => by omega)⟩
      · have h0 : ledB (st (1 + t) P []) = false := by show decide (1 + t < 2 * (P.length : Int)) = false; exact decide_eq_false hld
        have hpk := pickNoB wr w.heap.size X pb 0 _ HP.out 3 ⟨#[118]⟩ (.inl h0)
        have HPK := hide hpk
        have hdl : decide (1 + t < 2 * (P.length : Int)) = false := decide_eq_false hld
        clear h0 hpk
        rcases hex with hx | ⟨hx, hx2⟩
        all_goals
          go_wp2_with fail
          refine HPK.out.mono ?_
          rintro e z1 ⟨rfl, rfl⟩
          go_wp2_with fail
          go_loopw [17, 18] (fun mm i wr => ∃ (k : Nat) (Y : List Int), i = .int .i64 k ∧ k ≤ 20 ∧ mm = .int .i64 0 ∧ Prb wr w.heap.size X pb 0 (st (1 + t) P []) ∧ Arr wr (qb + 1 + 1) 58 5 (inB Y) ∧ wr.heap[qb]? = some (.cells #[.int .i64 1, .int .i64 0] 29 (0, 0)) ∧ Fr (fun k => w.heap.size ≤ k) w wr)
            (fun _ i _ => 20 - (intOf i).toNat)
          case atStart => exact ⟨0, [], rfl, by omega, rfl, HP.out, HYA.out, HQ.out, HF.out⟩
          case round =>
            obtain ⟨k, Y, rfl, hk, rfl, hp, hy, hq, hf⟩ := hrel
            have HP2' := hide hp
            have HY2' := hide hy
            have HQ2' := hide hq
            have HF2' := hide hf
            clear hp hy hq hf
            by_cases hgo : k < n2 ∧ k < 20
            · obtain ⟨hg1, hg2⟩ := hgo
              obtain ⟨z, hz⟩ : ∃ z, l2[k]? = some z := ⟨_, List.getElem?_eq_getElem (by have := HN2.out; omega)⟩
              obtain ⟨b0, o0, rfl, hlt0, hcells⟩ := row_cells (toC := fun z : Int => [Value.int .i64 z]) (s := 1) (fun _ => rfl) HR2.out hz (by decide)
              have e0 := hcells 0 (.int .i64 z) rfl wr (HF2'.out.block _ hlt0 (by omega))
              rw [Nat.add_zero, Nat.mul_one] at e0
              have ik0 : (0 : Int) ≤ (k : Int) := by omega
              have ik1 : (k : Int) < (n2 : Int) := by omega
              clear hcells hz
              go_wp2_with fail
              refine (within_ex _ z 0 _ (by omega) (by omega) (by omega)).mono ?_
              rintro e w' ⟨nd, rfl, hn0, hn1', rfl⟩
              obtain ⟨K, rfl⟩ : ∃ K : Nat, nd = (K : Int) := ⟨nd.toNat, by omega⟩
              have hK5 : K < 5 := by omega
              have iK : (K : Int) < 5 := by omega
              have hcx : wr.cell? ⟨qb + 1 + 1, K, none⟩ = some (.bool (decide ((K : Int) ∈ Y))) := HY2'.out.cell hK5
              have hfx : wr.frozen? ⟨qb + 1 + 1, K, none⟩ = false := HY2'.out.free K
              obtain ⟨w4, hw4⟩ : ∃ y, wr.setCell ⟨qb + 1 + 1, K, none⟩ (.bool true) = y := ⟨_, rfl⟩
              have hf4 : Fr (fun k => k = qb + 1 + 1) wr w4 := by rw [← hw4]; exact Fr.setCell _ _ _ rfl
              have hx4 : Arr w4 (qb + 1 + 1) 58 5 (inB (addS Y K)) := by
                have := HY2'.out.set K (.bool true)
                rw [hw4] at this
                refine this.congr (fun i hi => ?_)
                by_cases e : i = K
                · subst e; simp [inB, mem_addS]
                · have : (i : Int) ≠ K := by omega
                  simp [inB, mem_addS, e, this]
              have hp4 := HP2'.out.fr hf4 (fun k hk => ⟨by omega, by omega⟩)
              have hq4 := (hf4.block qb (lt_of_block HQ2'.out) (by omega)).trans HQ2'.out
              have hF4 := HF2'.out.trans hf4 (fun k _ hk => by omega)
              have d0 : w4.cell? ⟨qb, 0, none⟩ = some (.int .i64 1) := by rw [cell_of_block hq4]; rfl
              have d1 : w4.cell? ⟨qb, 1, none⟩ = some (.int .i64 0) := by rw [cell_of_block hq4]; rfl
              have hac := accNoB w4 w.heap.size X pb 0 _ hp4 (K : Int) (1, 0) 3 (by omega) (.inr (.inr rfl))
              have HAC := hide (show Calls Try.prog 20 #[.pointer (some ⟨pb, 0, none⟩), .int .i64 (K : Int), .agg #[.int .i64 1, .int .i64 0], .int .i64 3] w4 _ from hac)
              have HX4 := hide hx4
              have HQ4 := hide hq4
              have HF4 := hide hF4
              have HW4 := hide hw4
              have hdf : decide (1 + t < (0 : Int)) = false := by simp; omega
              clear hf4 hx4 hp4 hq4 hF4 hw4 hac
              go_upto_region 29 with fail
              rw [HW4.out]
              go_wp2_with fail
              refine HAC.out.mono ?_
              rintro e w5 ⟨rfl, hp5, hf5⟩
              have HP5' := hide hp5
              have HX5' := hide (HX4.out.fr hf5 id)
              have HQ5' := hide ((hf5.block qb (lt_of_block HQ4.out) id).trans HQ4.out)
              have HF5' := hide (HF4.out.trans hf5 (fun _ _ h => h.elim))
              clear hp5 hf5 d0 d1
              go_wp2_with fail
              go_roundw
              case rel => exact ⟨k + 1, addS Y K, by go_num, by omega, rfl, HP5'.out, HX5'.out, HQ5'.out, HF5'.out⟩
              case measure => simp [intOf]; omega
            · have hex2 : n2 ≤ k ∨ (k < n2 ∧ 20 ≤ k) := by omega
              clear hgo
              have hop := openB wr w.heap.size X pb 0 _ HP2'.out (by show ((1 : Int), (0 : Int)) ≠ (0, 0); decide) (by omega) [] (by simp) (fun x => by
                have e1 : vm (st (1 + t) P []).vs (.int .i64 x) = none := rfl
                have e2 : pkF (st (1 + t) P []).ks (.int .i64 x) = none := rfl
                rw [e1, e2]; simp) (by simp) (by simp)
              rw [show ([] : List Int).filter (fun x => !decB (st (1 + t) P []) x) = [] from rfl] at hop
              have HOP := hide hop
              clear hop
              rcases hex2 with hx | ⟨hx, hx2⟩
              all_goals
                go_wp2_with fail
                refine HOP.out.mono ?_
                rintro e w8 ⟨v8, rfl, hr8, _, hf8⟩
                obtain ⟨-, a8, c8, rfl, -, -, -⟩ := hr8
                go_wp2_with fail
                refine (known_any _).mono ?_
                rintro e w10 ⟨rfl, hf10⟩
                go_wp2_with fail
                go_ret
                exact ⟨rfl, ((HF2'.out.trans hf8 (fun j _ hj => hj.elim)).trans hf10 (fun j _ hj => hj.elim)).toBelow (Nat.le_refl _) (fun j hj h => by omega)⟩
end Go.Proofs.Ytkefffcfiedkeaa.PaxosMajority
