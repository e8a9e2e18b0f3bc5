/- PaxosNumbers's walk. -/
import Derived.Test.YtkefffcfiedkeaaPaxosB2
import Derived.Test.YtkefffcfiedkeaaSameInt
namespace Go.Proofs.Ytkefffcfiedkeaa.PaxosNumbers
open Go.RowKit Go.Maps Go.Cv
set_option linter.unusedVariables false

theorem new_bad (w : World) (me nodes : Int) (h : nodes < 1 ∨ 5 < nodes ∨ me < 0 ∨ nodes ≤ me) :
    Calls Try.prog 9 #[.int .i64 me, .int .i64 nodes] w fun e w' => e = .returned (.tuple #[.pointer none, .int .i64 1]) ∧ w' = w := by
  have hc : nodes < 1 ∨ (¬ nodes < 1 ∧ 5 < nodes) ∨ (¬ nodes < 1 ∧ ¬ 5 < nodes ∧ me < 0) ∨ (¬ nodes < 1 ∧ ¬ 5 < nodes ∧ ¬ me < 0 ∧ nodes ≤ me) := by omega
  clear h
  rcases hc with h | ⟨h, h1⟩ | ⟨h, h1, h2⟩ | ⟨h, h1, h2, h3⟩
  all_goals
    go_enter Try.func9, Try.ntmps9
    go_wp2_with fail
    go_ret2
    exact ⟨rfl, rfl⟩

def vNew : Vt := (3, (5, 2), ⟨#[110, 101, 119]⟩)
def vs1 : List Vt := [(1, (1, 0), ⟨#[108, 111, 119]⟩), (3, (2, 0), ⟨#[111, 108, 100]⟩), vNew]
def vs2 : List Vt := [(3, (5, 2), ⟨#[108, 97, 116, 101]⟩)]
def st (ps : List Int) (vs : List Vt) (ks : List Pk) : PS := ⟨1, 3, 8, (8, 1), 2, ps, vs, ks⟩
theorem t1 : beginS (seenS (ps0 1 3) 7) 2 = st [] [] [] := rfl
theorem t2 : promS (st [] [] []) 0 (8, 1) vs1 = st [0] [vNew] [] := rfl
theorem t3 : promS (st [0] [vNew] []) 0 (8, 1) [] = st [0] [vNew] [] := rfl
theorem t4 : promS (st [0] [vNew] []) 1 (8, 1) vs2 = st [0, 1] [vNew] [] := rfl
theorem t5 : pickV (st [0, 1] [vNew] []) 3 ⟨#[109, 105, 110, 101]⟩ = ⟨#[110, 101, 119]⟩ := rfl

theorem accN (pp pq : Nat) (v : ByteArray) (ns : List Int) (k : Int) : accS (st [0, 1] [vNew] [⟨3, pp, pq, v, ns⟩]) ⟨3, pp, pq, v, ns⟩ k = st [0, 1] [vNew] [⟨3, pp, pq, v, addS ns k⟩] := by simp [accS, st, accP]
theorem accC (w : World) (B : Nat) (X : Nat → Prop) (pb n pp pq : Nat) (v : ByteArray) (ns : List Int) (k : Int) (h : Prb w B X pb n (st [0, 1] [vNew] [⟨3, pp, pq, v, ns⟩])) (hk : 0 ≤ k ∧ k < 3) (q : Bool) (hq : decide ((3 : Int) < 2 * ((addS ns k).length : Int)) = q) :
    Calls Try.prog 20 #[.pointer (some ⟨pb, 0, none⟩), .int .i64 k, .agg #[.int .i64 8, .int .i64 1], .int .i64 3] w fun e w' => e = .returned (.bool q) ∧ Prb w' B X pb n (st [0, 1] [vNew] [⟨3, pp, pq, v, addS ns k⟩]) ∧ Fr (Off B X) w w' := by
  have := accYesB w B X pb n _ h k 3 (by omega) hk ⟨3, pp, pq, v, ns⟩ rfl
  rw [accN] at this
  refine this.mono ?_
  rintro e w' ⟨rfl, h1, h2⟩
  exact ⟨by rw [← hq]; rfl, h1, h2⟩

set_option maxRecDepth 100000 in
set_option maxHeartbeats 6400000 in
theorem walk (w : World) : Calls Try.prog 7 #[] w fun e w' => e = .returned (.bool true) ∧ Below w.heap.size w w' := by
  go_enter Try.func7, Try.ntmps7
  go_wp2_with fail
  refine (new_bad w 3 3 (by omega)).mono ?_
  rintro e w' ⟨rfl, rfl⟩
  go_wp2_with fail
  refine (new_bad _ 0 6 (by omega)).mono ?_
  rintro e w' ⟨rfl, rfl⟩
  go_wp2_with fail
  refine (newB w' w'.heap.size (fun _ => False) (fun _ h => h.elim) (Nat.le_refl _) 1 3 (by omega) (by omega) (by omega) (by omega)).mono ?_
  rintro e w1 ⟨pb, rfl, hp, hf⟩
  have A1 := hide hp
  have F1 := hide (hf.mono (S' := fun k => w'.heap.size ≤ k) (fun _ _ h => h.elim))
  have hs1 := hf.size
  have hb1 := ballotB w1 _ _ pb 0 _ hp
  have HB1 := hide (show Calls Try.prog 12 #[.pointer (some ⟨pb, 0, none⟩)] w1 fun e w' => e = .returned (.agg #[.int .i64 0, .int .i64 0]) ∧ Fr (fun _ => False) w1 w' from hb1)
  clear hp hf hb1
  go_wp2_with fail
  refine HB1.out.mono ?_
  rintro e w2 ⟨rfl, hf⟩
  obtain ⟨zq, hzq⟩ : ∃ q, w2.heap.size = q := ⟨_, rfl⟩
  obtain ⟨w3, hw3⟩ : ∃ y, w2.alloc (.cells #[.int .i64 0, .int .i64 0] 29) = y := ⟨_, rfl⟩
  have hfa : Fr (fun _ => False) w2 w3 := by rw [← hw3]; exact Fr.alloc _ _ _
  have hz3 : w3.heap[zq]? = some (.cells #[.int .i64 0, .int .i64 0] 29 (0, 0)) := by rw [← hw3, ← hzq]; exact block_alloc _ _
  have hp3 : Prb w3 w'.heap.size (fun k => k = zq) pb 0 (ps0 1 3) := ((A1.out.fr0 hf).sub (X' := fun k => k = zq) (fun k hk hx => by omega)).fr0 hfa
  have hse := seenB w3 _ _ pb 0 _ hp3 (7, 2) (by decide)
  have HSE := hide (show Calls Try.prog 10 #[.pointer (some ⟨pb, 0, none⟩), .agg #[.int .i64 7, .int .i64 2]] w3 _ from hse)
  have HW3 := hide hw3
  have HZQ := hide hzq
  have HZ3 := hide hz3
  have F3 := hide ((F1.out.trans hf (fun _ _ h => h.elim)).trans hfa (fun _ _ h => h.elim))
  have hzw : zq < w3.heap.size := lt_of_block hz3
  clear hw3 hzq hz3 hfa hp3 hse hf
  go_upto_region 7 with fail
  rw [HW3.out, HZQ.out]
  go_wp2_with fail
  refine HSE.out.mono ?_
  rintro e w4 ⟨rfl, hp4, hf4⟩
  have hs4 := hf4.size
  have hB4 : w'.heap.size ≤ w4.heap.size := by have := F3.out.size; omega
  have hbg := beginB w4 _ _ (fun k hk => by omega) pb 0 _ hp4 hB4 2 (by decide)
  rw [t1] at hbg
  have HBG := hide (show Calls Try.prog 11 #[.pointer (some ⟨pb, 0, none⟩), .int .i64 2] w4 fun e wz => e = .returned (.agg #[.int .i64 8, .int .i64 1]) ∧ Prb wz w'.heap.size (fun k => k = zq) pb 0 (st [] [] []) ∧ Fr (Off w'.heap.size (fun k => k = zq)) w4 wz from hbg)
  have Z4 := hide ((hf4.block zq hzw (fun hh => hh.2 rfl)).trans HZ3.out)
  have F4 := hide (F3.out.trans hf4 (fun _ _ h => h.1))
  clear hp4 hf4 hbg
  go_wp2_with fail
  refine HBG.out.mono ?_
  rintro e w5 ⟨rfl, hp5, hf5⟩
  obtain ⟨cq, hcq⟩ : ∃ q, w5.heap.size = q := ⟨_, rfl⟩
  obtain ⟨w6, hw6⟩ : ∃ y, w5.alloc (.cells #[.int .i64 8, .int .i64 1] 29) = y := ⟨_, rfl⟩
  have hfa : Fr (fun _ => False) w5 w6 := by rw [← hw6]; exact Fr.alloc _ _ _
  have hc6 : w6.heap[cq]? = some (.cells #[.int .i64 8, .int .i64 1] 29 (0, 0)) := by rw [← hw6, ← hcq]; exact block_alloc _ _
  obtain ⟨rq, hrq⟩ : ∃ q, w6.heap.size = q := ⟨_, rfl⟩
  obtain ⟨w7, hw7⟩ : ∃ y, w6.alloc (.cells #[.int .i64 1, .int .i64 1, .int .i64 0, .string ⟨#[108, 111, 119]⟩, .int .i64 3, .int .i64 2, .int .i64 0, .string ⟨#[111, 108, 100]⟩, .int .i64 3, .int .i64 5, .int .i64 2, .string ⟨#[110, 101, 119]⟩] 56) = y := ⟨_, rfl⟩
  have hfb : Fr (fun _ => False) w6 w7 := by rw [← hw7]; exact Fr.alloc _ _ _
  have hr7 : w7.heap[rq]? = some (.cells #[.int .i64 1, .int .i64 1, .int .i64 0, .string ⟨#[108, 111, 119]⟩, .int .i64 3, .int .i64 2, .int .i64 0, .string ⟨#[111, 108, 100]⟩, .int .i64 3, .int .i64 5, .int .i64 2, .string ⟨#[110, 101, 119]⟩] 56 (0, 0)) := by rw [← hw7, ← hrq]; exact block_alloc _ _
  have hzc : zq < cq := by have := hf5.size; have := hs4; omega
  have hcr : cq < rq := by rw [← hrq]; exact lt_of_block hc6
  have hp7 : Prb w7 w'.heap.size (fun k => k = zq ∨ k = cq ∨ k = rq) pb 0 (st [] [] []) := (((hp5.sub (X' := fun k => k = zq ∨ k = cq ∨ k = rq) (fun k hk hx => by omega)).fr0 hfa).fr0 hfb)
  have hz7 := (hfb.block zq (by omega) id).trans ((hfa.block zq (by omega) id).trans ((hf5.block zq (by omega) (fun hh => hh.2 rfl)).trans Z4.out))
  have hc7 := (hfb.block cq (lt_of_block hc6) id).trans hc6
  have hrd : Reads w7 (.slice (some ⟨rq, 0, none⟩) 3 3) vs1.length 4 (rowV vs1) :=
    ⟨rfl, _, _, rfl, (by intro h; cases h), Nat.le_refl _, fun i u hu => ⟨_, _, rfl, by rw [cell_of_block hr7]; simpa [rowV, vcells, vs1, vNew] using hu⟩⟩
  have hpm := promiseB w7 w'.heap.size (fun k => k = zq ∨ k = cq ∨ k = rq) pb 0 _ hp7 0 (8, 1) (.slice (some ⟨rq, 0, none⟩) 3 3) vs1 (by decide) hrd (fun k hk => .inl (by simp [Value.ownBlock] at hk; exact .inr (.inr hk.symm))) (by decide)
  rw [t2] at hpm
  have HPM := hide (show Calls Try.prog 17 #[.pointer (some ⟨pb, 0, none⟩), .int .i64 0, .agg #[.int .i64 8, .int .i64 1], .slice (some ⟨rq, 0, none⟩) 3 3] w7 _ from hpm)
  have F7 := hide (((F4.out.trans hf5 (fun _ _ h => h.1)).trans hfa (fun _ _ h => h.elim)).trans hfb (fun _ _ h => h.elim))
  have HW6 := hide hw6
  have HW7 := hide hw7
  have HCQ := hide hcq
  have HRQ := hide hrq
  have Z7 := hide hz7
  have C7 := hide hc7
  have hc60 : w6.cell? ⟨cq, 0, none⟩ = some (.int .i64 8) := by rw [cell_of_block hc6]; rfl
  have hc61 : w6.cell? ⟨cq, 1, none⟩ = some (.int .i64 1) := by rw [cell_of_block hc6]; rfl
  have hr7s : rq < w7.heap.size := lt_of_block hr7
  clear hw6 hw7 hcq hrq hz7 hc7 hfa hfb hc6 hr7 hp7 hp5 hf5 hrd hpm
  go_upto_region 9 with fail
  rw [HW6.out, HCQ.out]
  go_wp2_with fail
  rw [HW7.out, HRQ.out]
  refine HPM.out.mono ?_
  rintro e w8 ⟨rfl, hp8, hf8⟩
  have hX : ∀ wx, Fr (Off w'.heap.size (fun k => k = zq ∨ k = cq ∨ k = rq)) w7 wx → wx.cell? ⟨cq, 0, none⟩ = some (.int .i64 8) ∧ wx.cell? ⟨cq, 1, none⟩ = some (.int .i64 1) ∧ wx.cell? ⟨zq, 0, none⟩ = some (.int .i64 0) ∧ wx.cell? ⟨zq, 1, none⟩ = some (.int .i64 0) := fun wx hf => by
    have e1 := (hf.block cq (lt_of_block C7.out) (fun hh => hh.2 (.inr (.inl rfl)))).trans C7.out
    have e2 := (hf.block zq (lt_of_block Z7.out) (fun hh => hh.2 (.inl rfl))).trans Z7.out
    exact ⟨by rw [cell_of_block e1]; rfl, by rw [cell_of_block e1]; rfl, by rw [cell_of_block e2]; rfl, by rw [cell_of_block e2]; rfl⟩
  have HX := hide hX
  obtain ⟨c0, c1, _, _⟩ := hX w8 hf8
  have hpm := promiseB w8 w'.heap.size (fun k => k = zq ∨ k = cq ∨ k = rq) pb _ _ hp8 0 (8, 1) (.slice none 0 0) [] (by decide) (Reads.nil _ _) (fun k hk => by cases hk) (by decide)
  rw [t3] at hpm
  have HPM8 := hide (show Calls Try.prog 17 #[.pointer (some ⟨pb, 0, none⟩), .int .i64 0, .agg #[.int .i64 8, .int .i64 1], .slice none 0 0] w8 _ from hpm)
  have G8 := hide hf8
  clear hX hpm hp8 hf8 hc60 hc61
  go_wp2_with fail
  refine HPM8.out.mono ?_
  rintro e w9 ⟨rfl, hp9, hf9⟩
  have hled := ledBB w9 _ _ pb _ _ hp9
  have HLED := hide (show Calls Try.prog 13 #[.pointer (some ⟨pb, 0, none⟩)] w9 fun e wz => e = .returned (.bool false) ∧ wz = w9 from hled)
  have G9 := hide (G8.out.trans hf9 (fun _ _ h => h))
  have P9 := hide hp9
  clear hp9 hf9 hled c0 c1
  go_wp2_with fail
  refine HLED.out.mono ?_
  rintro e wz ⟨rfl, rfl⟩
  obtain ⟨sq, hsq⟩ : ∃ q, wz.heap.size = q := ⟨_, rfl⟩
  obtain ⟨y1, hy1⟩ : ∃ y, wz.alloc (.cells #[.int .i64 3, .int .i64 5, .int .i64 2, .string ⟨#[108, 97, 116, 101]⟩] 56) = y := ⟨_, rfl⟩
  have hfa : Fr (fun _ => False) wz y1 := by rw [← hy1]; exact Fr.alloc _ _ _
  have hs1' : y1.heap[sq]? = some (.cells #[.int .i64 3, .int .i64 5, .int .i64 2, .string ⟨#[108, 97, 116, 101]⟩] 56 (0, 0)) := by rw [← hy1, ← hsq]; exact block_alloc _ _
  have hp10 : Prb y1 w'.heap.size (fun k => (k = zq ∨ k = cq ∨ k = rq) ∨ k = sq) pb _ (st [0] [vNew] []) := ((P9.out.sub (X' := fun k => (k = zq ∨ k = cq ∨ k = rq) ∨ k = sq) (fun k hk hx => hx.elim id (fun h => by omega))).fr0 hfa)
  have hrd : Reads y1 (.slice (some ⟨sq, 0, none⟩) 1 1) vs2.length 4 (rowV vs2) :=
    ⟨rfl, _, _, rfl, (by intro h; cases h), Nat.le_refl _, fun i u hu => ⟨_, _, rfl, by rw [cell_of_block hs1']; simpa [rowV, vcells, vs2] using hu⟩⟩
  have hpm := promiseB y1 w'.heap.size (fun k => (k = zq ∨ k = cq ∨ k = rq) ∨ k = sq) pb _ _ hp10 1 (8, 1) (.slice (some ⟨sq, 0, none⟩) 1 1) vs2 (by decide) hrd (fun k hk => .inl (by simp [Value.ownBlock] at hk; exact .inr hk.symm)) (by decide)
  rw [t4] at hpm
  have HPM := hide (show Calls Try.prog 17 #[.pointer (some ⟨pb, 0, none⟩), .int .i64 1, .agg #[.int .i64 8, .int .i64 1], .slice (some ⟨sq, 0, none⟩) 1 1] y1 _ from hpm)
  obtain ⟨c0, c1, _, _⟩ := HX.out wz G9.out
  have GY := hide (G9.out.trans hfa (fun _ _ h => h.elim))
  have HY1 := hide hy1
  have HSQ := hide hsq
  clear hy1 hsq hfa hs1' hp10 hrd hpm
  go_wp2_with fail
  rw [HY1.out, HSQ.out]
  refine HPM.out.mono ?_
  rintro e y2 ⟨rfl, hp2, hf2⟩
  have hB2 : w'.heap.size ≤ y2.heap.size := by have := hf2.size; have := GY.out.size; have := F7.out.size; omega
  have G2 := hide (GY.out.trans hf2 (fun k _ hk => ⟨hk.1, fun h => hk.2 (.inl h)⟩))
  have hX2 : ∀ k, (k = zq ∨ k = cq ∨ k = rq) → k < y2.heap.size := fun k hk => by have := G2.out.size; omega
  have hp2' : Prb y2 w'.heap.size (fun k => k = zq ∨ k = cq ∨ k = rq) pb _ (st [0, 1] [vNew] []) := hp2.sub (fun k _ h => .inl h)
  have hpk := pickNewB y2 w'.heap.size _ hX2 pb _ _ hp2' hB2 (by decide) 3 ⟨#[109, 105, 110, 101]⟩ rfl (by show ¬ (3 : Int) < 2; decide) (by decide) rfl
  rw [t5] at hpk
  have HPK := hide hpk
  clear hp2 hp2' hf2 hpk c0 c1
  go_wp2_with fail
  refine HPK.out.mono ?_
  rintro e y3 ⟨rfl, ⟨pp, pq, hp3⟩, hf3⟩
  have hp3 : Prb y3 w'.heap.size (fun k => k = zq ∨ k = cq ∨ k = rq) pb _ (st [0, 1] [vNew] [⟨3, pp, pq, ⟨#[110, 101, 119]⟩, []⟩]) := hp3
  have G3 := hide (G2.out.trans hf3 (fun _ _ h => h))
  have hpn := pickNoB y3 _ _ pb _ _ hp3 1 ⟨#[109, 105, 110, 101]⟩ (.inr (.inl (by show (1 : Int) < 2; decide)))
  have HPN := hide hpn
  have P3 := hide hp3
  clear hp3 hf3 hpn
  go_wp2_with fail
  refine HPN.out.mono ?_
  rintro e wz2 ⟨rfl, rfl⟩
  have hop := openB wz2 _ _ pb _ _ P3.out (by show ((8 : Int), (1 : Int)) ≠ (0, 0); decide) (by decide) [3] (by simp) (fun x => by
    by_cases hx : x = 3
    · subst hx; simp [pkF, pkAt, st]
    · have hx' : ¬ (3 : Int) = x := fun e => hx e.symm
      simp [pkF, pkAt, st, vm, at_, vNew, hx, hx']) (by simp) (by simp)
  rw [show ([3] : List Int).filter (fun x => !decB (st [0, 1] [vNew] [⟨3, pp, pq, ⟨#[110, 101, 119]⟩, []⟩]) x) = [3] from rfl] at hop
  have HOP := hide hop
  clear hop
  go_wp2_with fail
  refine HOP.out.mono ?_
  rintro e y4 ⟨v4, rfl, hr4, hp4, hf4⟩
  have hr4' := hr4
  obtain ⟨-, a4, c4, rfl, -, -, -⟩ := hr4'
  obtain ⟨X, hX⟩ : ∃ X : Nat → Prop, (fun k => (k = zq ∨ k = cq ∨ k = rq) ∨ (Value.slice a4 [(3 : Int)].length c4).ownBlock = some k) = X := ⟨_, rfl⟩
  have hXl : ∀ k, (k = zq ∨ k = cq ∨ k = rq) → X k := fun k hk => by rw [← hX]; exact .inl hk
  have hXr : ∀ a : Addr, a4 = some a → X a.block := fun a e => by rw [← hX, e]; exact .inr rfl
  rw [hX] at hp4
  have HXL := hide hXl
  have HXR := hide hXr
  have hfo : ∀ (wa wb : World), Fr (Off w'.heap.size X) wa wb → Fr (Off w'.heap.size (fun k => k = zq ∨ k = cq ∨ k = rq)) wa wb := fun wa wb hf => hf.mono (fun k _ hk => ⟨hk.1, fun h => hk.2 (HXL.out k h)⟩)
  have HFO := hide hfo
  have hrr : ∀ (wa wb : World), Reads wa (.slice a4 1 c4) [(3 : Int)].length 1 ([(3 : Int)].map (Value.int .i64)) → Fr (Off w'.heap.size X) wa wb → Reads wb (.slice a4 1 c4) [(3 : Int)].length 1 ([(3 : Int)].map (Value.int .i64)) := fun wa wb hr hf => hr.fr hf (fun a n c e hs => hs.2 (HXR.out a (by cases e; rfl)))
  have HRR := hide hrr
  have R4 := hide (show Reads y4 (.slice a4 1 c4) [(3 : Int)].length 1 ([(3 : Int)].map (Value.int .i64)) from hr4)
  have G4 := hide (G3.out.trans hf4 (fun _ _ h => h.elim))
  obtain ⟨c0, c1, _, _⟩ := HX.out y4 G4.out
  have HA := hide (accC y4 _ _ pb _ pp pq _ [] 0 hp4 (by omega) false rfl)
  clear hp4 hf4 hr4 hX hXl hXr hfo hrr
  go_wp2_with fail
  refine HA.out.mono ?_
  rintro e y5 ⟨rfl, hp5, hf5⟩
  have G5 := hide (G4.out.trans (HFO.out _ _ hf5) (fun _ _ h => h))
  have R5 := hide (HRR.out _ _ R4.out hf5)
  obtain ⟨c2, c3, _, _⟩ := HX.out y5 G5.out
  have HA := hide (accC y5 _ _ pb _ pp pq _ _ 0 hp5 (by omega) false rfl)
  clear hp5 hf5 c0 c1
  go_wp2_with fail
  refine HA.out.mono ?_
  rintro e y6 ⟨rfl, hp6, hf6⟩
  have G6 := hide (G5.out.trans (HFO.out _ _ hf6) (fun _ _ h => h))
  have R6 := hide (HRR.out _ _ R5.out hf6)
  obtain ⟨c0, c1, _, _⟩ := HX.out y6 G6.out
  have HA := hide (accC y6 _ _ pb _ pp pq _ _ 2 hp6 (by omega) true rfl)
  clear hp6 hf6 c2 c3
  go_wp2_with fail
  refine HA.out.mono ?_
  rintro e y7 ⟨rfl, hp7, hf7⟩
  have G7 := hide (G6.out.trans (HFO.out _ _ hf7) (fun _ _ h => h))
  have R7 := hide (HRR.out _ _ R6.out hf7)
  obtain ⟨c2, c3, z2, z3⟩ := HX.out y7 G7.out
  have hac := accNoB y7 _ _ pb _ _ hp7 1 (8, 1) 4 (by omega) (.inr (.inr rfl))
  have HA := hide (show Calls Try.prog 20 #[.pointer (some ⟨pb, 0, none⟩), .int .i64 1, .agg #[.int .i64 8, .int .i64 1], .int .i64 4] y7 _ from hac)
  clear hp7 hf7 c0 c1 hac z2 z3
  go_wp2_with fail
  refine HA.out.mono ?_
  rintro e y8 ⟨rfl, hp8, hf8⟩
  have G8 := hide (G7.out.trans hf8 (fun _ _ h => h.elim))
  have R8 := hide (R7.out.fr hf8 (fun _ _ _ _ => id))
  have P8 := hide hp8
  obtain ⟨c0, c1, z0, z1⟩ := HX.out y8 G8.out
  have hq0 : ∀ wx, (binOp .eql 29 (.agg #[.int .i64 0, .int .i64 0]) (.agg #[.int .i64 0, .int .i64 0])).run Try.prog wx = .ok (.bool true) wx := fun wx => by
    have := run_eqB wx 0 0 0 0
    simpa using this
  have hq1 : ∀ wx, (binOp .eql 29 (.agg #[.int .i64 8, .int .i64 1]) (.agg #[.int .i64 8, .int .i64 1])).run Try.prog wx = .ok (.bool true) wx := fun wx => by
    have := run_eqB wx 8 1 8 1
    simpa using this
  have hled := ledBB y8 _ _ pb _ _ hp8
  have HLED := hide (show Calls Try.prog 13 #[.pointer (some ⟨pb, 0, none⟩)] y8 fun e wz => e = .returned (.bool true) ∧ wz = y8 from hled)
  clear hp8 hf8 c2 c3 hled
  go_wp2_with fail
  refine HLED.out.mono ?_
  rintro e wz3 ⟨rfl, rfl⟩
  obtain ⟨uq, huq⟩ : ∃ q, wz3.heap.size = q := ⟨_, rfl⟩
  obtain ⟨y9, hy9⟩ : ∃ y, wz3.alloc (.cells #[.int .i64 3] 3) = y := ⟨_, rfl⟩
  have hfa : Fr (fun _ => False) wz3 y9 := by rw [← hy9]; exact Fr.alloc _ _ _
  have hr2 : Reads y9 (.slice (some ⟨uq, 0, none⟩) 1 1) [(3 : Int)].length 1 ([(3 : Int)].map (Value.int .i64)) := by
    rw [← hy9, ← huq]; exact Reads.built wz3 [.int .i64 3] 3
  have hr1 := R8.out.fr hfa (fun _ _ _ _ => id)
  have hsm := same_any y9 _ _ _ _ hr1 hr2 (by decide)
  rw [show decide ([(3 : Int)] = [3]) = true from rfl] at hsm
  have HSM := hide (show Calls Try.prog 24 #[.slice a4 1 c4, .slice (some ⟨uq, 0, none⟩) 1 1] y9 _ from hsm)
  have P9 := hide (P8.out.fr0 hfa)
  have G9 := hide (G8.out.trans hfa (fun _ _ h => h.elim))
  have HY9 := hide hy9
  have HUQ := hide huq
  clear hfa hr2 hr1 hsm hy9 huq c0 c1 z0 z1
  go_wp2_with fail
  rw [HY9.out, HUQ.out]
  refine HSM.out.mono ?_
  rintro e y10 ⟨rfl, m10, rfl⟩
  have hfd : Fr (fun _ => False) y9 (y9.drewN m10) := (Fr.refl _ y9).drewN m10
  have hop := openB (y9.drewN m10) _ _ pb _ _ (P9.out.fr0 hfd) (by show ((8 : Int), (1 : Int)) ≠ (0, 0); decide) (by decide) [3] (by simp) (fun x => by
    by_cases hx : x = 3
    · subst hx; simp [pkF, pkAt, st]
    · have hx' : ¬ (3 : Int) = x := fun e => hx e.symm
      simp [pkF, pkAt, st, vm, at_, vNew, hx, hx']) (by simp) (by simp)
  rw [show ([3] : List Int).filter (fun x => !decB (st [0, 1] [vNew] [⟨3, pp, pq, ⟨#[110, 101, 119]⟩, addS (addS (addS [] 0) 0) 2⟩]) x) = [] from rfl] at hop
  have HOP2 := hide hop
  have G10 := hide (G9.out.trans hfd (fun _ _ h => h.elim))
  clear hop hfd
  go_wp2_with fail
  refine HOP2.out.mono ?_
  rintro e y11 ⟨v11, rfl, hr11, hp11, hf11⟩
  obtain ⟨-, a11, c11, rfl, -, -, -⟩ := hr11
  have G11 := hide (G10.out.trans hf11 (fun _ _ h => h.elim))
  clear hp11 hf11
  go_wp2_with fail
  refine (known_any _).mono ?_
  rintro e y12 ⟨rfl, hf12⟩
  go_wp2_with fail
  go_ret
  exact ⟨rfl, ((F7.out.trans G11.out (fun _ _ h => h.1)).trans hf12 (fun _ _ h => h.elim)).toBelow (Nat.le_refl _) (fun j hj h => by omega)⟩
end Go.Proofs.Ytkefffcfiedkeaa.PaxosNumbers
