/- RangesMoves's walk. -/
import Derived.Test.YtkaibekeokkpnaaRgMaps
namespace Go.Proofs.Ytkaibekeokkpnaa.RangesMoves
open Go.RowKit Go.Maps Go.Cv Go.Shelf
set_option linter.unusedVariables false

theorem newP_r (r : Int) (h0 : 0 ≤ r) (h1 : r ≤ 2) : rightM 1 (newP (1 + r) (1 + r).toNat) = true := by
  obtain ⟨k, hk⟩ : ∃ k : Nat, 1 + r = (k : Int) := ⟨(1 + r).toNat, by omega⟩
  rw [hk, Int.toNat_natCast]; exact newP_right k (by omega)

set_option maxRecDepth 100000 in
set_option maxHeartbeats 6400000 in
theorem walk (w : World) (a0 : Int) (wf0 : (Lit.int .i64 a0).wf = true) (a1 : Int) (wf1 : (Lit.int .i64 a1).wf = true) (a2 : Int) (wf2 : (Lit.int .i64 a2).wf = true) (a3 : Int) (wf3 : (Lit.int .i64 a3).wf = true) (v4 : Value) (cs : List ByteArray) (h4 : Reads w v4 cs.length 1 (cs.flatMap fun s => [.string s])) (g4 : ∀ x ∈ cs, x.size ≤ maxLen) (hl : cs.length ≤ maxLen) :
    Calls Try.prog 3 #[.int .i64 a0, .int .i64 a1, .int .i64 a2, .int .i64 a3, v4] w fun e w' => e = .returned (.bool true) ∧ Below w.heap.size w w' := by
  obtain ⟨n4, hn4⟩ : ∃ n, cs.length = n := ⟨_, rfl⟩
  rw [hn4] at h4 hl
  unfold maxLen at hl
  obtain ⟨-, s4, c4, rfl, -, -, -⟩ := id h4
  have hn9 : (n4 : Int) ≤ 9223372036854775807 := by omega
  have HN := hide hn4
  have H4 := hide h4
  have HG4 := hide g4
  clear hn4 h4 g4 hl wf0 wf1 wf2 wf3
  go_enter Try.func3, Try.ntmps3
  go_wp2_with fail
  refine (within_ex w a0 0 2 (by omega) (by omega) (by omega)).mono ?_
  rintro e w0 ⟨r, rfl, hr1, hr2, rfl⟩
  go_wp2_with fail
  refine (newM w (1 + r) (by omega)).mono ?_
  rintro e w1 ⟨a, m, c, rfl, hd1, hf1⟩
  have hp1 := newP_r r hr1 hr2
  obtain ⟨l, hl⟩ : ∃ l, newP (1 + r) (1 + r).toNat = l := ⟨_, rfl⟩
  rw [hl] at hd1 hp1
  have M1 := MV.made 1 hd1
  have hf2 : Fr (fun _ => False) w1 _ := Fr.alloc (fun _ => False) w1 (.cells #[.int .i64 1, .slice a m c] 25)
  obtain ⟨w2, hw2⟩ : ∃ w2, w1.alloc (.cells #[.int .i64 1, .slice a m c] 25) = w2 := ⟨_, rfl⟩
  obtain ⟨b1, hb1⟩ : ∃ b, w1.heap.size = b := ⟨_, rfl⟩
  rw [hw2, hb1] at M1
  rw [hw2] at hf2
  have HM1 := hide M1
  have HP1 := hide hp1
  have F2 := hide (hf1.trans hf2 (fun _ _ h => h))
  have HW2 := hide hw2
  have HB1 := hide hb1
  clear hl hd1 hp1 M1 hf1 hf2 hw2 hb1
  go_upto_region 2 with fail
  rw [HW2.out, HB1.out]
  go_wp2_with fail
  refine (within_ex w2 a1 0 255 (by omega) (by omega) (by omega)).mono ?_
  rintro e w0 ⟨r2, rfl, hr3, hr4, rfl⟩
  go_wp2_with fail
  refine (within_ex w2 a2 0 (255 - r2) (by omega) (by omega) (by omega)).mono ?_
  rintro e w0 ⟨r3, rfl, hr5, hr6, rfl⟩
  have hc0 := HM1.out.c0
  have hc1 := HM1.out.c1
  go_wp2_with fail
  refine (within_ex w2 a3 0 2 (by omega) (by omega) (by omega)).mono ?_
  rintro e w0 ⟨g, rfl, hr7, hr8, rfl⟩
  go_wp2_with fail
  refine (moveM w2 1 a m c l HM1.out.2 r2 (r2 + 1 + r3) g HP1.out (by decide) hr3 (by omega) (by omega) hr7 (by omega)).mono ?_
  rintro e w3 ⟨a', m', c', rfl, hd3, hf3⟩
  have hp2 : rightM 2 (moveP l r2 (r2 + 1 + r3) g) = true := move_right HP1.out (by decide) _ _ _ (by omega)
  have ho2 := fun x => move_own HP1.out r2 (r2 + 1 + r3) g (by omega) x
  obtain ⟨l2, hl2⟩ : ∃ l2, moveP l r2 (r2 + 1 + r3) g = l2 := ⟨_, rfl⟩
  rw [hl2] at hd3 hp2 ho2
  have M2 := MV.made 2 hd3
  have hf4 : Fr (fun _ => False) w3 _ := Fr.alloc (fun _ => False) w3 (.cells #[.int .i64 2, .slice a' m' c'] 25)
  obtain ⟨w4, hw4⟩ : ∃ w4, w3.alloc (.cells #[.int .i64 2, .slice a' m' c'] 25) = w4 := ⟨_, rfl⟩
  obtain ⟨b2, hb2⟩ : ∃ b, w3.heap.size = b := ⟨_, rfl⟩
  rw [hw4, hb2] at M2
  rw [hw4] at hf4
  have hff4 := hf3.trans hf4 (fun _ _ h => h)
  have M1' := HM1.out.fr0 hff4
  have F4 := hide (F2.out.trans hff4 (fun _ _ h => h))
  have d0 := M1'.c0
  have d1 := M1'.c1
  have e0 := M2.c0
  have e1 := M2.c1
  have HM1' := hide M1'
  have HM2 := hide M2
  have HP2 := hide hp2
  have HO2 := hide ho2
  have HW4 := hide hw4
  have HB2 := hide hb2
  clear hl2 hd3 hp2 ho2 M1' M2 hf3 hf4 hff4 hw4 hb2 hc0 hc1 HM1
  go_upto_region 8 with fail
  rw [HW4.out, HB2.out]
  go_wp2_with fail
  refine (rightC w4 2 a' m' c' l2 HM2.out.2).mono ?_
  rw [HP2.out]
  rintro e w5 ⟨rfl, hf5⟩
  have x0 := (HM2.out.fr0 hf5).c0
  have x1 := (HM2.out.fr0 hf5).c1
  have HF5 := hide hf5
  clear hf5
  go_wp2_with fail
  refine (moveM w5 2 a' m' c' l2 (HM2.out.fr0 HF5.out).2 0 256 1 HP2.out (by decide) (by omega) (by omega) (by omega) (by omega) (by omega)).mono ?_
  rw [move_all HP2.out]
  rintro e w6 ⟨a3', m3, c3, rfl, hd6, hf6⟩
  have hm3 : m3 = 1 := hd6.1.symm
  subst hm3
  have M3 := MV.made 3 hd6
  have hf7 : Fr (fun _ => False) w6 _ := Fr.alloc (fun _ => False) w6 (.cells #[.int .i64 3, .slice a3' 1 c3] 25)
  obtain ⟨w7, hw7⟩ : ∃ w7, w6.alloc (.cells #[.int .i64 3, .slice a3' 1 c3] 25) = w7 := ⟨_, rfl⟩
  obtain ⟨b3, hb3⟩ : ∃ b, w6.heap.size = b := ⟨_, rfl⟩
  rw [hw7, hb3] at M3
  rw [hw7] at hf7
  have hff7 := (HF5.out.trans hf6 (fun _ _ h => h)).trans hf7 (fun _ _ h => h)
  have hall : ∀ wx, Fr (fun _ => False) w7 wx → MV wx b1 1 a m c l ∧ MV wx b2 2 a' m' c' l2 ∧ MV wx b3 3 a3' 1 c3 [(0, 256, 1)] := fun wx hf =>
    ⟨(HM1'.out.fr0 hff7).fr0 hf, (HM2.out.fr0 hff7).fr0 hf, M3.fr0 hf⟩
  have HALL := hide hall
  have F7 := hide (F4.out.trans hff7 (fun _ _ h => h))
  have HW7 := hide hw7
  have HB3 := hide hb3
  clear hd6 M3 hf6 hf7 hff7 hw7 hb3 hall x0 x1 d0 d1 e0 e1
  go_upto_region 11 with fail
  rw [HW7.out, HB3.out]
  go_wp2_with fail
  go_loopw [17] (fun i wr => ∃ k : Nat, i = .int .i64 k ∧ k ≤ n4 ∧ k ≤ 20 ∧ Fr (fun _ => False) w7 wr) (fun i _ => n4 - (intOf i).toNat)
  case atStart => exact ⟨0, rfl, Nat.zero_le _, by omega, Fr.refl _ _⟩
  case round =>
    obtain ⟨k, rfl, hk1, hk2, hf⟩ := hrel
    have HF := hide hf
    clear hf
    obtain ⟨z1, z2, z3⟩ := HALL.out wr HF.out
    have y4 := z3.c0
    have y5 := z3.c1
    have hstop : ∀ (q : Bool), True := fun _ => trivial
    by_cases hlt : k < n4 ∧ k < 20
    · obtain ⟨hlt1, hlt2⟩ := hlt
      have ik1 : (k : Int) < (n4 : Int) := by omega
      have ik2 : (k : Int) < 20 := by omega
      obtain ⟨x, hx⟩ : ∃ x, cs[k]? = some x := ⟨_, List.getElem?_eq_getElem (by have := HN.out; omega)⟩
      have hxs : x.size ≤ maxLen := HG4.out x (List.mem_of_getElem? hx)
      obtain ⟨bs, os, rfl, hls, hcs⟩ := row_cells (toC := fun s : ByteArray => [Value.string s]) (fun _ => rfl) H4.out hx (by decide)
      have hstr : ∀ wx, Fr (fun _ => False) w7 wx → wx.cell? ⟨bs, os + k, none⟩ = some (.string x) := fun wx hf => by
        have := hcs 0 (.string x) rfl wx ((F7.out.trans hf (fun _ _ h => h)).block _ hls id)
        simpa using this
      have hc : ∀ wx, Fr (fun _ => False) w7 wx → wx.cell? ⟨b1, 0, none⟩ = some (.int .i64 1) ∧ wx.cell? ⟨b1, 1, none⟩ = some (.slice a m c) ∧ wx.cell? ⟨b2, 0, none⟩ = some (.int .i64 2) ∧ wx.cell? ⟨b2, 1, none⟩ = some (.slice a' m' c') ∧ wx.cell? ⟨b3, 0, none⟩ = some (.int .i64 3) ∧ wx.cell? ⟨b3, 1, none⟩ = some (.slice a3' 1 c3) ∧ wx.cell? ⟨bs, os + k, none⟩ = some (.string x) := fun wx hf => by
        obtain ⟨m1, m2, m3⟩ := HALL.out wx hf
        exact ⟨m1.c0, m1.c1, m2.c0, m2.c1, m3.c0, m3.c1, hstr wx hf⟩
      obtain ⟨hh0, hh1⟩ := hashF_lt x
      have q1 : ∀ wx, Fr (fun _ => False) w7 wx → Calls Try.prog 12 #[.agg #[.int .i64 1, .slice a m c], .string x] wx fun e w' => e = .returned (.tuple #[.int .i64 (ownF l (hashF x)), .bool true]) ∧ Fr (fun _ => False) wx w' := fun wx hf => ownerM wx 1 a m c l (HALL.out wx hf).1.2 HP1.out x hxs
      have q2 : ∀ wx, Fr (fun _ => False) w7 wx → Calls Try.prog 12 #[.agg #[.int .i64 2, .slice a' m' c'], .string x] wx fun e w' => e = .returned (.tuple #[.int .i64 (moveF l r2 (r2 + 1 + r3) g (hashF x)), .bool true]) ∧ Fr (fun _ => False) wx w' := fun wx hf => by
        have := ownerM wx 2 a' m' c' l2 (HALL.out wx hf).2.1.2 HP2.out x hxs
        rwa [HO2.out _ hh0 hh1] at this
      have q3 : ∀ wx, Fr (fun _ => False) w7 wx → Calls Try.prog 12 #[.agg #[.int .i64 3, .slice a3' 1 c3], .string x] wx fun e w' => e = .returned (.tuple #[.int .i64 1, .bool true]) ∧ Fr (fun _ => False) wx w' := fun wx hf => by
        have := ownerM wx 3 a3' 1 c3 [(0, 256, 1)] (HALL.out wx hf).2.2.2 (by decide) x hxs
        rwa [show ownF [(0, 256, 1)] (hashF x) = 1 by simp [ownF, own?, holds, hh0, hh1]] at this
      have hcase : ((moveF l r2 (r2 + 1 + r3) g (hashF x) != ownF l (hashF x)) = false) ∨ ((moveF l r2 (r2 + 1 + r3) g (hashF x) != ownF l (hashF x)) = true ∧ (moveF l r2 (r2 + 1 + r3) g (hashF x) != g) = false) := by
        by_cases e : moveF l r2 (r2 + 1 + r3) g (hashF x) = ownF l (hashF x)
        · left; simp [e]
        · right
          refine ⟨by simp [e], ?_⟩
          unfold moveF at e ⊢
          split
          · simp
          · rename_i hno; rw [if_neg hno] at e; exact absurd rfl e
      generalize moveF l r2 (r2 + 1 + r3) g (hashF x) = o2 at *
      generalize ownF l (hashF x) = o1 at *
      obtain ⟨t0, t1, t2, t3, t4, t5, t6⟩ := hc wr HF.out
      have HC := hide hc
      have HQ1 := hide q1
      have HQ2 := hide q2
      have HQ3 := hide q3
      clear hc q1 q2 q3 hcs hstr hx z1 z2 z3 y4 y5 hstop hxs hh0 hh1
      go_wp2_with fail
      go_region_held3 (fun w' => w'.cell? ⟨b1, 0, none⟩ = some (.int .i64 1) ∧ w'.cell? ⟨b1, 1, none⟩ = some (.slice a m c) ∧ w'.cell? ⟨bs, os + k, none⟩ = some (.string x)) (go_keep)
        ((go_at_call 12; with_reducible refine (HQ1.out _ (HF.out.drew)).mono ?_; rintro e y1 ⟨rfl, hfy⟩; have hfz := HF.out.drew.trans hfy (fun _ _ h => h); obtain ⟨t0, t1, t2, t3, t4, t5, t6⟩ := HC.out y1 hfz; have T1 := hide hfz; clear hfy hfz))
      all_goals
        go_wp2_with fail
        go_region_held3 (fun w' => w'.cell? ⟨b2, 0, none⟩ = some (.int .i64 2) ∧ w'.cell? ⟨b2, 1, none⟩ = some (.slice a' m' c') ∧ w'.cell? ⟨bs, os + k, none⟩ = some (.string x)) (go_keep)
          ((go_at_call 12; with_reducible refine (HQ2.out _ (T1.out.drew)).mono ?_; rintro e y2 ⟨rfl, hfy⟩; have hfz := T1.out.drew.trans hfy (fun _ _ h => h); obtain ⟨t0, t1, t2, t3, t4, t5, t6⟩ := HC.out y2 hfz; have T2 := hide hfz; clear hfy hfz))
        all_goals
          go_wp2_with fail
          go_region_held3 (fun w' => w'.cell? ⟨b3, 0, none⟩ = some (.int .i64 3) ∧ w'.cell? ⟨b3, 1, none⟩ = some (.slice a3' 1 c3) ∧ w'.cell? ⟨bs, os + k, none⟩ = some (.string x)) (go_keep)
            ((go_at_call 12; with_reducible refine (HQ3.out _ (T2.out.drew)).mono ?_; rintro e y3 ⟨rfl, hfy⟩; have hfz := T2.out.drew.trans hfy (fun _ _ h => h); obtain ⟨t0, t1, t2, t3, t4, t5, t6⟩ := HC.out y3 hfz; have T3 := hide hfz; clear hfy hfz))
          all_goals
            rcases hcase with o3 | ⟨o3, o4⟩
            all_goals
              go_wp2_with fail
              go_roundw
              case rel => exact ⟨k + 1, by go_num, by omega, by omega, T3.out⟩
              case measure => simp [intOf]; omega
    · have hcc : ((k : Int) < (n4 : Int) ∧ ¬ (k : Int) < 20) ∨ ¬ (k : Int) < (n4 : Int) := by omega
      clear hlt hstop
      rcases hcc with ⟨ik1, ik2⟩ | ik1
      all_goals
        go_wp2_with fail
        refine (known_any _).mono ?_
        rintro e y ⟨rfl, hfy⟩
        go_wp2_with fail
        go_ret
        exact ⟨rfl, ((F7.out.trans HF.out (fun _ _ h => h)).trans hfy (fun _ _ h => h)).toBelow (Nat.le_refl _) (fun j _ h => h)⟩
end Go.Proofs.Ytkaibekeokkpnaa.RangesMoves
