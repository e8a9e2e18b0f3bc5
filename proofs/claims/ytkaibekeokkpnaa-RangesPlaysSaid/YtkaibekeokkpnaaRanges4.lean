/- Move of ranges, done. -/
import Derived.Test.YtkaibekeokkpnaaRanges3
namespace Go.Proofs.Ytkaibekeokkpnaa
open Go.RowKit Go.Maps Go.Cv Go.Shelf
set_option linter.unusedVariables false

set_option maxRecDepth 100000 in
set_option maxHeartbeats 3200000 in
theorem move_new (w : World) (ep : Int) (v : Value) (l : List P3) (hh : Reads w v l.length 3 (rowP l)) (hl : l.length ≤ maxLen) (lo hi g : Int) (hr : rightM ep l = true) (hep : ep ≠ 1073741824) (h1 : 0 ≤ lo) (h2 : lo < hi) (h3 : hi ≤ 256) (h4 : 0 ≤ g) (h5 : g < 3) :
    Calls Try.prog 10 #[mv ep v, .int .i64 lo, .int .i64 hi, .int .i64 g] w fun e w' => ∃ v', e = .returned (.tuple #[mv (ep + 1) v', .int .i64 0]) ∧ Reads w' v' (moveP l lo hi g).length 3 (rowP (moveP l lo hi g)) ∧ (∀ k, v'.ownBlock = some k → w.heap.size ≤ k) ∧ Fr (fun _ => False) w w' := by
  obtain ⟨i0, hi0, hz0, hz1, hz2⟩ := info_parts infoPart
  obtain ⟨-, a, c, rfl, -, -, -⟩ := id hh
  obtain ⟨hep1, hep2, -⟩ := right_chk hr
  obtain ⟨wa, hwa⟩ : ∃ wa, w.alloc (.cells #[.int .i64 ep, .slice a l.length c] 25) = wa := ⟨_, rfl⟩
  have hfa : Fr (fun _ => False) w wa := by rw [← hwa]; exact Fr.alloc _ _ _
  have hba : wa.heap[w.heap.size]? = some (.cells #[.int .i64 ep, .slice a l.length c] 25 (0, 0)) := by rw [← hwa]; exact block_alloc _ _
  obtain ⟨wb, hwb⟩ : ∃ wb, wa.alloc (.cells #[.int .i64 0, .slice none 0 0] 25) = wb := ⟨_, rfl⟩
  have hfb : Fr (fun _ => False) wa wb := by rw [← hwb]; exact Fr.alloc _ _ _
  obtain ⟨rb, hrb⟩ : ∃ rb, w.heap.size + 1 = rb := ⟨_, rfl⟩
  have hra : wa.heap.size = rb := by rw [← hrb, ← hwa]; simp
  have hbb : wb.heap[rb]? = some (.cells #[.int .i64 0, .slice none 0 0] 25 (0, 0)) := by rw [← hwb, ← hra]; exact block_alloc _ _
  obtain ⟨pb, hpb⟩ : ∃ pb, w.heap.size = pb := ⟨_, rfl⟩
  rw [hpb] at hba
  have hsa := lt_of_block hba
  have hab := (hfb.block pb hsa id).trans hba
  have hf0 := hfa.trans hfb (fun _ _ h => h)
  have hrd := reads_old hh hf0 (fun _ _ => id)
  have hri := right_any wb ep _ l hrd hl
  rw [hr] at hri
  have hof : ∀ (k : Int) (wx : World), 0 ≤ k → k < 256 → Fr (fun _ => False) wb wx → Calls Try.prog 26 #[mv ep (.slice a l.length c), .int .i64 k] wx fun e w' => e = .returned (.int .i64 (ownF l k)) ∧ Fr (fun _ => False) wx w' := fun k wx k0 k1 hf =>
    of_any wx ep _ l (reads_old hrd hf (fun _ _ => id)) hl k (own_find (right_own hr k k0 k1).1)
  obtain ⟨n, hn⟩ : ∃ n, l.length = n := ⟨_, rfl⟩
  rw [hn] at hri hwa hof hab ⊢
  obtain ⟨f, hf⟩ : ∃ f, moveF l lo hi g = f := ⟨_, rfl⟩
  have hmp : moveP l lo hi g = pz f 256 := by rw [← hf]; rfl
  rw [hmp]
  have HFE := hide hf
  have HOF := hide hof
  have HAB := hide hab
  have HBB := hide hbb
  have HRI := hide hri
  have c0 : wb.cell? ⟨pb, 0, none⟩ = some (.int .i64 ep) := by rw [cell_of_block hab]; rfl
  have c1 : wb.cell? ⟨pb, 1, none⟩ = some (.slice a n c) := by rw [cell_of_block hab]; rfl
  have HWA := hide hwa
  have HWB := hide hwb
  have HRB := hide hrb
  have HPB := hide hpb
  have HF := hide hf0
  have hsb := lt_of_block hbb
  have hprb : pb < rb := by omega
  have g1 : ¬ lo < 0 := by omega
  have g2 : ¬ hi ≤ lo := by omega
  have g3 : ¬ 256 < hi := by omega
  have g4 : ¬ g < 0 := by omega
  have g5 : ¬ 3 ≤ g := by omega
  have g6 : (ep == 1073741824) = false := by rw [beq_eq_false_iff_ne]; exact hep
  clear hri hwa hwb hrb hpb hf0 hfa hfb hba hbb hab hsa hra hh hn hrd hof hf hmp hr hep h1 h2 h3 h4 h5 hl
  unfold mv at *
  go_enter Try.func10, Try.ntmps10
  go_upto_region 1 with fail
  rw [HWA.out, HRB.out, HPB.out, HWB.out]
  go_wp2_with fail
  refine HRI.out.mono ?_
  rintro e w1 ⟨rfl, hf1⟩
  have hab1 := (hf1.block pb (lt_of_block HAB.out) id).trans HAB.out
  have hbb1 := (hf1.block rb (lt_of_block HBB.out) id).trans HBB.out
  have d0 : w1.cell? ⟨pb, 0, none⟩ = some (.int .i64 ep) := by rw [cell_of_block hab1]; rfl
  have d1 : w1.cell? ⟨pb, 1, none⟩ = some (.slice a n c) := by rw [cell_of_block hab1]; rfl
  obtain ⟨wm, hwm⟩ : ∃ wm, w1.alloc (.cells #[.int .i64 (ep + 1), .slice none 0 0] 25) = wm := ⟨_, rfl⟩
  obtain ⟨mb, hmb⟩ : ∃ mb, w1.heap.size = mb := ⟨_, rfl⟩
  have hfm : Fr (fun _ => False) w1 wm := by rw [← hwm]; exact Fr.alloc _ _ _
  have hM : Mb wm mb (ep + 1) (.slice none 0 0) (pz f 0) := ⟨by rw [← hwm, ← hmb]; exact block_alloc _ _, World.ownsRow_nil _ _ _ _⟩
  have habm := (hfm.block pb (lt_of_block hab1) id).trans hab1
  have hbbm := (hfm.block rb (lt_of_block hbb1) id).trans hbb1
  have hpm : rb < mb := by rw [← hmb]; exact lt_of_block hbb1
  have HM := hide hM
  have HABM := hide habm
  have HBBM := hide hbbm
  have HF1 := hide (hf1.trans hfm (fun _ _ h => h))
  have HWM := hide hwm
  have HMB := hide hmb
  have HBW := hide (show wb.heap.size ≤ mb by rw [← hmb]; exact hf1.size)
  clear hab1 hbb1 hfm hM habm hbbm hf1 hwm hmb
  go_upto_region 6 with fail
  rw [HWM.out, HMB.out]
  go_wp2_with fail
  go_loopw [49] (fun i wr => ∃ (k : Nat) (v' : Value), i = .int .i64 k ∧ k ≤ 256 ∧ Mb wr mb (ep + 1) v' (pz f k) ∧ wr.heap[rb]? = some (.cells #[.int .i64 0, .slice none 0 0] 25 (0, 0)) ∧ wr.heap[pb]? = some (.cells #[.int .i64 ep, .slice a n c] 25 (0, 0)) ∧ Fr (fun _ => False) wb wr)
    (fun i _ => 256 - (intOf i).toNat)
  case atStart => exact ⟨0, _, rfl, Nat.zero_le _, HM.out, HBBM.out, HABM.out, HF1.out⟩
  case round =>
    obtain ⟨k, v', rfl, hk, hm, hrr, hrp, hf⟩ := hrel
    have HMk := hide hm
    have HRk := hide hrr
    have HPk := hide hrp
    have HFk := hide hf
    clear hm hrr hrp hf
    by_cases hlt : k < 256
    · have ik1 : (k : Int) < 256 := by omega
      have p0 : wr.cell? ⟨pb, 0, none⟩ = some (.int .i64 ep) := by rw [cell_of_block HPk.out]; rfl
      have p1 : wr.cell? ⟨pb, 1, none⟩ = some (.slice a n c) := by rw [cell_of_block HPk.out]; rfl
      have HCL := hide (HOF.out k wr (by omega) ik1 HFk.out)
      go_wp2_with fail
      refine HCL.out.mono ?_
      rintro e w2 ⟨rfl, hf2⟩
      have hm2 := HMk.out.fr0 hf2
      have hr2 := (hf2.block rb (lt_of_block HRk.out) id).trans HRk.out
      have hp2 := (hf2.block pb (lt_of_block HPk.out) id).trans HPk.out
      have hff2 := HFk.out.trans hf2 (fun _ _ h => h)
      clear HMk HRk HPk HFk hf2 p0 p1
      obtain ⟨L, hL⟩ : ∃ L, (pz f k).length = L := ⟨_, rfl⟩
      have hown := hm2.own
      rw [hL] at hown
      obtain ⟨a', c', rfl⟩ := own_shape hown
      have m1 : w2.cell? ⟨mb, 1, none⟩ = some (.slice a' L c') := by rw [cell_of_block hm2.blk]; rfl
      have m2 : w2.frozen? ⟨mb, 1, none⟩ = false := free_of_block hm2.blk
      have hsm := lt_of_block hm2.blk
      have HM2 := hide hm2
      have HR2 := hide hr2
      have HP2 := hide hp2
      have HF2 := hide hff2
      have HL := hide hL
      have HO := hide hown
      clear hm2 hr2 hp2 hff2 hL hown
      have hG : (k : Int) < lo ∧ f k = ownF l k ∨ (¬ (k : Int) < lo ∧ (k : Int) < hi ∧ f k = g) ∨ (¬ (k : Int) < lo ∧ ¬ (k : Int) < hi ∧ f k = ownF l k) := by
        rw [← HFE.out]; unfold moveF
        by_cases b1 : (k : Int) < lo
        · left; exact ⟨b1, by rw [if_neg (by omega)]⟩
        · by_cases b2 : (k : Int) < hi
          · right; left; exact ⟨b1, b2, by rw [if_pos (by omega)]⟩
          · right; right; exact ⟨b1, b2, by rw [if_neg (by omega)]⟩
      obtain ⟨G, hGf⟩ : ∃ G, f k = G := ⟨_, rfl⟩
      rw [hGf] at hG
      have hnx : pz f (k + 1) = pzStep (pz f k) k G := by rw [pz, hGf]
      have HNX := hide hnx
      clear hnx hGf
      obtain ⟨G', hG'⟩ : ∃ G', ownF l k = G' := ⟨_, rfl⟩
      rw [hG'] at hG ⊢
      clear hG'
      have key : (pz f k = [] ∧ L = 0) ∨ (∃ (i : List P3) (xl xh xg : Int) (gb : Nat), pz f k = i ++ [(xl, xh, xg)] ∧ L = i.length + 1 ∧ a' = some ⟨gb, 0, none⟩ ∧ mb < gb ∧ gb < w2.heap.size ∧
          w2.cell? ⟨gb, i.length * 3, none⟩ = some (.int .i64 xl) ∧ w2.cell? ⟨gb, i.length * 3 + 1, none⟩ = some (.int .i64 xh) ∧ w2.cell? ⟨gb, i.length * 3 + 2, none⟩ = some (.int .i64 xg) ∧ w2.frozen? ⟨gb, i.length * 3 + 1, none⟩ = false) := by
        rcases List.eq_nil_or_concat (pz f k) with e | ⟨i, p, e⟩
        · left; exact ⟨e, by rw [← HL.out, e]; rfl⟩
        · right
          rw [List.concat_eq_append] at e
          have hLi : L = i.length + 1 := by rw [← HL.out, e]; simp
          rcases HO.out.2 with ⟨e0, _⟩ | ⟨gb, cap, cur, e0, hb, hg, _, _, _, ht⟩
          · cases e0; omega
          · cases e0
            have hx : (pz f k)[i.length]? = some p := by rw [e]; simp
            have hrow := Reads.of_own HM2.out.own
            rw [HL.out] at hrow
            obtain ⟨b0, o0, e1, hl1, hcs⟩ := row_cells pc_len (by have := hrow; rw [← HL.out] at this; rw [HL.out] at this; exact this) hx (by decide)
            cases e1
            obtain ⟨xl, xh, xg⟩ := p
            have q0 := hcs 0 (.int .i64 xl) rfl w2 rfl
            have q1 := hcs 1 (.int .i64 xh) rfl w2 rfl
            have q2 := hcs 2 (.int .i64 xg) rfl w2 rfl
            simp only [Nat.zero_add, Nat.add_zero] at q0 q1 q2
            exact ⟨i, xl, xh, xg, gb, e, hLi, rfl, by omega, lt_of_block hg, q0, q1, q2, free_of_block hg⟩
      have HFK : Hid (Fr (fun _ => False) wb w2) := HF2
      rcases hG with ⟨b1, bG⟩ | ⟨b1, b2, bG⟩ | ⟨b1, b2, bG⟩
      all_goals
        subst bG
        go_upto_region 12 with fail
        rcases key with ⟨hnil, hL0⟩ | ⟨i, xl, xh, xg, gb, hpz, hLi, ha', hgb1, hgb2, q0, q1, q2, q3⟩
        · subst hL0
          have HNIL := hide hnil
          clear hnil
          have hnew : pz f (k + 1) = pz f k ++ [((k : Int), (k : Int) + 1, G)] := by
            rw [HNX.out, HNIL.out]; rfl
          have HNEW := hide hnew
          have HLL : Hid ((pz f k).length = 0) := HL
          have HOa := hide (HO.out.alloc (.cells #[.int .i64 k, .int .i64 ((k : Int) + 1), .int .i64 G] 41))
          have HRd := hide (reads_part w2 ((k : Int), (k : Int) + 1, G) 41)
          have HONE := hide (one_part ((k : Int), (k : Int) + 1, G))
          have hlen := pz_len f k
          have hM : 0 + 1 ≤ maxLen := by have := HLL.out; unfold maxLen; omega
          have HM2b : Hid ((0 + 1) * 24 ≤ 140737488355328) := by have := HLL.out; exact hide (by omega)
          have HM3 : Hid (mb + 1 ≤ (w2.alloc (.cells #[.int .i64 k, .int .i64 ((k : Int) + 1), .int .i64 G] 41)).heap.size) := hide (by simp; omega)
          have hblk : ∀ w4 : World, (w2.alloc (.cells #[.int .i64 k, .int .i64 ((k : Int) + 1), .int .i64 G] 41)).grownBy w4 (Value.slice a' 0 c').ownBlock → w4.heap[mb]? = some (.cells #[.int .i64 (ep + 1), Value.slice a' 0 c'] 25 (0, 0)) ∧ w4.heap[rb]? = some (.cells #[.int .i64 0, .slice none 0 0] 25 (0, 0)) ∧ w4.heap[pb]? = some (.cells #[.int .i64 ep, .slice a n c] 25 (0, 0)) := fun w4 hg =>
            ⟨(hg.block mb (by simp; omega) (fun e => by have := (HO.out.lt mb e.symm).1; omega)).trans ((Below.heap_alloc _ _ _ hsm).trans HM2.out.blk),
             (hg.block rb (by simp; omega) (fun e => by have := (HO.out.lt rb e.symm).1; omega)).trans ((Below.heap_alloc _ _ _ (by omega)).trans HR2.out),
             (hg.block pb (by simp; omega) (fun e => by have := (HO.out.lt pb e.symm).1; omega)).trans ((Below.heap_alloc _ _ _ (by omega)).trans HP2.out)⟩
          have HBLK := hide hblk
          clear hnew hblk hlen
          go_wp2_with (at_builtin; refine wpList_append_reads _ rfl _ _ _ rfl (mb + 1) 41 i0 _ 3 24 Try.underlying23 hi0 hz0 hz1 hz2 part_size (by decide) _ (0) (rowP (pz f k)) rfl HOa.out _ 1 (pc ((k : Int), (k : Int) + 1, G)) rfl HRd.out HONE.out hM HM2b.out HM3.out ?_; intro v2 w4 hown2 hgrow hat; obtain ⟨a2, k2, rfl⟩ := own_shape hown2; have hc4 := cell_of_block (j := 1) (HBLK.out _ hgrow).1; have hf4 := free_of_block (j := 1) (HBLK.out _ hgrow).1; have HO2 := hide hown2; have HG2 := hide hgrow; clear hown2 hgrow hat)
          go_roundw
          case rel =>
            obtain ⟨z1, z2, z3⟩ := HBLK.out _ HG2.out
            have hal : Fr (fun _ => False) wb (w2.alloc (.cells #[.int .i64 k, .int .i64 ((k : Int) + 1), .int .i64 G] 41)) := HF2.out.trans (Fr.alloc (fun _ => False) _ _) (fun _ _ h => h)
            have hgr : Fr (fun k' => (Value.slice a' 0 c').ownBlock = some k') (w2.alloc (.cells #[.int .i64 k, .int .i64 ((k : Int) + 1), .int .i64 G] 41)) w4 := Fr.grown HG2.out (fun k hk => hk)
            have hst : Fr (fun k => k = mb) w4 (w4.setCell ⟨mb, 1, none⟩ (.slice a2 (0 + 1) k2)) := Fr.setCell _ _ _ rfl
            have hap : ∀ k', (Value.slice a' 0 c').ownBlock = some k' → mb + 1 ≤ k' := fun k' hk => (HO.out.lt k' hk).1
            have hrw := lt_of_block z2
            have hpw := lt_of_block z3
            refine ⟨k + 1, .slice a2 (0 + 1) k2, by go_num, by omega, ⟨block_setCell z1 _, ?_⟩, ?_, ?_, ?_⟩
            · rw [HNEW.out, List.length_append, HLL.out, row_part]
              exact ownsRow_setCell_below HO2.out (by simp) _
            · rw [hst.block rb hrw (by omega)]; exact z2
            · rw [hst.block pb hpw (by omega)]; exact z3
            · refine (((hal.mono (S' := fun k => mb ≤ k) (fun _ _ h => h.elim)).trans hgr (fun k' _ hk => by have := hap k' hk; omega)).trans hst (fun k' _ hk => by omega)).fresh ?_
              intro k' hk'; have := HBW.out; omega
          case measure => simp [intOf]; omega
        · subst ha'
          obtain ⟨j, hj⟩ : ∃ j, i.length = j := ⟨_, rfl⟩
          rw [hj] at hLi q0 q1 q2 q3
          subst hLi
          have HPZ := hide hpz
          have HJ := hide hj
          have hj0 : (0 : Int) < (j : Int) + 1 := by omega
          have hj2 : (0 : Int) ≤ (j : Int) := by omega
          have hj3 : (j : Int) < (j : Int) + 1 := by omega
          have hj4 : (j : Int) ≤ 256 := by
            have h8 := pz_len f k
            have h9 := congrArg List.length HPZ.out
            have h7 := HJ.out
            simp at h9; omega
          have HGB := hide hgb1
          clear hpz hj
          by_cases hx : xg = G
          · have hxG : (xg == G) = true := by simp [hx]
            have hnew : pz f (k + 1) = i ++ [(xl, (k : Int) + 1, xg)] := by rw [HNX.out, HPZ.out, pzStep_same _ _ _ _ hx, hx]
            have HNEW := hide hnew
            clear hnew hx
            go_wp2_with fail
            go_roundw
            case rel =>
              have hst : Fr (fun k => k = gb) w2 (w2.setCell ⟨gb, j * 3 + 1, none⟩ (.int .i64 ((k : Int) + 1))) := Fr.setCell _ _ _ rfl
              have hgb := HGB.out
              refine ⟨k + 1, .slice (some ⟨gb, 0, none⟩) (j + 1) c', by go_num, by omega, ⟨?_, ?_⟩, ?_, ?_, ?_⟩
              · rw [hst.block mb hsm (by omega)]; exact HM2.out.blk
              · have h9 := own_set HO.out (j * 3 + 1) (.int .i64 ((k : Int) + 1))
                have hjj := HJ.out
                subst hjj
                rw [HPZ.out, row_set_hi] at h9
                rw [HNEW.out]
                simpa using h9
              · rw [hst.block rb (by omega) (by omega)]; exact HR2.out
              · rw [hst.block pb (by omega) (by omega)]; exact HP2.out
              · refine ((HF2.out.mono (S' := fun k => k = gb) (fun _ _ h => h.elim)).trans hst (fun _ _ h => h)).fresh ?_
                intro k' hk'; have := HBW.out; omega
            case measure => simp [intOf]; omega
          · have hxG : (xg == G) = false := by simp [hx]
            have HX := hide hx
            clear hx
            have hnew : pz f (k + 1) = pz f k ++ [((k : Int), (k : Int) + 1, G)] := by
              rw [HNX.out, HPZ.out, pzStep_new _ _ _ _ HX.out]
            have HNEW := hide hnew
            have HLL : Hid ((pz f k).length = (j + 1)) := HL
            have HOa := hide (HO.out.alloc (.cells #[.int .i64 k, .int .i64 ((k : Int) + 1), .int .i64 G] 41))
            have HRd := hide (reads_part w2 ((k : Int), (k : Int) + 1, G) 41)
            have HONE := hide (one_part ((k : Int), (k : Int) + 1, G))
            have hlen := pz_len f k
            have hM : (j + 1) + 1 ≤ maxLen := by have := HLL.out; unfold maxLen; omega
            have HM2b : Hid (((j + 1) + 1) * 24 ≤ 140737488355328) := by have := HLL.out; exact hide (by omega)
            have HM3 : Hid (mb + 1 ≤ (w2.alloc (.cells #[.int .i64 k, .int .i64 ((k : Int) + 1), .int .i64 G] 41)).heap.size) := hide (by simp; omega)
            have hblk : ∀ w4 : World, (w2.alloc (.cells #[.int .i64 k, .int .i64 ((k : Int) + 1), .int .i64 G] 41)).grownBy w4 (Value.slice (some ⟨gb, 0, none⟩) (j + 1) c').ownBlock → w4.heap[mb]? = some (.cells #[.int .i64 (ep + 1), Value.slice (some ⟨gb, 0, none⟩) (j + 1) c'] 25 (0, 0)) ∧ w4.heap[rb]? = some (.cells #[.int .i64 0, .slice none 0 0] 25 (0, 0)) ∧ w4.heap[pb]? = some (.cells #[.int .i64 ep, .slice a n c] 25 (0, 0)) := fun w4 hg =>
              ⟨(hg.block mb (by simp; omega) (fun e => by have := (HO.out.lt mb e.symm).1; omega)).trans ((Below.heap_alloc _ _ _ hsm).trans HM2.out.blk),
               (hg.block rb (by simp; omega) (fun e => by have := (HO.out.lt rb e.symm).1; omega)).trans ((Below.heap_alloc _ _ _ (by omega)).trans HR2.out),
               (hg.block pb (by simp; omega) (fun e => by have := (HO.out.lt pb e.symm).1; omega)).trans ((Below.heap_alloc _ _ _ (by omega)).trans HP2.out)⟩
            have HBLK := hide hblk
            clear hnew hblk hlen
            go_wp2_with (at_builtin; refine wpList_append_reads _ rfl _ _ _ rfl (mb + 1) 41 i0 _ 3 24 Try.underlying23 hi0 hz0 hz1 hz2 part_size (by decide) _ ((j + 1)) (rowP (pz f k)) rfl HOa.out _ 1 (pc ((k : Int), (k : Int) + 1, G)) rfl HRd.out HONE.out hM HM2b.out HM3.out ?_; intro v2 w4 hown2 hgrow hat; obtain ⟨a2, k2, rfl⟩ := own_shape hown2; have hc4 := cell_of_block (j := 1) (HBLK.out _ hgrow).1; have hf4 := free_of_block (j := 1) (HBLK.out _ hgrow).1; have HO2 := hide hown2; have HG2 := hide hgrow; clear hown2 hgrow hat)
            go_roundw
            case rel =>
              obtain ⟨z1, z2, z3⟩ := HBLK.out _ HG2.out
              have hal : Fr (fun _ => False) wb (w2.alloc (.cells #[.int .i64 k, .int .i64 ((k : Int) + 1), .int .i64 G] 41)) := HF2.out.trans (Fr.alloc (fun _ => False) _ _) (fun _ _ h => h)
              have hgr : Fr (fun k' => (Value.slice (some ⟨gb, 0, none⟩) (j + 1) c').ownBlock = some k') (w2.alloc (.cells #[.int .i64 k, .int .i64 ((k : Int) + 1), .int .i64 G] 41)) w4 := Fr.grown HG2.out (fun k hk => hk)
              have hst : Fr (fun k => k = mb) w4 (w4.setCell ⟨mb, 1, none⟩ (.slice a2 ((j + 1) + 1) k2)) := Fr.setCell _ _ _ rfl
              have hap : ∀ k', (Value.slice (some ⟨gb, 0, none⟩) (j + 1) c').ownBlock = some k' → mb + 1 ≤ k' := fun k' hk => (HO.out.lt k' hk).1
              have hrw := lt_of_block z2
              have hpw := lt_of_block z3
              refine ⟨k + 1, .slice a2 ((j + 1) + 1) k2, by go_num, by omega, ⟨block_setCell z1 _, ?_⟩, ?_, ?_, ?_⟩
              · rw [HNEW.out, List.length_append, HLL.out, row_part]
                exact ownsRow_setCell_below HO2.out (by simp) _
              · rw [hst.block rb hrw (by omega)]; exact z2
              · rw [hst.block pb hpw (by omega)]; exact z3
              · refine (((hal.mono (S' := fun k => mb ≤ k) (fun _ _ h => h.elim)).trans hgr (fun k' _ hk => by have := hap k' hk; omega)).trans hst (fun k' _ hk => by omega)).fresh ?_
                intro k' hk'; have := HBW.out; omega
            case measure => simp [intOf]; omega
    · have hkn : k = 256 := by omega
      subst hkn
      have hsr := lt_of_block HRk.out
      have hMb := HMk.out.blk
      obtain ⟨L, hL⟩ : ∃ L, (pz f 256).length = L := ⟨_, rfl⟩
      have hown := HMk.out.own
      rw [hL] at hown
      obtain ⟨a', c', rfl⟩ := own_shape hown
      have x0 : wr.cell? ⟨mb, 0, none⟩ = some (.int .i64 (ep + 1)) := by rw [cell_of_block hMb]; rfl
      have x1 : wr.cell? ⟨mb, 1, none⟩ = some (.slice a' L c') := by rw [cell_of_block hMb]; rfl
      have y0 : wr.cell? ⟨rb, 0, none⟩ = some (.int .i64 0) := by rw [cell_of_block HRk.out]; rfl
      have y1 : wr.cell? ⟨rb, 1, none⟩ = some (.slice none 0 0) := by rw [cell_of_block HRk.out]; rfl
      have y2 : wr.frozen? ⟨rb, 0, none⟩ = false := free_of_block HRk.out
      have y3 : wr.frozen? ⟨rb, 1, none⟩ = false := free_of_block HRk.out
      have HL := hide hL
      have HO := hide hown
      clear hL hown hMb
      go_wp2_with fail
      have hst : Fr (fun j => j = rb) wr ((wr.setCell ⟨rb, 0, none⟩ (.int .i64 (ep + 1))).setCell ⟨rb, 1, none⟩ (.slice a' L c')) := (Fr.setCell (S := fun j => j = rb) wr ⟨rb, 0, none⟩ _ rfl).trans (Fr.setCell (S := fun j => j = rb) _ _ _ rfl) (fun _ _ h => h)
      refine bodyPost_ret (v := .tuple #[.agg #[.int .i64 (ep + 1), .slice a' L c'], .int .i64 0]) (by simp [results, Try.results10, go_sem, y0, y1]) rfl ⟨_, rfl, ?_, ?_, ?_⟩
      · refine (Reads.of_own HMk.out.own).fr hst (fun a'' n' c'' e => ?_)
        have := (HMk.out.own.lt a''.block (by rw [e]; rfl)).1
        show ¬ a''.block = rb
        omega
      · intro k' hk'
        have := (HMk.out.own.lt k' hk').1
        have := HRB.out
        have := HPB.out
        omega
      · exact ((HF.out.trans HFk.out (fun _ _ h => h)).mono (S' := fun j => j = rb) (fun _ _ h => h.elim)).trans hst (fun _ _ h => h) |>.fresh (fun j hj => by have := HRB.out; have := HPB.out; omega)
theorem move_any (w : World) (ep : Int) (v : Value) (l : List P3) (hh : Reads w v l.length 3 (rowP l)) (hl : l.length ≤ maxLen) (lo hi g : Int) (hr : rightM ep l = true) (hep : ep ≠ 1073741824) (h1 : 0 ≤ lo) (h2 : lo < hi) (h3 : hi ≤ 256) (h4 : 0 ≤ g) (h5 : g < 3) :
    Calls Try.prog 10 #[mv ep v, .int .i64 lo, .int .i64 hi, .int .i64 g] w fun e w' => ∃ v', e = .returned (.tuple #[mv (ep + 1) v', .int .i64 0]) ∧ Reads w' v' (moveP l lo hi g).length 3 (rowP (moveP l lo hi g)) ∧ Fr (fun _ => False) w w' := by
  refine (move_new w ep v l hh hl lo hi g hr hep h1 h2 h3 h4 h5).mono ?_
  rintro e w' ⟨v', q1, q2, -, q3⟩
  exact ⟨v', q1, q2, q3⟩
end Go.Proofs.Ytkaibekeokkpnaa
