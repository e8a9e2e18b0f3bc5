/- The document's Map as parts. -/
import Derived.Test.YtkaibekeokkpnaaRgRef
namespace Go.Proofs.Ytkaibekeokkpnaa
open Go.RowKit Go.Maps Go.Cv Go.Shelf
set_option linter.unusedVariables false

theorem infoPart2 : (Try.prog.info? 84).map (fun i => (i.zero, i.size, i.bytes)) = some (some (.agg #[.int .i64 0, .int .i64 0, .int .i64 0]), 3, 24) := by kernel_rfl

set_option maxRecDepth 100000 in
set_option maxHeartbeats 3200000 in
theorem refParts_any (w : World) (cs : Array Value) (ep : Int) (f : Int → Int) (h : RC cs ep f) :
    Calls Try.prog 38 #[.agg cs] w fun e w' => ∃ v', e = .returned v' ∧ Reads w' v' (pz f 256).length 3 (rowP (pz f 256)) ∧ Fr (fun _ => False) w w' := by
  obtain ⟨i0, hi0, hz0, hz1, hz2⟩ := info_parts infoPart2
  have R0 := RB.made h w
  have F0 : Fr (fun _ => False) w _ := Fr.alloc (fun _ => False) w (.cells cs 58)
  obtain ⟨wa, hwa⟩ : ∃ wa, w.alloc (.cells cs 58) = wa := ⟨_, rfl⟩
  rw [hwa] at R0 F0
  obtain ⟨pb, hpb⟩ : ∃ pb, w.heap.size = pb := ⟨_, rfl⟩
  rw [hpb] at R0
  have HWA := hide hwa
  have HPB := hide hpb
  have HR0 := hide R0
  have HF0 := hide F0
  clear hwa hpb R0 F0 h
  go_enter Try.func38, Try.ntmps38
  go_upto_region 1 with fail
  rw [HWA.out, HPB.out]
  go_wp2_with fail
  go_loopw [3, 4] (fun v i wr => ∃ (k : Nat), i = .int .i64 k ∧ k ≤ 256 ∧ wr.ownsRow (pb + 1) 84 3 v (pz f k).length (rowP (pz f k)) ∧ Fr (fun _ => False) w wr ∧ RB wr pb ep f)
    (fun _ i _ => 256 - (intOf i).toNat)
  case atStart => exact ⟨0, rfl, Nat.zero_le _, World.ownsRow_nil _ _ _ _, HF0.out, HR0.out⟩
  case round =>
    obtain ⟨k, rfl, hk, hown, hf, hr⟩ := hrel
    obtain ⟨L, hL⟩ : ∃ L, (pz f k).length = L := ⟨_, rfl⟩
    rw [hL] at hown
    obtain ⟨a', c', rfl⟩ := own_shape hown
    have HO := hide hown
    have HF2 := hide hf
    have HR := hide hr
    have HL := hide hL
    clear hown hf hr hL
    by_cases hlt : k < 256
    · have ik1 : (k : Int) < 256 := by omega
      have ik0 : (0 : Int) ≤ (k : Int) := by omega
      obtain ⟨G, hG⟩ : ∃ G, f k = G := ⟨_, rfl⟩
      have hnx : pz f (k + 1) = pzStep (pz f k) k G := by rw [pz, hG]
      have hcG := HR.out.of k hlt
      rw [hG] at hcG
      have HNX := hide hnx
      clear hnx hG
      have key : (pz f k = [] ∧ L = 0) ∨ (∃ (i : List P3) (xl xh xg : Int) (gb : Nat), pz f k = i ++ [(xl, xh, xg)] ∧ L = i.length + 1 ∧ a' = some ⟨gb, 0, none⟩ ∧ pb + 1 ≤ gb ∧ gb < wr.heap.size ∧
          wr.cell? ⟨gb, i.length * 3, none⟩ = some (.int .i64 xl) ∧ wr.cell? ⟨gb, i.length * 3 + 1, none⟩ = some (.int .i64 xh) ∧ wr.cell? ⟨gb, i.length * 3 + 2, none⟩ = some (.int .i64 xg) ∧ wr.frozen? ⟨gb, i.length * 3 + 1, none⟩ = false) := by
        rcases List.eq_nil_or_concat (pz f k) with e | ⟨i, p, e⟩
        · left; exact ⟨e, by rw [← HL.out, e]; rfl⟩
        · right
          rw [List.concat_eq_append] at e
          have hLi : L = i.length + 1 := by rw [← HL.out, e]; simp
          rcases HO.out.2 with ⟨e0, _⟩ | ⟨gb, cap, cur, e0, hb, hg, _, _, _, ht⟩
          · cases e0; omega
          · cases e0
            have hx : (pz f k)[i.length]? = some p := by rw [e]; simp
            have hrow := Reads.of_own HO.out
            obtain ⟨b0, o0, e1, hl1, hcs⟩ := row_cells pc_len hrow hx (by decide)
            cases e1
            obtain ⟨xl, xh, xg⟩ := p
            have q0 := hcs 0 (.int .i64 xl) rfl wr rfl
            have q1 := hcs 1 (.int .i64 xh) rfl wr rfl
            have q2 := hcs 2 (.int .i64 xg) rfl wr rfl
            simp only [Nat.zero_add, Nat.add_zero] at q0 q1 q2
            exact ⟨i, xl, xh, xg, gb, e, hLi, rfl, hb, lt_of_block hg, q0, q1, q2, free_of_block hg⟩
      have hlen := pz_len f k
      rcases key with ⟨hnil, hL0⟩ | ⟨i, xl, xh, xg, gb, hpz, hLi, ha', hgb1, hgb2, q0, q1, q2, q3⟩
      · subst hL0
        have HNIL := hide hnil
        clear hnil
        go_wp2_with fail
        go_quiet (fail)
        have hnew : pz f (k + 1) = pz f k ++ [((k : Int), (k : Int) + 1, G)] := by
          rw [HNX.out, HNIL.out]; rfl
        have HNEW := hide hnew
        have HLL : Hid ((pz f k).length = 0) := HL
        have hfal : ∀ q, Fr (fun _ => False) wr ((wr.drewN q).alloc (.cells #[.int .i64 k, .int .i64 ((k : Int) + 1), .int .i64 G] 84)) := fun q => ((Fr.refl (fun _ => False) wr).drewN q).trans (Fr.alloc (fun _ => False) _ _) (fun _ _ h => h)
        have HFAL := hide hfal
        have HOa := hide (fun q => ownsRow_fr HO.out (hfal q) (fun _ _ => id))
        have HRd : Hid (∀ q, Reads ((wr.drewN q).alloc (.cells #[.int .i64 k, .int .i64 ((k : Int) + 1), .int .i64 G] 84)) (.slice (some ⟨wr.heap.size, 0, none⟩) 1 1) 1 3 (pc ((k : Int), (k : Int) + 1, G))) := hide (fun q => by have := reads_part (wr.drewN q) ((k : Int), (k : Int) + 1, G) 84; exact this)
        have HONE := hide (one_part ((k : Int), (k : Int) + 1, G))
        have hM : 0 + 1 ≤ maxLen := by have := HLL.out; unfold maxLen; omega
        have HM2b : Hid ((0 + 1) * 24 ≤ 140737488355328) := by have := HLL.out; exact hide (by omega)
        have HM3 : Hid (∀ q, pb + 1 ≤ ((wr.drewN q).alloc (.cells #[.int .i64 k, .int .i64 ((k : Int) + 1), .int .i64 G] 84)).heap.size) := hide (fun q => by have h1 := (hfal q).size; have h2 := HR.out.lt; omega)
        clear hnew hfal hlen
        go_wp2_with (at_builtin; refine wpList_append_reads _ rfl _ _ _ rfl (pb + 1) 84 i0 _ 3 24 Try.underlying83 hi0 hz0 hz1 hz2 part_size (by decide) _ (0) (rowP (pz f k)) rfl (HOa.out _) _ 1 (pc ((k : Int), (k : Int) + 1, G)) rfl (HRd.out _) HONE.out hM HM2b.out (HM3.out _) ?_; intro v2 w4 hown2 hgrow hat; obtain ⟨a2, k2, rfl⟩ := own_shape hown2; have HO2 := hide hown2; have HG2 := hide hgrow; clear hown2 hgrow hat)
        go_roundw
        case rel =>
          have hgr := Fr.grown (S := fun k' => (Value.slice a' 0 c').ownBlock = some k') HG2.out (fun k hk => hk)
          have hap : ∀ k', (Value.slice a' 0 c').ownBlock = some k' → pb + 1 ≤ k' := fun k' hk => (HO.out.lt k' hk).1
          have hfin := ((HF2.out.trans (HFAL.out _) (fun _ _ h => h)).mono (S' := fun k => pb + 1 ≤ k) (fun _ _ h => h.elim)).trans hgr (fun k' _ hk => hap k' hk)
          refine ⟨k + 1, by go_num, by omega, ?_, hfin.fresh (fun _ h => by have := HPB.out; omega), (HR.out.fr (HFAL.out _) id).fr hgr (fun e => by have := hap _ e; have := HPB.out; omega)⟩
          rw [HNEW.out, List.length_append, HLL.out, row_part]
          exact HO2.out
        case measure => simp [intOf]; omega
      · subst ha'
        obtain ⟨j, hj⟩ : ∃ j, i.length = j := ⟨_, rfl⟩
        rw [hj] at hLi q0 q1 q2 q3
        subst hLi
        have HPZ := hide hpz
        have HJ := hide hj
        have hj0 : (0 : Int) < (j : Int) + 1 := by omega
        have hj2 : (0 : Int) ≤ (j : Int) := by omega
        have hj3 : (j : Int) < (j : Int) + 1 := by omega
        have hj4 : (j : Int) ≤ 256 := by
          have h9 := congrArg List.length HPZ.out
          have h7 := HJ.out
          simp at h9; omega
        have HGB := hide hgb1
        clear hpz hj
        by_cases hx : xg = G
        · have hxG : (xg == G) = true := by simp [hx]
          have hnew : pz f (k + 1) = i ++ [(xl, (k : Int) + 1, xg)] := by rw [HNX.out, HPZ.out, pzStep_same _ _ _ _ hx, hx]
          have HNEW := hide hnew
          clear hnew hx
          go_wp2_with fail
          go_quiet (fail)
          go_wp2_with fail
          go_roundw
          case rel =>
            have hgb := HGB.out
            refine ⟨k + 1, by go_num, by omega, ?_, ?_, ?_⟩
            · have hjj := HJ.out
              subst hjj
              have h8 := fun q => ownsRow_fr HO.out ((Fr.refl (fun _ => False) wr).drewN q) (fun _ _ => id)
              have h9 := fun q => own_set (h8 q) (i.length * 3 + 1) (.int .i64 ((k : Int) + 1))
              rw [HPZ.out, row_set_hi] at h9
              rw [HNEW.out]
              simpa using h9 _
            · exact ((HF2.out.drewN _).mono (S' := fun k => k = gb) (fun _ _ h => h.elim)).trans (Fr.setCell (S := fun k => k = gb) _ _ _ rfl) (fun _ _ h => h) |>.fresh (fun k' hk' => by have := HPB.out; omega)
            · exact (HR.out.fr ((Fr.refl (fun _ => False) wr).drewN _) id).fr (Fr.setCell (S := fun k => k = gb) _ _ _ rfl) (by omega)
          case measure => simp [intOf]; omega
        · have hxG : (xg == G) = false := by simp [hx]
          have HX := hide hx
          clear hx
          go_wp2_with fail
          go_quiet (fail)
          have hnew : pz f (k + 1) = pz f k ++ [((k : Int), (k : Int) + 1, G)] := by
            rw [HNX.out, HPZ.out, pzStep_new _ _ _ _ HX.out]
          have HNEW := hide hnew
          have HLL : Hid ((pz f k).length = (j + 1)) := HL
          have hfal : ∀ q, Fr (fun _ => False) wr ((wr.drewN q).alloc (.cells #[.int .i64 k, .int .i64 ((k : Int) + 1), .int .i64 G] 84)) := fun q => ((Fr.refl (fun _ => False) wr).drewN q).trans (Fr.alloc (fun _ => False) _ _) (fun _ _ h => h)
          have HFAL := hide hfal
          have HOa := hide (fun q => ownsRow_fr HO.out (hfal q) (fun _ _ => id))
          have HRd : Hid (∀ q, Reads ((wr.drewN q).alloc (.cells #[.int .i64 k, .int .i64 ((k : Int) + 1), .int .i64 G] 84)) (.slice (some ⟨wr.heap.size, 0, none⟩) 1 1) 1 3 (pc ((k : Int), (k : Int) + 1, G))) := hide (fun q => by have := reads_part (wr.drewN q) ((k : Int), (k : Int) + 1, G) 84; exact this)
          have HONE := hide (one_part ((k : Int), (k : Int) + 1, G))
          have hM : (j + 1) + 1 ≤ maxLen := by have := HLL.out; unfold maxLen; omega
          have HM2b : Hid (((j + 1) + 1) * 24 ≤ 140737488355328) := by have := HLL.out; exact hide (by omega)
          have HM3 : Hid (∀ q, pb + 1 ≤ ((wr.drewN q).alloc (.cells #[.int .i64 k, .int .i64 ((k : Int) + 1), .int .i64 G] 84)).heap.size) := hide (fun q => by have h1 := (hfal q).size; have h2 := HR.out.lt; omega)
          clear hnew hfal hlen
          go_wp2_with (at_builtin; refine wpList_append_reads _ rfl _ _ _ rfl (pb + 1) 84 i0 _ 3 24 Try.underlying83 hi0 hz0 hz1 hz2 part_size (by decide) _ ((j + 1)) (rowP (pz f k)) rfl (HOa.out _) _ 1 (pc ((k : Int), (k : Int) + 1, G)) rfl (HRd.out _) HONE.out hM HM2b.out (HM3.out _) ?_; intro v2 w4 hown2 hgrow hat; obtain ⟨a2, k2, rfl⟩ := own_shape hown2; have HO2 := hide hown2; have HG2 := hide hgrow; clear hown2 hgrow hat)
          go_roundw
          case rel =>
            have hgr := Fr.grown (S := fun k' => (Value.slice (some ⟨gb, 0, none⟩) (j + 1) c').ownBlock = some k') HG2.out (fun k hk => hk)
            have hap : ∀ k', (Value.slice (some ⟨gb, 0, none⟩) (j + 1) c').ownBlock = some k' → pb + 1 ≤ k' := fun k' hk => (HO.out.lt k' hk).1
            have hfin := ((HF2.out.trans (HFAL.out _) (fun _ _ h => h)).mono (S' := fun k => pb + 1 ≤ k) (fun _ _ h => h.elim)).trans hgr (fun k' _ hk => hap k' hk)
            refine ⟨k + 1, by go_num, by omega, ?_, hfin.fresh (fun _ h => by have := HPB.out; omega), (HR.out.fr (HFAL.out _) id).fr hgr (fun e => by have := hap _ e; have := HPB.out; omega)⟩
            rw [HNEW.out, List.length_append, HLL.out, row_part]
            exact HO2.out
          case measure => simp [intOf]; omega
    · have hkn : k = 256 := by omega
      subst hkn
      go_wp2_with fail
      go_ret
      exact ⟨_, rfl, by rw [HL.out]; exact Reads.of_own HO.out, HF2.out⟩
end Go.Proofs.Ytkaibekeokkpnaa
