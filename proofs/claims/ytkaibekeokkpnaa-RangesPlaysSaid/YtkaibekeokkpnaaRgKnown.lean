/- known of ranges: a Map and the document's own held against one another. -/
import Derived.Test.YtkaibekeokkpnaaRgRef2
import Derived.Test.YtkaibekeokkpnaaRgHash
namespace Go.Proofs.Ytkaibekeokkpnaa
open Go.RowKit Go.Maps Go.Cv Go.Shelf
set_option linter.unusedVariables false

set_option maxRecDepth 100000 in
set_option maxHeartbeats 3200000 in
theorem sameMap_any (w : World) (ep : Int) (v : Value) (l : List P3) (hh : Reads w v l.length 3 (rowP l)) (hl : l.length ≤ maxLen) (cs : Array Value) (ep' : Int) (f : Int → Int) (h : RC cs ep' f) :
    Calls Try.prog 22 #[mv ep v, .agg cs] w fun e w' => e = .returned (.bool (decide (ep = ep' ∧ l = pz f 256))) ∧ Fr (fun _ => False) w w' := by
  obtain ⟨-, a, c, rfl, -, -, -⟩ := id hh
  obtain ⟨wa, hwa⟩ : ∃ wa, w.alloc (.cells #[.int .i64 ep, .slice a l.length c] 25) = wa := ⟨_, rfl⟩
  have hfa : Fr (fun _ => False) w wa := by rw [← hwa]; exact Fr.alloc _ _ _
  have hba : wa.heap[w.heap.size]? = some (.cells #[.int .i64 ep, .slice a l.length c] 25 (0, 0)) := by rw [← hwa]; exact block_alloc _ _
  obtain ⟨wb, hwb⟩ : ∃ wb, wa.alloc (.cells cs 58) = wb := ⟨_, rfl⟩
  have hfb : Fr (fun _ => False) wa wb := by rw [← hwb]; exact Fr.alloc _ _ _
  obtain ⟨qb, hqb⟩ : ∃ qb, w.heap.size + 1 = qb := ⟨_, rfl⟩
  have hqa : wa.heap.size = qb := by rw [← hqb, ← hwa]; simp
  have hbb : RB wb qb ep' f := by rw [← hwb, ← hqa]; exact RB.made h _
  obtain ⟨pb, hpb⟩ : ∃ pb, w.heap.size = pb := ⟨_, rfl⟩
  rw [hpb] at hba
  have hab := (hfb.block pb (lt_of_block hba) id).trans hba
  have hf0 := hfa.trans hfb (fun _ _ h => h)
  have hrd := reads_old hh hf0 (fun _ _ => id)
  obtain ⟨n, hn⟩ : ∃ n, l.length = n := ⟨_, rfl⟩
  rw [hn] at hwa hab hrd ⊢
  obtain ⟨d, hd⟩ : ∃ d, decide (ep = ep' ∧ l = pz f 256) = d := ⟨_, rfl⟩
  rw [hd]
  have hcell : ∀ wx, Fr (fun _ => False) wb wx → wx.cell? ⟨pb, 0, none⟩ = some (.int .i64 ep) ∧ wx.cell? ⟨pb, 1, none⟩ = some (.slice a n c) ∧ wx.cell? ⟨qb, 0, none⟩ = some (.int .i64 ep') := fun wx hf => by
    have e1 := (hf.block pb (lt_of_block hab) id).trans hab
    exact ⟨by rw [cell_of_block e1]; rfl, by rw [cell_of_block e1]; rfl, (hbb.fr hf id).ep0⟩
  unfold maxLen at hl
  have hn9 : (n : Int) ≤ 9223372036854775807 := by omega
  have HN := hide hn
  have HD := hide hd
  have HCELL := hide hcell
  have HRD := hide hrd
  have HBB := hide hbb
  have HWA := hide hwa
  have HWB := hide hwb
  have HQB := hide hqb
  have HPB := hide hpb
  have HF0 := hide hf0
  clear hn hd hcell hrd hbb hwa hwb hqb hpb hf0 hfa hfb hba hab hqa hh h hl
  unfold mv at *
  go_enter Try.func22, Try.ntmps22
  go_upto_region 1 with fail
  rw [HWA.out, HQB.out, HPB.out, HWB.out]
  go_wp2_with (refine wpList_load_ref rfl _ rfl qb rfl ep' f HBB.out ?_; intro c1 hc1; have HC1 := hide hc1; clear hc1)
  refine (refParts_any wb c1 ep' f HC1.out).mono ?_
  rintro e w1 ⟨v', rfl, hr1, hf1⟩
  obtain ⟨m, hm⟩ : ∃ m, (pz f 256).length = m := ⟨_, rfl⟩
  have hm9 : (m : Int) ≤ 256 := by have := pz_len f 256; omega
  have hr1' := hr1
  rw [hm] at hr1'
  obtain ⟨-, a', c', rfl, -, -, -⟩ := id hr1'
  obtain ⟨g0, g1, g2⟩ := HCELL.out w1 hf1
  have HM := hide hm
  have HR1 := hide hr1'
  have HF1 := hide hf1
  have HRD1 := hide (reads_old HRD.out hf1 (fun _ _ => id))
  clear hr1 hf1 hr1' hm
  by_cases he : ep = ep'
  · have hne : (ep != ep') = false := by simp [he]
    by_cases hlen : n = m
    · have hne2 : ((n : Int) != (m : Int)) = false := by simp [hlen]
      have HE := hide he
      have HLEN := hide hlen
      clear he hlen
      go_wp2_with fail
      go_loopw [6] (fun i wr => ∃ k : Nat, i = .int .i64 k ∧ k ≤ m ∧ Fr (fun _ => False) w1 wr ∧ l.take k = (pz f 256).take k) (fun i _ => m - (intOf i).toNat)
      case atStart => exact ⟨0, rfl, Nat.zero_le _, Fr.refl _ _, rfl⟩
      case round =>
        obtain ⟨k, rfl, hk, hf, htake⟩ := hrel
        have HF := hide hf
        have HT := hide htake
        clear hf htake
        obtain ⟨z0, z1, z2⟩ := HCELL.out wr (HF1.out.trans HF.out (fun _ _ h => h))
        by_cases hlt : k < m
        · obtain ⟨x, hx⟩ : ∃ x, l[k]? = some x := ⟨_, List.getElem?_eq_getElem (by have := HN.out; have := HLEN.out; omega)⟩
          obtain ⟨y, hy⟩ : ∃ y, (pz f 256)[k]? = some y := ⟨_, List.getElem?_eq_getElem (by have := HM.out; omega)⟩
          obtain ⟨b1, o1, rfl, hl1, hc1⟩ := row_cells pc_len HRD1.out hx (by decide)
          obtain ⟨b2, o2, rfl, hl2, hc2⟩ := row_cells pc_len HR1.out hy (by decide)
          obtain ⟨x1, x2, x3⟩ := x
          obtain ⟨y1, y2, y3⟩ := y
          have e0 := hc1 0 (.int .i64 x1) rfl wr (HF.out.block _ hl1 id)
          have e1 := hc1 1 (.int .i64 x2) rfl wr (HF.out.block _ hl1 id)
          have e2 := hc1 2 (.int .i64 x3) rfl wr (HF.out.block _ hl1 id)
          have f0 := hc2 0 (.int .i64 y1) rfl wr (HF.out.block _ hl2 id)
          have f1 := hc2 1 (.int .i64 y2) rfl wr (HF.out.block _ hl2 id)
          have f2 := hc2 2 (.int .i64 y3) rfl wr (HF.out.block _ hl2 id)
          rw [Nat.add_zero] at e0 f0
          have hi0 : (0 : Int) ≤ (k : Int) := by omega
          have hi1 : (k : Int) < (m : Int) := by omega
          have hi2 : (k : Int) < (n : Int) := by have := HLEN.out; omega
          have HX := hide hx
          have HY := hide hy
          clear hc1 hc2 hx hy
          have hcc : ((x1, x2, x3) : P3) = (y1, y2, y3) ∧ (x1 != y1) = false ∧ (x2 != y2) = false ∧ (x3 != y3) = false ∨ (((x1, x2, x3) : P3) ≠ (y1, y2, y3) ∧ (x1 != y1) = true) ∨ (((x1, x2, x3) : P3) ≠ (y1, y2, y3) ∧ (x1 != y1) = false ∧ (x2 != y2) = true) ∨ (((x1, x2, x3) : P3) ≠ (y1, y2, y3) ∧ (x1 != y1) = false ∧ (x2 != y2) = false ∧ (x3 != y3) = true) := by
            by_cases h1 : x1 = y1 <;> by_cases h2 : x2 = y2 <;> by_cases h3 : x3 = y3 <;> simp [h1, h2, h3]
          rcases hcc with ⟨hxy, h1, h2, h3⟩ | ⟨hxy, h1⟩ | ⟨hxy, h1, h2⟩ | ⟨hxy, h1, h2, h3⟩
          · have HXY := hide hxy
            clear hxy
            go_wp2_with fail
            go_quiet (fail)
            go_wp2_with fail
            go_roundw
            case rel => exact ⟨k + 1, by go_num, by omega, HF.out.drewN _, take_eq_succ HT.out HX.out HY.out HXY.out⟩
            case measure => simp [intOf]; omega
          all_goals
            have hdf : d = false := by
              rw [← HD.out]
              have : l ≠ pz f 256 := fun e => hxy (by have h1 := HX.out; rw [e, HY.out] at h1; exact (Option.some.inj h1).symm)
              simp [this]
            subst hdf
            clear hxy
            go_wp2_with fail
            go_quiet (fail)
            go_wp2_with fail
            go_ret
            exact ⟨rfl, (HF0.out.trans HF1.out (fun _ _ h => h)).trans (HF.out.drewN _) (fun _ _ h => h)⟩
        · have hkm : k = m := by omega
          subst hkm
          have hi1 : ¬ (k : Int) < (k : Int) := by omega
          have hdt : d = true := by
            rw [← HD.out]
            have := HT.out
            rw [List.take_of_length_le (by have := HN.out; have := HLEN.out; omega), List.take_of_length_le (by have := HM.out; omega)] at this
            simp [this, HE.out]
          subst hdt
          go_wp2_with fail
          go_ret
          exact ⟨rfl, (HF0.out.trans HF1.out (fun _ _ h => h)).trans HF.out (fun _ _ h => h)⟩
    · have hne2 : ((n : Int) != (m : Int)) = true := by rw [bne_iff_ne]; omega
      have hdf : d = false := by
        rw [← HD.out]
        have : l ≠ pz f 256 := fun e => hlen (by rw [← HN.out, ← HM.out, e])
        simp [this]
      subst hdf
      clear he hlen
      go_wp2_with fail
      go_ret
      exact ⟨rfl, HF0.out.trans HF1.out (fun _ _ h => h)⟩
  · have hne : (ep != ep') = true := by rw [bne_iff_ne]; exact he
    have hdf : d = false := by rw [← HD.out]; simp [he]
    subst hdf
    clear he
    go_wp2_with fail
    go_ret
    exact ⟨rfl, HF0.out.trans HF1.out (fun _ _ h => h)⟩
end Go.Proofs.Ytkaibekeokkpnaa
