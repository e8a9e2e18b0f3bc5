/- Save of ranges. -/
import Derived.Test.YtkaibekeokkpnaaRgMaps
import Derived.Test.YtkaibekeokkpnaaWire
namespace Go.Proofs.Ytkaibekeokkpnaa
open Go.RowKit Go.Maps Go.Cv Go.Shelf
set_option linter.unusedVariables false

theorem wrote_fr {w w' : World} {b : Nat} {v : Value} {xs ys : List UInt8} (h : Wt w b v xs) (g : Wrote w w' b v ys) : ∃ v', Wt w' b v' ys ∧ Fr (fun j => b ≤ j) w w' := by
  obtain ⟨v', h1, _, h3⟩ := g
  exact ⟨v', h1, h3.mono (fun k _ hk => by
    rcases hk with rfl | hk
    · exact Nat.le_refl _
    · have := (h.own.lt k hk).1; omega)⟩
theorem Wt.fr {w w' : World} {b : Nat} {v : Value} {xs : List UInt8} (h : Wt w b v xs) (g : Fr (fun _ => False) w w') : Wt w' b v xs :=
  ⟨(g.block _ (lt_of_block h.blk) id).trans h.blk, ownsRow_fr h.own g (fun _ _ => id)⟩
theorem wrote_apart {w w' : World} {b : Nat} {v : Value} {xs ys : List UInt8} (h : Wt w b v xs) (g : Wrote w w' b v ys) {x : Nat} (hx : x < w.heap.size) (h1 : x ≠ b) (h2 : v.ownBlock ≠ some x) :
    ∃ v', Wt w' b v' ys ∧ w'.heap[x]? = w.heap[x]? ∧ v'.ownBlock ≠ some x ∧ Fr (fun j => b ≤ j) w w' := by
  obtain ⟨v', g1, g2, g3⟩ := id g
  refine ⟨v', g1, g3.block x hx (fun hk => hk.elim h1 h2), fun e => ?_, ?_⟩
  · rcases g2 with g2 | g2
    · exact h2 (g2 ▸ e)
    · have := g2 x e; omega
  · exact g3.mono (fun k _ hk => by
      rcases hk with rfl | hk
      · exact Nat.le_refl _
      · have := (h.own.lt k hk).1; omega)

/-- A part's bytes. -/
def entryP (x : P3) : List UInt8 := beN (u64 x.1) 4 ++ (beN (u64 x.2.1) 4 ++ beN (u64 x.2.2) 4)
def svk (ep : Int) (n : Nat) (l : List P3) : List UInt8 := beN (u64 ep) 4 ++ beN (u64 n) 4 ++ l.flatMap entryP
def sv (ep : Int) (l : List P3) : List UInt8 := svk ep l.length l
theorem entryP_len (x : P3) : (entryP x).length = 12 := by simp [entryP, beN_length]
theorem svk_len (ep : Int) (n : Nat) (l : List P3) : (svk ep n l).length = 8 + 12 * l.length := by
  unfold svk
  have : (l.flatMap entryP).length = l.length * 12 := by
    induction l with
    | nil => rfl
    | cons a r ih => rw [List.flatMap_cons, List.length_append, ih, entryP_len, List.length_cons]; omega
  simp [beN_length, this]; omega
theorem svk_snoc (ep : Int) (n : Nat) (l : List P3) (x : P3) : svk ep n (l ++ [x]) = svk ep n l ++ entryP x := by simp [svk]
theorem svk_take (ep : Int) (n : Nat) (l : List P3) (k : Nat) (x : P3) (h : l[k]? = some x) : svk ep n (l.take (k + 1)) = svk ep n (l.take k) ++ entryP x := by
  rw [List.take_add_one, h]; exact svk_snoc _ _ _ _

set_option maxRecDepth 100000 in
set_option maxHeartbeats 1600000 in
theorem save_any (w : World) (ep : Int) (a : Option Addr) (n c : Nat) (l : List P3) (h : RD w a n c l) :
    Calls Try.prog 15 #[.agg #[.int .i64 ep, .slice a n c]] w fun e w' => ∃ v', e = .returned v' ∧ w'.ownsRow w.heap.size 5 1 v' (sv ep l).length (bc (sv ep l)) ∧ Fr (fun _ => False) w w' := by
  have hln := h.1
  have hn4 := h.2.2
  have hM := MV.made ep h
  have hf0 : Fr (fun _ => False) w _ := Fr.alloc (fun _ => False) w (.cells #[.int .i64 ep, .slice a n c] 25)
  obtain ⟨wa, hwa⟩ : ∃ wa, w.alloc (.cells #[.int .i64 ep, .slice a n c] 25) = wa := ⟨_, rfl⟩
  obtain ⟨pb, hpb⟩ : ∃ pb, w.heap.size = pb := ⟨_, rfl⟩
  rw [hwa, hpb] at hM
  rw [hwa] at hf0
  unfold sv
  rw [hln]
  have hpl := hM.lt
  obtain ⟨wb, hwb⟩ : ∃ wb, wa.heap.size = wb := ⟨_, rfl⟩
  rw [hwb] at hpl
  have hcl : ∀ wx, Fr (fun j => wb ≤ j) wa wx → wx.cell? ⟨pb, 0, none⟩ = some (.int .i64 ep) ∧ wx.cell? ⟨pb, 1, none⟩ = some (.slice a n c) := fun wx hf => by
    have := (hf.block pb (by omega) (by omega)).trans hM.1
    exact ⟨by rw [cell_of_block this]; rfl, by rw [cell_of_block this]; rfl⟩
  have c0 := hM.c0
  have c1 := hM.c1
  have HCL := hide hcl
  have HR := hide h.2.1
  have HF0 := hide hf0
  have HLN := hide hln
  have HWA := hide hwa
  have HPB := hide hpb
  have HWB := hide hwb
  have hnw := newWriter_any wa
  rw [hwb] at hnw
  have HNW := hide hnw
  have hM4 : ∀ k, (svk ep n (l.take k)).length ≤ 60000 := fun k => by rw [svk_len, List.length_take]; omega
  have HLE := hide hM4
  clear hM hf0 hcl h hln hwa hpb hwb hnw hM4
  go_enter Try.func15, Try.ntmps15
  go_upto_region 1 with fail
  rw [HWA.out, HPB.out]
  go_wp2_with fail
  refine HNW.out.mono ?_
  rintro e w1 ⟨rfl, h1, hf1⟩
  have hG1 : Fr (fun j => wb ≤ j) wa w1 := hf1.mono (fun _ _ h => h.elim)
  obtain ⟨e1, e2⟩ := HCL.out w1 hG1
  have H1 := hide h1
  have G1 := hide hG1
  clear h1 hf1 hG1 c0 c1
  go_wp2_with fail
  refine (four_any w1 wb _ [] H1.out ep (by simp)).mono ?_
  rintro e w2 ⟨rfl, h2⟩
  obtain ⟨v2, h2, hf2⟩ := wrote_fr H1.out h2
  have hG2 := G1.out.trans hf2 (fun _ _ h => h)
  obtain ⟨e3, e4⟩ := HCL.out w2 hG2
  have H2 := hide h2
  have G2 := hide hG2
  clear h2 hf2 hG2 e1 e2
  go_wp2_with fail
  refine (four_any w2 wb v2 _ H2.out n (by simp [beN_length])).mono ?_
  rintro e w3 ⟨rfl, h3⟩
  obtain ⟨v3, h3, hf3⟩ := wrote_fr H2.out h3
  have hG3 := G2.out.trans hf3 (fun _ _ h => h)
  obtain ⟨e1, e2⟩ := HCL.out w3 hG3
  have H3 := hide h3
  have G3 := hide hG3
  clear h3 hf3 hG3 e3 e4
  go_wp2_with fail
  go_loopw [19] (fun i wr => ∃ (k : Nat) (wv : Value), i = .int .i64 k ∧ k ≤ n ∧ Wt wr wb wv (svk ep n (l.take k)) ∧ Fr (fun j => wb ≤ j) wa wr)
    (fun i _ => n - (intOf i).toNat)
  case atStart => exact ⟨0, v3, rfl, Nat.zero_le _, by simpa [svk] using H3.out, G3.out⟩
  case round =>
    obtain ⟨k, wv, rfl, hk, hw, hf⟩ := hrel
    have HW := hide hw
    have HF := hide hf
    clear hw hf
    by_cases hlt : k < n
    · obtain ⟨x, hx⟩ : ∃ x, l[k]? = some x := ⟨_, List.getElem?_eq_getElem (by have := HLN.out; omega)⟩
      obtain ⟨b0, o0, rfl, hlt0, hcells⟩ := row_cells pc_len HR.out hx (by decide)
      obtain ⟨xl, xh, xg⟩ := x
      have hb0 : wr.heap[b0]? = w.heap[b0]? := (HF.out.block _ (by have := HF0.out.size; omega) (by have := HF0.out.size; have := HWB.out; omega)).trans (HF0.out.block _ hlt0 id)
      have f0 := hcells 0 (.int .i64 xl) rfl wr hb0
      rw [Nat.add_zero] at f0
      have f1 := hcells 1 (.int .i64 xh) rfl wr hb0
      have f2 := hcells 2 (.int .i64 xg) rfl wr hb0
      have ik1 : (k : Int) < (n : Int) := by omega
      have hsn := svk_take ep n l k (xl, xh, xg) hx
      have hln := HLE.out (k + 1)
      rw [hsn] at hln
      rw [List.length_append, entryP_len] at hln
      have HSN := hide hsn
      have HLN2 := hide hln
      obtain ⟨xb, hxb⟩ : ∃ xb, wr.heap.size = xb := ⟨_, rfl⟩
      obtain ⟨wc, hwc⟩ : ∃ wc, wr.alloc (.cells #[.int .i64 xl, .int .i64 xh, .int .i64 xg] 41) = wc := ⟨_, rfl⟩
      have hba : wc.heap[xb]? = some (.cells #[.int .i64 xl, .int .i64 xh, .int .i64 xg] 41 (0, 0)) := by rw [← hwc, ← hxb]; exact block_alloc _ _
      have hsa : xb < wc.heap.size := lt_of_block hba
      have hfa : Fr (fun j => wb ≤ j) wr wc := by rw [← hwc]; exact Fr.alloc _ _ _
      have hta : Wt wc wb wv (svk ep n (l.take k)) := by rw [← hwc]; exact HW.out.fr (Fr.alloc _ _ _)
      have hbb : wb < xb := by rw [← hxb]; exact lt_of_block HW.out.blk
      have hva : wv.ownBlock ≠ some xb := fun e => by have := (HW.out.own.lt xb e).2; omega
      have g0 : wc.cell? ⟨xb, 0, none⟩ = some (.int .i64 xl) := by rw [cell_of_block hba]; rfl
      have HFA := hide (HF.out.trans hfa (fun _ _ h => h))
      have HTA := hide hta
      have HBA := hide hba
      have HVA := hide hva
      have HB1 := hide (show xb ≠ wb by omega)
      have HWC := hide hwc
      have HXB := hide hxb
      clear hcells hx hsn hln hba hfa hta hva hwc hxb
      go_upto_region 7 with fail
      rw [HWC.out, HXB.out]
      go_wp2_with fail
      refine (four_any wc wb wv _ HTA.out xl (by have := HLN2.out; omega)).mono ?_
      rintro e y1 ⟨rfl, j1⟩
      obtain ⟨x1, j1, j2, j3, j4⟩ := wrote_apart HTA.out j1 hsa HB1.out HVA.out
      have hy1 := j2.trans HBA.out
      have g1 : y1.cell? ⟨xb, 1, none⟩ = some (.int .i64 xh) := by rw [cell_of_block hy1]; rfl
      have hs1 := lt_of_block hy1
      have J1 := hide j1
      have Y1 := hide hy1
      have V1 := hide j3
      have F1 := hide (HFA.out.trans j4 (fun _ _ h => h))
      clear j1 j2 j3 j4 hy1 g0 hsa
      go_wp2_with fail
      refine (four_any y1 wb x1 _ J1.out xh (by have := HLN2.out; simp [beN_length]; omega)).mono ?_
      rintro e y2 ⟨rfl, j1⟩
      obtain ⟨x2, j1, j2, j3, j4⟩ := wrote_apart J1.out j1 hs1 HB1.out V1.out
      have hy2 := j2.trans Y1.out
      have g2 : y2.cell? ⟨xb, 2, none⟩ = some (.int .i64 xg) := by rw [cell_of_block hy2]; rfl
      have hs2 := lt_of_block hy2
      have J2 := hide j1
      have Y2 := hide hy2
      have V2 := hide j3
      have F2 := hide (F1.out.trans j4 (fun _ _ h => h))
      clear j1 j2 j3 j4 hy2 g1 hs1
      go_wp2_with fail
      refine (four_any y2 wb x2 _ J2.out xg (by have := HLN2.out; simp [beN_length]; omega)).mono ?_
      rintro e y3 ⟨rfl, j1⟩
      obtain ⟨x3, j1, j2, j3, j4⟩ := wrote_apart J2.out j1 hs2 HB1.out V2.out
      have J3 := hide j1
      have F3 := hide (F2.out.trans j4 (fun _ _ h => h))
      clear j1 j2 j3 j4 g2 hs2
      go_wp2_with fail
      go_roundw
      case rel =>
        refine ⟨k + 1, x3, by go_num, by omega, ?_, F3.out⟩
        have := J3.out
        rw [HSN.out]
        simpa [entryP] using this
      case measure => simp [intOf]; omega
    · have ik1 : ¬ (k : Int) < (n : Int) := by omega
      have hkn : l.take k = l := List.take_of_length_le (by have := HLN.out; omega)
      have hw := HW.out
      rw [hkn] at hw
      have HW2 := hide hw
      have hln := HLE.out k
      rw [hkn] at hln
      clear hkn hw
      go_wp2_with fail
      refine (done_any wr wb wv _ HW2.out (by omega)).mono ?_
      rintro e y1 ⟨v', rfl, ho, hf⟩
      have HO := hide ho
      obtain ⟨a9, c9, rfl⟩ := own_shape ho
      have hs := HF.out.size
      have hs0 := HF0.out.size
      clear ho
      go_wp2_with fail
      go_ret
      exact ⟨_, rfl, own_base HO.out (by omega), HF0.out.trans ((HF.out.trans hf (fun _ _ h => h.elim)).fresh (fun _ h => by have := HWB.out; omega)) (fun _ _ h => h)⟩
end Go.Proofs.Ytkaibekeokkpnaa
