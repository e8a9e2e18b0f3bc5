/- The document's Right; out of the laws of ranges. -/
import Derived.Test.YtkaibekeokkpnaaRgRef4
import Derived.Test.YtkaibekeokkpnaaRgRef2
import Derived.Test.YtkaibekeokkpnaaRgCanon
import Derived.Test.YtkaibekeokkpnaaRefStep
namespace Go.Proofs.Ytkaibekeokkpnaa
open Go.RowKit Go.Maps Go.Cv Go.Shelf
set_option linter.unusedVariables false

theorem chk_take1 {l : List P3} {k : Nat} {p : P3} (hp : l[k]? = some p) {s : Int × Int} (h : chk (l.take k) (0, -1) = some s) : chk (l.take (k + 1)) (0, -1) = if bad s p then none else some (p.2.1, p.2.2) := by
  rw [List.take_add_one, hp, chk_append, h]
  show chk [p] s = _
  rw [chk]; rfl
theorem right_bad {ep : Int} {l : List P3} {k : Nat} (h : chk (l.take k) (0, -1) = none) : rightM ep l = false := by
  cases hr : rightM ep l with
  | false => rfl
  | true =>
    obtain ⟨_, _, g, hc⟩ := right_chk hr
    rw [← List.take_append_drop k l, chk_append, h] at hc; cases hc
theorem own_take {l : List P3} {k : Nat} {s e : Int × Int} (h : chk (l.take k) (0, -1) = some s) (hl : chk l (0, -1) = some e) {x : Int} (h0 : 0 ≤ x) (h1 : x < s.1) : own? l x = own? (l.take k) x := by
  obtain ⟨g, hg, _⟩ := chk_own _ _ _ h x h0 h1
  conv => lhs; rw [← List.take_append_drop k l]
  rw [own_append, hg]; rfl
theorem last_take {l : List P3} {k : Nat} {s : Int × Int} (h : chk (l.take (k + 1)) (0, -1) = some s) {p : P3} (hp : l[k]? = some p) : s.2 = p.2.2 := by
  rw [List.take_add_one, hp] at h
  obtain ⟨m, _, _, e⟩ := chk_snoc (l := l.take k) (p := p) h
  rw [e]

/-- What the document's Right answers. -/
def RefR (ep : Int) (l : List P3) (e : Ending) : Prop := ∃ cs ep' f, e = .returned (.tuple #[.agg cs, .bool (rightM ep l)]) ∧ RC cs ep' f ∧ (rightM ep l = true → ep' = ep ∧ ∀ x, 0 ≤ x → x < 256 → f x = ownF l x)

set_option maxRecDepth 100000 in
set_option maxHeartbeats 6400000 in
theorem refRight_any (w : World) (ep : Int) (a1 : Option Addr) (n c1 : Nat) (l : List P3) (h : Reads w (.slice a1 n c1) n 3 (rowP l)) (hl : l.length = n) (hn : n ≤ 9223372036854775000) :
    Calls Try.prog 37 #[.int .i64 ep, .slice a1 n c1] w fun e w' => RefR ep l e ∧ Fr (fun _ => False) w w' := by
  have hn9 : (n : Int) ≤ 9223372036854775000 := by omega
  have H := hide h
  have HL := hide hl
  clear h hl hn
  go_enter Try.func37, Try.ntmps37
  go_upto_region 1 with (refine wpList_alloc_ref rfl rfl ?_; intro c0 hc0; have R0 := RB.made hc0 w; have F0 : Fr (fun _ => False) w _ := Fr.alloc (fun _ => False) w (.cells c0 58); generalize w.alloc (.cells c0 58) = wa at *)
  go_upto_region 2 with (first
    | (refine wpList_build_ref rfl _ rfl _ rfl ?_; intro c2 hc2)
    | (refine wpList_alloc_ref rfl rfl ?_; intro c3 hc3; have R1 := RB.made hc3 wa; have F1 : Fr (fun _ => False) wa _ := Fr.alloc (fun _ => False) wa (.cells c3 58); have L1 := R0.lt; generalize wa.alloc (.cells c3 58) = wb at *; generalize wa.heap.size = mb at *)
    | (refine wpList_store_ref rfl _ _ rfl mb c2 rfl rfl ep 0 (fun _ => 0) (fun _ => 0) R1 hc2 ?_; intro wc hR1 hF1))
  obtain ⟨rb, hrb⟩ : ∃ rb, w.heap.size = rb := ⟨_, rfl⟩
  rw [hrb] at R0 L1 ⊢
  have hR0 := (R0.fr F1 id).fr hF1 (by omega)
  have hF : Fr (fun k => rb ≤ k) w wc := (((F0.trans F1 (fun _ _ h => h)).mono (fun _ _ h => h.elim)).trans hF1 (fun _ _ h => by omega))
  have HR0 := hide hR0
  have HR1 := hide hR1
  have HF := hide hF
  have HRB := hide hrb
  have hmr : rb < mb := L1
  clear R0 F0 R1 F1 hR0 hR1 hF hF1 hc0 hc2 hc3 hrb L1
  go_wp2_with fail
  go_loopw [7, 8] (fun at_ i wr => ∃ (k : Nat) (s : Int × Int) (f : Int → Int), i = .int .i64 k ∧ at_ = .int .i64 s.1 ∧ k ≤ n ∧ Hid (chk (l.take k) (0, -1) = some s) ∧ Hid (RB wr mb ep f ∧ ∀ x, 0 ≤ x → x < s.1 → own? (l.take k) x = some (f x)) ∧ Hid (RB wr rb 0 (fun _ => 0)) ∧ Hid (Fr (fun k => rb ≤ k) w wr))
    (fun _ i _ => n - (intOf i).toNat)
  case atStart => exact ⟨0, (0, -1), fun _ => 0, rfl, rfl, Nat.zero_le _, rfl, ⟨HR1.out, fun x h0 h1 => by simp only at h1; omega⟩, HR0.out, HF.out⟩
  case round =>
    obtain ⟨k, ⟨at_, last⟩, f, rfl, rfl, hk, HC, HM, HR, HFr⟩ := hrel
    by_cases hlt : k < n
    · have ik1 : (k : Int) < (n : Int) := by omega
      have ik0 : (0 : Int) ≤ (k : Int) := by omega
      obtain ⟨p, hp⟩ : ∃ p, l[k]? = some p := ⟨_, List.getElem?_eq_getElem (by have := HL.out; omega)⟩
      have hr := H.out
      obtain ⟨bs, os, rfl, hls, hcs⟩ := row_cells pc_len hr hp (by decide)
      obtain ⟨p1, p2, p3⟩ := p
      have hblk : wr.heap[bs]? = w.heap[bs]? := HFr.out.block bs hls (by have := HRB.out; omega)
      have e0 := hcs 0 (.int .i64 p1) rfl wr hblk
      have e1 := hcs 1 (.int .i64 p2) rfl wr hblk
      have e2 := hcs 2 (.int .i64 p3) rfl wr hblk
      rw [Nat.add_zero] at e0
      obtain ⟨qb, hqb⟩ : ∃ qb, wr.heap.size = qb := ⟨_, rfl⟩
      obtain ⟨wd, hwd⟩ : ∃ wd, wr.alloc (.cells #[.int .i64 p1, .int .i64 p2, .int .i64 p3] 84) = wd := ⟨_, rfl⟩
      have hfd : Fr (fun _ => False) wr wd := by rw [← hwd]; exact Fr.alloc _ _ _
      have hbd : wd.heap[qb]? = some (.cells #[.int .i64 p1, .int .i64 p2, .int .i64 p3] 84 (0, 0)) := by rw [← hwd, ← hqb]; exact block_alloc _ _
      have hct := chk_take1 hp HC.out
      have hmq : mb < qb := by have := HM.out.1.lt; omega
      have hrq : rb < qb := by omega
      -- the one ahead
      have hprev : (k = 0 ∧ last = -1) ∨ ∃ (K : Nat), k = K + 1 ∧ 0 < k ∧ wrap64 ((k : Int) - 1) = (K : Int) ∧ wd.cell? ⟨bs, os + K * 3 + 2, none⟩ = some (.int .i64 last) ∧ (K : Int) < (n : Int) := by
        cases k with
        | zero => left; have := HC.out; simp [chk] at this; exact ⟨rfl, this.2.symm⟩
        | succ K =>
          right
          obtain ⟨y, hy⟩ : ∃ y, l[K]? = some y := ⟨_, List.getElem?_eq_getElem (by have := HL.out; omega)⟩
          obtain ⟨bs', os', e', _, hcs'⟩ := row_cells pc_len H.out hy (by decide)
          cases e'
          obtain ⟨y1, y2, y3⟩ := y
          have h3 := last_take HC.out hy
          simp only at h3
          have := hcs' 2 (.int .i64 y3) rfl wd ((hfd.block bs (by have := HFr.out.size; omega) id).trans hblk)
          exact ⟨K, rfl, by omega, by unfold wrap64; omega, by rw [h3]; exact this, by omega⟩
      have HCT := hide hct
      have HFD := hide hfd
      have HBD := hide hbd
      have HWD := hide hwd
      have HQB := hide hqb
      have HPP := hide hp
      clear hblk hfd hbd hwd hqb hct hp hcs hr
      go_upto_region 7 with fail
      rw [HWD.out, HQB.out]
      clear e0 e1 e2
      have d0 : wd.cell? ⟨qb, 0, none⟩ = some (.int .i64 p1) := by rw [cell_of_block HBD.out]; rfl
      have d1 : wd.cell? ⟨qb, 1, none⟩ = some (.int .i64 p2) := by rw [cell_of_block HBD.out]; rfl
      have d2 : wd.cell? ⟨qb, 2, none⟩ = some (.int .i64 p3) := by rw [cell_of_block HBD.out]; rfl
      obtain ⟨q, hq⟩ : ∃ q, decide (bad (at_, last) (p1, p2, p3)) = q := ⟨_, rfl⟩
      go_cut [63] from 23 to 63 (fun c wx => c = .bool q ∧ Hid (Fr (fun _ => False) wd wx))
      case first =>
        have hbd : q = decide (p1 ≠ at_ ∨ p2 ≤ p1 ∨ 256 < p2 ∨ p3 < 0 ∨ 3 ≤ p3 ∨ p3 = last) := by rw [← hq]; rfl
        clear hq
        have hc : (q = true ∧ (p1 != at_) = true) ∨ (q = true ∧ (p1 != at_) = false ∧ p2 ≤ p1) ∨ (q = true ∧ (p1 != at_) = false ∧ ¬ p2 ≤ p1 ∧ 256 < p2) ∨ (q = true ∧ (p1 != at_) = false ∧ ¬ p2 ≤ p1 ∧ ¬ 256 < p2 ∧ p3 < 0) ∨ (q = true ∧ (p1 != at_) = false ∧ ¬ p2 ≤ p1 ∧ ¬ 256 < p2 ∧ ¬ p3 < 0 ∧ 3 ≤ p3) ∨
            ((p1 != at_) = false ∧ ¬ p2 ≤ p1 ∧ ¬ 256 < p2 ∧ ¬ p3 < 0 ∧ ¬ 3 ≤ p3 ∧ (last == p3) = q) := by
          by_cases h1 : p1 = at_
          · by_cases h2 : p2 ≤ p1
            · exact .inr (.inl ⟨by rw [hbd]; simp [h2], by simp [h1], h2⟩)
            · by_cases h3 : 256 < p2
              · exact .inr (.inr (.inl ⟨by rw [hbd]; simp [h3], by simp [h1], h2, h3⟩))
              · by_cases h4 : p3 < 0
                · exact .inr (.inr (.inr (.inl ⟨by rw [hbd]; simp [h4], by simp [h1], h2, h3, h4⟩)))
                · by_cases h5 : 3 ≤ p3
                  · exact .inr (.inr (.inr (.inr (.inl ⟨by rw [hbd]; simp [h5], by simp [h1], h2, h3, h4, h5⟩))))
                  · refine .inr (.inr (.inr (.inr (.inr ⟨by simp [h1], h2, h3, h4, h5, ?_⟩))))
                    rw [hbd]
                    by_cases h6 : p3 = last
                    · simp [h6]
                    · have : ¬ last = p3 := fun e => h6 e.symm
                      have h2' : ¬ p2 ≤ at_ := by rw [← h1]; exact h2
                      simp [h1, h2', h3, h4, h5, h6, this]
          · exact .inl ⟨by rw [hbd]; simp [h1], by rw [bne_iff_ne]; exact h1⟩
        clear hbd
        rcases hc with ⟨rfl, h1⟩ | ⟨rfl, h1, h2⟩ | ⟨rfl, h1, h2, h3⟩ | ⟨rfl, h1, h2, h3, h4⟩ | ⟨rfl, h1, h2, h3, h4, h5⟩ | ⟨h1, h2, h3, h4, h5, h6⟩
        iterate 5
          · clear hprev
            go_quiet (fail)
            go_wp2_with fail
            go_meet
            case rel => exact ⟨rfl, ((Fr.refl _ _).drewN _)⟩
        rcases hprev with ⟨hk0, hl1⟩ | ⟨K, hkK, hk1, hkw, hcell, hKn⟩
        · have hq0 : q = false := by rw [← h6, hl1]; simp; omega
          subst hq0
          have hk2 : ¬ (0 : Int) < (k : Int) := by omega
          have hk3 : ¬ 0 < k := by omega
          clear h6 hk0 hl1
          go_quiet (fail)
          go_wp2_with fail
          go_meet
          case rel => exact ⟨rfl, ((Fr.refl _ _).drewN _)⟩
        · have hk2 : (0 : Int) < (k : Int) := by omega
          have hK0 : (0 : Int) ≤ (K : Int) := by omega
          have hkw2 : (k : Int) - 1 = (K : Int) := by omega
          clear hkK
          go_quiet (fail)
          go_wp2_with fail
          go_meet
          case rel => exact ⟨rfl, ((Fr.refl _ _).drewN _)⟩
      case rest =>
        obtain ⟨rfl, HFC⟩ := hcut
        have hbc := (HFC.out.block qb (lt_of_block HBD.out) id).trans HBD.out
        have hfw : Fr (fun _ => False) wr wc := HFD.out.trans HFC.out (fun _ _ h => h)
        have hm := HM.out.1.fr hfw id
        have hr := HR.out.fr hfw id
        have hfx : Fr (fun k => rb ≤ k) w wc := HFr.out.trans hfw (fun _ _ h => h.elim)
        have hcl := chk_le _ _ _ HC.out
        simp only at hcl
        have hct := HCT.out
        have HMC := hide hm
        have HRC := hide hr
        have HFX := hide hfx
        have HBC := hide hbc
        clear hm hr hfx hfw hbc d0 d1 d2 hprev
        cases q with
        | true =>
          have hb : bad (at_, last) (p1, p2, p3) := of_decide_eq_true hq
          rw [if_pos hb] at hct
          have hrf := right_bad (ep := ep) hct
          have HRF := hide hrf
          clear hb hct hrf hq hcl
          go_wp2_with (first
            | (refine wpList_build_ref0 rfl rfl ?_; intro c5 hc5)
            | (refine wpList_store_ref rfl _ _ rfl rb c5 rfl rfl 0 0 _ _ HRC.out hc5 ?_; intro wc2 hR2 hF2))
          obtain ⟨cs', hcs1, hcs2⟩ := id hR2
          refine bodyPost_ret (results_cell_row2 rfl _ _ rb _ cs' _ _ rfl hcs1 Try.underlying58 rfl (refSize hcs2) (.bool false) rfl) rfl ⟨⟨cs', 0, fun _ => 0, by rw [HRF.out], hcs2, fun h => by rw [HRF.out] at h; cases h⟩, ?_⟩
          exact (HFX.out.trans hF2 (fun _ _ h => by omega)).fresh (fun j hj => by have := HRB.out; omega)
        | false =>
          have hb : ¬ bad (at_, last) (p1, p2, p3) := of_decide_eq_false hq
          rw [if_neg hb] at hct
          unfold bad at hb
          simp only at hb
          obtain ⟨P1, rfl⟩ : ∃ P : Nat, p1 = (P : Int) := ⟨p1.toNat, by omega⟩
          obtain ⟨P2, rfl⟩ : ∃ P : Nat, p2 = (P : Int) := ⟨p2.toNat, by omega⟩
          have hp12 : P1 < P2 ∧ P2 ≤ 256 ∧ (P1 : Int) = at_ := by omega
          have HCT2 := hide hct
          have HB := hide hb
          have HP := hide hp12
          have c0 : wc.cell? ⟨qb, 0, none⟩ = some (.int .i64 P1) := by rw [cell_of_block HBC.out]; rfl
          clear hb hct hq hcl hp12
          go_wp2_with fail
          clear c0
          go_loopw [10] (fun ix wx => ∃ H : Nat, ix = .int .i64 H ∧ P1 ≤ H ∧ H ≤ P2 ∧ Hid (RB wx mb ep (fun x => if (P1 : Int) ≤ x ∧ x < (H : Int) then p3 else f x)) ∧ Hid (RB wx rb 0 (fun _ => 0)) ∧ Hid (wx.heap[qb]? = some (.cells #[.int .i64 P1, .int .i64 P2, .int .i64 p3] 84 (0, 0))) ∧ Hid (Fr (fun k => rb ≤ k) w wx))
            (fun ix _ => P2 - (intOf ix).toNat)
          case atStart => exact ⟨P1, rfl, Nat.le_refl _, by have := HP.out; omega, HMC.out.congr (fun i h0 h1 => by rw [if_neg (by omega)]), HRC.out, HBC.out, HFX.out⟩
          case round =>
            obtain ⟨H, rfl, hH1, hH2, HMx, HRx, HBx, HFx⟩ := hrel
            have x1 : wr.cell? ⟨qb, 1, none⟩ = some (.int .i64 P2) := by rw [cell_of_block HBx.out]; rfl
            have x2 : wr.cell? ⟨qb, 2, none⟩ = some (.int .i64 p3) := by rw [cell_of_block HBx.out]; rfl
            by_cases hlt2 : H < P2
            · have ik3 : (H : Int) < (P2 : Int) := by omega
              have ik4 : (0 : Int) ≤ (H : Int) := by omega
              have ik5 : (H : Int) < 256 := by have := HP.out; omega
              obtain ⟨d, hd⟩ : ∃ d, wr.cell? ⟨mb, 1 + H, none⟩ = some (.int .i64 d) := ⟨_, HMx.out.of H (by omega)⟩
              have d1 : wr.frozen? ⟨mb, 1 + H, none⟩ = false := HMx.out.free (1 + H)
              go_wp2_with fail
              go_roundw
              case rel =>
                have hs : Fr (fun k => k = mb) wr (wr.setCell ⟨mb, 1 + H, none⟩ (.int .i64 p3)) := Fr.setCell _ _ _ rfl
                refine ⟨H + 1, by go_num, by omega, by omega, (HMx.out.set H (by omega) p3).congr (fun i h0 h1 => ?_), HRx.out.fr hs (by omega), (hs.block qb (lt_of_block HBx.out) (by omega)).trans HBx.out, HFx.out.trans hs (fun _ _ h => by omega)⟩
                by_cases e : i = (H : Int)
                · rw [if_pos (by omega), if_pos e]
                · rw [if_neg e]
                  by_cases e2 : (P1 : Int) ≤ i ∧ i < (H : Int)
                  · rw [if_pos (by omega), if_pos e2]
                  · rw [if_neg (by omega), if_neg e2]
              case measure => simp [intOf]; omega
            · have hH : H = P2 := by omega
              subst hH
              have ik3 : ¬ (H : Int) < (H : Int) := by omega
              go_wp2_with fail
              go_roundw
              case rel =>
                refine ⟨k + 1, ((H : Int), p3), _, by go_num, rfl, by omega, HCT2.out, ⟨HMx.out, fun x h0 h1 => ?_⟩, HRx.out, HFx.out⟩
                simp only at h1 ⊢
                have hp := HP.out
                rw [List.take_add_one, HPP.out, own_append]
                show (own? (l.take k) x).or (own? [((P1 : Int), (H : Int), p3)] x) = _
                by_cases hx : x < at_
                · rw [HM.out.2 x h0 hx, if_neg (by omega)]; rfl
                · rw [chk_none _ _ _ HC.out x (by simp only; omega), Option.none_or, own_cons, if_pos (by rw [holds_iff]; simp only; omega), if_pos (by omega)]
              case measure => simp [intOf]; omega
    · have hkn : k = n := by omega
      subst hkn
      have ik1 : ¬ (k : Int) < (k : Int) := by omega
      have htk : l.take k = l := List.take_of_length_le (by have := HL.out; omega)
      have hc := HC.out
      rw [htk] at hc
      have hm := HM.out
      rw [htk] at hm
      have hrm : rightM ep l = if ep < 1 ∨ 1073741824 < ep then false else decide (at_ = 256) := by unfold rightM rightT; rw [hc]
      have hfin : ∀ cs (b : Bool), rightM ep l = b → RC cs ep f → RefR ep l (Ending.returned (.tuple #[.agg cs, .bool b])) := fun cs b hb hcs => by
        refine ⟨cs, ep, f, by rw [hb], hcs, fun h => ⟨rfl, fun x h0 h1 => ?_⟩⟩
        have h2 := (right_own h x h0 h1).1
        obtain ⟨_, _, g, hc2⟩ := right_chk h
        rw [hc] at hc2
        have h3 : at_ = 256 := by cases hc2; rfl
        rw [hm.2 x h0 (by simp only; omega)] at h2
        exact Option.some.inj h2
      have hcase : ((at_ == 256) = false ∧ rightM ep l = false) ∨ ((at_ == 256) = true ∧ ¬ 1 ≤ ep ∧ rightM ep l = false) ∨ ((at_ == 256) = true ∧ 1 ≤ ep ∧ ¬ ep ≤ 1073741824 ∧ rightM ep l = false) ∨ ((at_ == 256) = true ∧ 1 ≤ ep ∧ ep ≤ 1073741824 ∧ rightM ep l = true) := by
        by_cases h1 : at_ = 256
        · by_cases h2 : 1 ≤ ep
          · by_cases h3 : ep ≤ 1073741824
            · right; right; right; exact ⟨by simp [h1], h2, h3, by rw [hrm, if_neg (by omega)]; simp [h1]⟩
            · right; right; left; exact ⟨by simp [h1], h2, h3, by rw [hrm, if_pos (by omega)]⟩
          · right; left; exact ⟨by simp [h1], h2, by rw [hrm, if_pos (by omega)]⟩
        · left
          refine ⟨by simp [h1], ?_⟩
          rw [hrm]; split
          · rfl
          · simp [h1]
      have HFIN := hide hfin
      have HMM := hide hm.1
      clear htk hc hm hrm hfin
      rcases hcase with ⟨h1, hr⟩ | ⟨h1, h2, hr⟩ | ⟨h1, h2, h3, hr⟩ | ⟨h1, h2, h3, hr⟩
      all_goals
        have HRR := hide hr
        clear hr
        go_wp2_with (first
          | (refine wpList_load_ref rfl _ rfl mb rfl ep _ HMM.out ?_; intro c5 hc5)
          | (refine wpList_store_ref rfl _ _ rfl rb c5 rfl rfl ep 0 _ _ HR.out hc5 ?_; intro wc2 hR2 hF2))
        obtain ⟨cs', hcs1, hcs2⟩ := id hR2
        refine bodyPost_ret (results_cell_row2 rfl _ _ rb _ cs' _ _ rfl hcs1 Try.underlying58 rfl (refSize hcs2) (.bool _) rfl) rfl ⟨HFIN.out cs' _ HRR.out hcs2, ?_⟩
        exact (HFr.out.trans hF2 (fun _ _ h => by omega)).fresh (fun j hj => by have := HRB.out; omega)

set_option maxRecDepth 100000 in
set_option maxHeartbeats 6400000 in
theorem out_any (w : World) (ep : Int) (a1 : Option Addr) (n c1 : Nat) (l : List P3) (h : Reads w (.slice a1 n c1) n 3 (rowP l)) (hl : l.length = n) (hn : n * 24 ≤ 140737488351232) :
    Calls Try.prog 19 #[.agg #[.int .i64 ep, .slice a1 n c1]] w fun e w' => RefR ep l e ∧ Fr (fun _ => False) w w' := by
  obtain ⟨i0, hi0, hz0, hz1, hz2⟩ := info_parts infoPart2
  have hn9 : (n : Int) ≤ 140737488351232 := by omega
  obtain ⟨wa, hwa⟩ : ∃ wa, w.alloc (.cells #[.int .i64 ep, .slice a1 n c1] 25) = wa := ⟨_, rfl⟩
  obtain ⟨pb, hpb⟩ : ∃ pb, w.heap.size = pb := ⟨_, rfl⟩
  have hfa : Fr (fun _ => False) w wa := by rw [← hwa]; exact Fr.alloc _ _ _
  have hba : wa.heap[pb]? = some (.cells #[.int .i64 ep, .slice a1 n c1] 25 (0, 0)) := by rw [← hwa, ← hpb]; exact block_alloc _ _
  have hsza : wa.heap.size = pb + 1 := by rw [← hwa, ← hpb]; simp
  have H := hide h
  have HL := hide hl
  have HWA := hide hwa
  have HPB := hide hpb
  have HFA := hide hfa
  have HBA := hide hba
  have HSZ := hide hsza
  clear h hl hwa hpb hfa hba
  go_enter Try.func19, Try.ntmps19
  go_upto_region 1 with (refine wpList_alloc_ref rfl rfl ?_; intro c0 hc0)
  rw [HWA.out, HPB.out]
  have R1 := RB.made hc0 wa
  have F1 : Fr (fun _ => False) wa _ := Fr.alloc (fun _ => False) wa (.cells c0 58)
  obtain ⟨wb, hwb⟩ : ∃ wb, wa.alloc (.cells c0 58) = wb := ⟨_, rfl⟩
  obtain ⟨qb, hqb⟩ : ∃ qb, pb + 1 = qb := ⟨_, rfl⟩
  rw [hwb] at R1 F1
  rw [hsza, hqb] at R1
  have hbb := (F1.block pb (lt_of_block HBA.out) id).trans HBA.out
  have HR1 := hide R1
  have HBB := hide hbb
  have HF1 := hide (HFA.out.trans F1 (fun _ _ h => h))
  have HWB := hide hwb
  have HQB := hide hqb
  clear R1 F1 hbb hwb hqb hc0 hsza
  rw [HWB.out, HQB.out]
  go_wp2_with fail
  go_loopw [4, 5] (fun o i wr => ∃ k : Nat, i = .int .i64 k ∧ k ≤ n ∧ Hid (wr.ownsRow (qb + 1) 84 3 o k (rowP (l.take k))) ∧ Hid (Fr (fun k => qb < k) wb wr)) (fun _ i _ => n - (intOf i).toNat)
  case atStart => exact ⟨0, rfl, Nat.zero_le _, World.ownsRow_nil _ _ _ _, Fr.refl _ _⟩
  case round =>
    obtain ⟨k, rfl, hk, HO, HFr⟩ := hrel
    obtain ⟨ao, co, hsh⟩ := own_shape HO.out
    subst hsh
    have hpq : pb < qb := by have := HQB.out; omega
    have hbw := (HFr.out.block pb (lt_of_block HBB.out) (by omega)).trans HBB.out
    have m1 : wr.cell? ⟨pb, 1, none⟩ = some (.slice a1 n c1) := by rw [cell_of_block hbw]; rfl
    have m0 : wr.cell? ⟨pb, 0, none⟩ = some (.int .i64 ep) := by rw [cell_of_block hbw]; rfl
    by_cases hlt : k < n
    · have ik0 : (0 : Int) ≤ (k : Int) := by omega
      have ik1 : (k : Int) < (n : Int) := by omega
      obtain ⟨x, hx⟩ : ∃ x, l[k]? = some x := ⟨_, List.getElem?_eq_getElem (by rw [HL.out]; exact hlt)⟩
      obtain ⟨b1, o1, rfl, hl1, hc1⟩ := row_cells pc_len H.out hx (by decide)
      have hstep : rowP (l.take (k + 1)) = rowP (l.take k) ++ pc x := by rw [List.take_add_one, hx]; simp [rowP]
      obtain ⟨x1, x2, x3⟩ := x
      have hbl : wr.heap[b1]? = w.heap[b1]? := (HFr.out.block b1 (by have := HF1.out.size; omega) (by have := HPB.out; omega)).trans (HF1.out.block b1 hl1 id)
      have e0 := hc1 0 (.int .i64 x1) rfl wr hbl
      rw [Nat.add_zero] at e0
      have e1 := hc1 1 (.int .i64 x2) rfl wr hbl
      have e2 := hc1 2 (.int .i64 x3) rfl wr hbl
      have hal : Fr (fun _ => False) wr (wr.drew.alloc (.cells #[.int .i64 x1, .int .i64 x2, .int .i64 x3] 84)) := ((Fr.refl (fun _ => False) wr).drew).trans (Fr.alloc (fun _ => False) wr.drew _) (fun _ _ h => h)
      have HO3 := hide (ownsRow_fr HO.out hal (fun _ _ => id))
      have hrd : Reads (wr.drew.alloc (.cells #[.int .i64 x1, .int .i64 x2, .int .i64 x3] 84)) (.slice (some ⟨wr.heap.size, 0, none⟩) 1 1) 1 3 (pc (x1, x2, x3)) :=
        ⟨rfl, _, _, rfl, (by intro h; cases h), Nat.le_refl _, fun i u hu => ⟨_, _, rfl, by
          have hq := block_alloc wr.drew (.cells #[.int .i64 x1, .int .i64 x2, .int .i64 x3] 84)
          have hq : (wr.drew.alloc (.cells #[.int .i64 x1, .int .i64 x2, .int .i64 x3] 84)).heap[wr.heap.size]? = _ := hq
          rw [cell_of_block hq]; simpa [pc] using hu⟩⟩
      have HR3 := hide hrd
      have HONE := hide (show ∀ u ∈ pc (x1, x2, x3), u.oneCell' = true from fun u hu => by simp [pc] at hu; rcases hu with rfl | rfl | rfl <;> rfl)
      have HFA2 := hide (HFr.out.trans hal (fun _ _ h => h.elim))
      have HST := hide hstep
      have HX := hide (hal.mono (S' := fun q => qb + 1 ≤ q) (fun _ _ h => h.elim))
      have HS4 := hide (fun (wx : World) (hx : Fr (fun q => qb + 1 ≤ q) wr wx) => (⟨by rw [cell_of_block ((hx.block pb (lt_of_block hbw) (by omega)).trans hbw)]; rfl, hc1 0 (.int .i64 x1) rfl wx ((hx.block b1 (by have := HF1.out.size; have := HFr.out.size; omega) (by have := HPB.out; omega)).trans hbl), hc1 1 (.int .i64 x2) rfl wx ((hx.block b1 (by have := HF1.out.size; have := HFr.out.size; omega) (by have := HPB.out; omega)).trans hbl), hc1 2 (.int .i64 x3) rfl wx ((hx.block b1 (by have := HF1.out.size; have := HFr.out.size; omega) (by have := HPB.out; omega)).trans hbl)⟩ : wx.cell? ⟨pb, 1, none⟩ = some (.slice (some ⟨b1, o1, none⟩) n c1) ∧ wx.cell? ⟨b1, o1 + k * 3, none⟩ = some (.int .i64 x1) ∧ wx.cell? ⟨b1, o1 + k * 3 + 1, none⟩ = some (.int .i64 x2) ∧ wx.cell? ⟨b1, o1 + k * 3 + 2, none⟩ = some (.int .i64 x3)))
      have HSZ2 := hide (show qb + 1 ≤ (wr.drew.alloc (.cells #[.int .i64 x1, .int .i64 x2, .int .i64 x3] 84)).heap.size by have := HFA2.out.size; have := HR1.out.lt; omega)
      clear hx hc1 hbl hstep hal hrd hbw
      go_wp2_with fail
      go_region_held3 (fun w' => w'.cell? ⟨pb, 1, none⟩ = some (.slice (some ⟨b1, o1, none⟩) n c1) ∧ w'.cell? ⟨b1, o1 + k * 3, none⟩ = some (.int .i64 x1) ∧ w'.cell? ⟨b1, o1 + k * 3 + 1, none⟩ = some (.int .i64 x2) ∧ w'.cell? ⟨b1, o1 + k * 3 + 2, none⟩ = some (.int .i64 x3)) (go_keep)
        ((first
          | (refine step_append_reads (by rfl) _ _ 83 (by rfl) (qb + 1) 84 i0 _ 3 24 Try.underlying83 hi0 hz0 hz1 hz2 (by simp [Value.cells]) (by decide) (.slice ao k co) k (rowP (l.take k)) (by rfl) HO3.out (.slice (some ⟨wr.heap.size, 0, none⟩) 1 1) 1 (pc (x1, x2, x3)) (by rfl) HR3.out HONE.out (by unfold maxLen; omega) (by omega) HSZ2.out (k + 1) rfl ?_; intro a2 c2' W1 hown1 hgrow1 hat1; obtain ⟨g1, g2, g3, g4⟩ := HS4.out W1 (HX.out.trans (Fr.grown (S := fun q => qb + 1 ≤ q) hgrow1 (fun q hq => (HO3.out.lt q hq).1)) (fun _ _ h => h)); have HO4 := hide hown1; have HG4 := hide hgrow1; clear hown1 hgrow1 hat1)))
      all_goals
        go_wp2_with fail
        go_roundw
        case rel =>
          refine ⟨k + 1, by go_num, by omega, by rw [HST.out]; exact HO4.out, ?_⟩
          exact HFA2.out.trans (Fr.grown (S := fun q => qb + 1 ≤ q) HG4.out (fun q hq => (HO3.out.lt q hq).1)) (fun q hq hN => by omega)
        case measure => simp [intOf]; omega
    · have ik1 : ¬ (k : Int) < (n : Int) := by omega
      have hkn : k = n := by omega
      subst hkn
      have hO2 := Reads.of_own HO.out
      have htk : l.take k = l := List.take_of_length_le (by rw [HL.out]; exact Nat.le_refl _)
      rw [htk] at hO2
      have hc := refRight_any wr ep ao k co l hO2 HL.out (by omega)
      have hrq := HR1.out.fr HFr.out (by omega)
      have HCC := hide hc
      have HRQ := hide hrq
      have HFW := hide ((HF1.out.mono (S' := fun k => qb ≤ k) (fun _ _ h => h.elim)).trans HFr.out (fun _ _ h => by omega))
      clear htk hO2 hbw hc hrq
      go_wp2_with fail
      refine HCC.out.mono ?_
      rintro e w7 ⟨⟨cs, ep', f, rfl, hcs, hok⟩, hf⟩
      have HOK := hide hok
      have HCS := hide hcs
      have HRQ7 := hide (HRQ.out.fr hf id)
      have HF7 := hide (HFW.out.trans hf (fun _ _ h => h.elim))
      clear hok hf m0 m1 hcs
      go_wp2_with (refine wpList_store_ref rfl _ _ rfl qb cs rfl rfl ep' 0 _ _ HRQ7.out HCS.out ?_; intro wc2 hR2 hF2)
      obtain ⟨cs', hcs1, hcs2⟩ := id hR2
      refine bodyPost_ret (results_cell_row2 rfl _ _ qb _ cs' _ _ rfl hcs1 Try.underlying58 rfl (refSize hcs2) (.bool _) rfl) rfl ⟨⟨cs', ep', f, rfl, hcs2, HOK.out⟩, ?_⟩
      exact (HF7.out.trans hF2 (fun _ _ h => by omega)).fresh (fun j hj => by have := HPB.out; have := HQB.out; omega)
end Go.Proofs.Ytkaibekeokkpnaa
