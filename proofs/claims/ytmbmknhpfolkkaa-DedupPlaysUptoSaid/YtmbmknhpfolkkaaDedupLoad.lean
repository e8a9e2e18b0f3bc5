/- Load of dedup. -/
import Derived.Test.YtmbmknhpfolkkaaDedupSave
import Derived.Test.YtmbmknhpfolkkaaWireR
import Derived.Deep.CutBlock
namespace Go.Proofs.Ytmbmknhpfolkkaa
open Go.RowKit Go.Maps Go.Cv Go.Shelf
set_option linter.unusedVariables false

/-- One client read. -/
def ldStep (bs : List UInt8) (s : RS × Bool × List L3) : RS × Bool × List L3 :=
  let c := s.1.text bs bs.length
  let i := c.2.get bs 8
  let t := i.2.text bs bs.length
  (t.2, s.2.1 && (s.2.2.find? (is ⟨c.1.toArray⟩)).isNone, s.2.2 ++ [(⟨c.1.toArray⟩, IntKind.i64.wrap (i.1 : Int), ⟨t.1.toArray⟩)])
def ldK (bs : List UInt8) (s : RS × Bool × List L3) : Nat → RS × Bool × List L3
  | 0 => s
  | j + 1 => ldStep bs (ldK bs s j)
theorem ldK_len (bs : List UInt8) (s : RS × Bool × List L3) : ∀ j, (ldK bs s j).2.2.length = s.2.2.length + j
  | 0 => rfl
  | j + 1 => by rw [ldK, ldStep]; simp [ldK_len bs s j]; omega

/-- What Load answers. -/
def loadT (bs : List UInt8) : Option (Int × List L3) :=
  let g := (⟨0, 0, 0⟩ : RS).get bs 4
  if g.1 < 1 ∨ 64 < g.1 then none else
  let c := g.2.count bs g.1
  let s := ldK bs (c.2, true, []) c.1
  if (s.1.end_ bs).1 ≠ 0 ∨ s.2.1 = false then none else some ((g.1 : Int), s.2.2)

def Loaded (bs : List UInt8) (w : World) (e : Ending) (w' : World) : Prop :=
  (loadT bs = none ∧ e = .returned (.tuple #[.pointer none, .int .i64 12])) ∨
  ∃ m l tb v, loadT bs = some (m, l) ∧ e = .returned (.tuple #[.pointer (some ⟨tb, 0, none⟩), .int .i64 0]) ∧ Tb w' tb v m l ∧ w.heap.size ≤ tb

theorem one_nil (x : L3) : x = (x.1, x.2.1, x.2.2) := rfl

set_option maxRecDepth 100000 in
set_option maxHeartbeats 3200000 in
theorem load_any (w : World) (v : Value) (bs : List UInt8) (h : Reads w v bs.length 1 (bc bs)) (hlen : bs.length ≤ 140737488355328) :
    Calls Try.prog 14 #[v] w fun e w' => Loaded bs w e w' ∧ Fr (fun _ => False) w w' := by
  obtain ⟨i0, hi0, hz0, hz1, hz2⟩ := info_parts infoLast
  obtain ⟨bn, hbn⟩ : ∃ n, bs.length = n := ⟨_, rfl⟩
  have hNR := newReader_any w v bs h hlen
  rw [hbn] at h hlen
  obtain ⟨_, a, cp, rfl, _, _, _⟩ := h
  have HNR := hide hNR
  have HBN := hide hbn
  obtain ⟨⟨g, r1⟩, hg⟩ : ∃ p, (⟨0, 0, 0⟩ : RS).get bs 4 = p := ⟨_, rfl⟩
  have HG := hide hg
  clear hNR hbn hg
  by_cases hm : g < 1 ∨ 64 < g
  · have hT : loadT bs = none := by unfold loadT; rw [HG.out]; simp only [if_pos hm]
    have HT := hide hT
    have hmi : (g : Int) < 1 ∨ 64 < (g : Int) := by omega
    clear hT hm
    go_enter Try.func14, Try.ntmps14
    go_wp2_with fail
    refine HNR.out.mono ?_
    rintro e w1 ⟨rb, v1, rfl, hrb, hv1, hR1, hf1⟩
    have HR1 := hide hR1
    have HF1 := hide hf1
    have HV1 := hide hv1
    clear hR1 hf1 hv1
    go_wp2_with fail
    refine (rdFour_any w1 rb v1 bs _ HR1.out).mono ?_
    rw [HG.out]
    rintro e w2 ⟨rfl, hR2, hf2⟩
    have HF2 := hide hf2
    clear hR2 hf2
    go_wp2_with fail
    refine (new_no w2 g hmi).mono ?_
    rintro e w3 ⟨rfl, rfl⟩
    go_wp2_with fail
    go_ret2
    exact ⟨.inl ⟨HT.out, rfl⟩, (HF1.out.mono (fun _ _ h => h.elim)).trans (HF2.out.mono (S' := fun k => rb ≤ k) (fun k _ hk => by omega)) (fun k hk h => by omega)⟩
  · obtain ⟨⟨cn, r2⟩, hc⟩ : ∃ p, r1.count bs (g : Int) = p := ⟨_, rfl⟩
    obtain ⟨hm1, hm2⟩ : 1 ≤ g ∧ g ≤ 64 := by omega
    have hcn : cn ≤ 64 := by
      have : (r1.count bs (g : Int)).1 = cn := by rw [hc]
      have h2 := count_most bs r1 (g : Int)
      omega
    have hT : loadT bs = (if ((ldK bs (r2, true, []) cn).1.end_ bs).1 ≠ 0 ∨ (ldK bs (r2, true, []) cn).2.1 = false then none else some ((g : Int), (ldK bs (r2, true, []) cn).2.2)) := by
      unfold loadT; rw [HG.out]; simp only [if_neg hm]; rw [hc]
    have HT := hide hT
    have HC := hide hc
    clear hT hc hm
    go_enter Try.func14, Try.ntmps14
    go_wp2_with fail
    refine HNR.out.mono ?_
    rintro e w1 ⟨rb, v1, rfl, hrb, hv1, hR1, hf1⟩
    have HR1 := hide hR1
    have HF1 := hide hf1
    have HV1 := hide hv1
    clear hR1 hf1 hv1
    go_wp2_with fail
    refine (rdFour_any w1 rb v1 bs _ HR1.out).mono ?_
    rw [HG.out]
    rintro e w2 ⟨rfl, hR2, hf2⟩
    have HR2 := hide hR2
    have HF2 := hide hf2
    clear hR2 hf2
    go_wp2_with fail
    refine (new_ok w2 g (by omega) (by omega)).mono ?_
    rintro e w3 ⟨rfl, ht3, hf3⟩
    have htb : rb < w2.heap.size := lt_of_block HR2.out.blk
    have hvb : ∀ k, v1.ownBlock = some k → k < w2.heap.size := fun k hk => (HR2.out.own.lt k hk).2
    have hw2 : w.heap.size ≤ w2.heap.size := by have := HF1.out.size; have := HF2.out.size; omega
    have hR3 := HR2.out.fr hf3 id (fun _ _ => id)
    obtain ⟨tb, htbe⟩ : ∃ tb, w2.heap.size = tb := ⟨_, rfl⟩
    rw [htbe] at ht3 htb hw2 hvb
    have c1 : w3.cell? ⟨tb, 0, none⟩ = some (.int .i64 g) := by rw [cell_of_block ht3.blk]; rfl
    have HVB := hide hvb
    have HR3 := hide hR3
    have HT3 := hide ht3
    have HF3 := hide (((HF1.out.mono (S' := fun k => w.heap.size ≤ k) (fun _ _ h => h.elim)).trans (HF2.out.mono (S' := fun k => w.heap.size ≤ k) (fun k _ hk => by omega)) (fun _ _ h => h)).trans hf3 (fun _ _ h => h.elim))
    clear hR3 ht3 hf3 hvb
    go_wp2_with fail
    refine (count_any w3 rb v1 bs r1 HR3.out g).mono ?_
    rw [HC.out]
    rintro e w4 ⟨rfl, hR4, hf4⟩
    have ht4 : Tb w4 tb (.slice none 0 0) g [] := HT3.out.fr hf4 (by omega) (fun _ h => by cases h)
    have HR4 := hide hR4
    have HT4 := hide ht4
    have HF4 := hide (HF3.out.trans hf4 (fun k _ hk => by omega))
    clear hR4 hf4 ht4 c1
    go_wp2_with fail
    go_loopw [7, 8, 9] (fun fi nn _ wr => ∃ (j q : Nat) (vt : Value), nn = .int .i64 q ∧ j + q = cn ∧ fi = .bool (ldK bs (r2, true, []) j).2.1 ∧ Rd wr rb v1 bs (ldK bs (r2, true, []) j).1 ∧ Tb wr tb vt g (ldK bs (r2, true, []) j).2.2 ∧ Fr (fun k => w.heap.size ≤ k) w wr)
      (fun _ nn _ _ => (intOf nn).toNat)
    case atStart => exact ⟨0, cn, _, rfl, by omega, rfl, HR4.out, HT4.out, HF4.out⟩
    case round =>
      obtain ⟨j, q, vt, rfl, hjq, rfl, hr, ht, hf⟩ := hrel
      have hll := ldK_len bs (r2, true, []) j
      have hst : ldK bs (r2, true, []) (j + 1) = ldStep bs (ldK bs (r2, true, []) j) := rfl
      obtain ⟨⟨rj, fj, lj⟩, hs⟩ : ∃ s, ldK bs (r2, true, []) j = s := ⟨_, rfl⟩
      rw [hs] at hst hll hr ht ⊢
      have hlj : lj.length = j := by simpa using hll
      simp only at hr ht
      have HR := hide hr
      have HTj := hide ht
      have HF := hide hf
      have HS := hide hs
      have HLJ := hide hlj
      clear hll hr ht hf hs hlj
      by_cases hq : q = 0
      · subst hq
        have hjc : j = cn := by omega
        subst hjc
        have hT := HT.out
        rw [HS.out] at hT
        simp only at hT
        obtain ⟨⟨wy, fin⟩, hE⟩ : ∃ p, rj.end_ bs = p := ⟨_, rfl⟩
        have cE := end_any wr rb v1 bs rj HR.out
        rw [hE] at cE hT
        simp only at cE hT
        have CE := hide cE
        have hcase : (wy ≠ 0 ∧ loadT bs = none) ∨ (wy = 0 ∧ fj = false ∧ loadT bs = none) ∨ (wy = 0 ∧ fj = true ∧ loadT bs = some ((g : Int), lj)) := by
          by_cases h1 : wy = 0
          · cases fj with
            | false => right; left; exact ⟨h1, rfl, by rw [hT, if_pos (.inr rfl)]⟩
            | true => right; right; exact ⟨h1, rfl, by rw [hT, if_neg (by simp [h1])]⟩
          · left; exact ⟨h1, by rw [hT, if_pos (.inl h1)]⟩
        clear hT hE cE hst
        rcases hcase with ⟨hwy, hl⟩ | ⟨rfl, rfl, hl⟩ | ⟨rfl, rfl, hl⟩
        · have hwb : (wy != 0) = true := by rw [bne_iff_ne]; exact hwy
          have HL := hide hl
          clear hl hwy
          go_wp2_with fail
          refine CE.out.mono ?_
          rintro e y1 ⟨rfl, hr, hf⟩
          have HFy := hide hf
          clear hr hf
          go_wp2_with fail
          go_ret2
          exact ⟨.inl ⟨HL.out, rfl⟩, (HF.out.trans HFy.out (fun k _ hk => by omega)).fresh (fun _ h => h)⟩
        · have HL := hide hl
          clear hl
          go_wp2_with fail
          refine CE.out.mono ?_
          rintro e y1 ⟨rfl, hr, hf⟩
          have HFy := hide hf
          clear hr hf
          go_wp2_with fail
          go_ret2
          exact ⟨.inl ⟨HL.out, rfl⟩, (HF.out.trans HFy.out (fun k _ hk => by omega)).fresh (fun _ h => h)⟩
        · have HL := hide hl
          clear hl
          go_wp2_with fail
          refine CE.out.mono ?_
          rintro e y1 ⟨rfl, hr, hf⟩
          have HTy := hide (HTj.out.fr hf (by omega) (fun k hk e => by have := (HTj.out.own.lt k hk).1; omega))
          have HFy := hide hf
          clear hr hf
          go_wp2_with fail
          go_ret2
          exact ⟨.inr ⟨g, lj, tb, vt, HL.out, rfl, HTy.out, hw2⟩, (HF.out.trans HFy.out (fun k _ hk => by omega)).fresh (fun _ h => h)⟩
      · obtain ⟨⟨ct, ra⟩, hA⟩ : ∃ p, rj.text bs (bn : Int) = p := ⟨_, rfl⟩
        obtain ⟨⟨iv, rb1⟩, hB⟩ : ∃ p, ra.get bs 8 = p := ⟨_, rfl⟩
        obtain ⟨⟨tt, rc⟩, hC⟩ : ∃ p, rb1.text bs (bn : Int) = p := ⟨_, rfl⟩
        have hst2 : ldK bs (r2, true, []) (j + 1) = (rc, fj && (lj.find? (is ⟨ct.toArray⟩)).isNone, lj ++ [(⟨ct.toArray⟩, IntKind.i64.wrap (iv : Int), ⟨tt.toArray⟩)]) := by
          rw [hst]; unfold ldStep; simp only [HBN.out, hA, hB, hC]
        have cA := rdText_any wr rb v1 bs rj HR.out bn
        rw [hA] at cA
        have cB : ∀ wx, Rd wx rb v1 bs ra → _ := fun wx hx => rdEight_any wx rb v1 bs ra hx
        rw [hB] at cB
        have cC : ∀ wx, Rd wx rb v1 bs rb1 → _ := fun wx hx => rdText_any wx rb v1 bs rb1 hx bn
        rw [hC] at cC
        obtain ⟨c0, hc0⟩ : ∃ c : ByteArray, ByteArray.mk ct.toArray = c := ⟨_, rfl⟩
        obtain ⟨t0, ht0⟩ : ∃ c : ByteArray, ByteArray.mk tt.toArray = c := ⟨_, rfl⟩
        obtain ⟨k0, hk0⟩ : ∃ k : Int, IntKind.i64.wrap (iv : Int) = k := ⟨_, rfl⟩
        simp only [hc0, ht0, hk0] at hst2 cA cB cC
        have HST := hide hst2
        have CA := hide cA
        have CB := hide cB
        have CC := hide cC
        have hq1 : (0 : Int) < (q : Int) := by omega
        have htw := lt_of_block HTj.out.blk
        clear hst hst2 hA hB hC hc0 ht0 hk0 cA cB cC hq
        go_wp2_with fail
        refine CA.out.mono ?_
        rintro e y1 ⟨rfl, hr, hf⟩
        have htj := HTj.out.fr hf (by omega) (fun k hk e => by have := (HTj.out.own.lt k hk).1; omega)
        obtain ⟨xb, hxb⟩ : ∃ xb, y1.heap.size = xb := ⟨_, rfl⟩
        obtain ⟨y2, hy2⟩ : ∃ wa, y1.alloc (.cells #[.string c0, .int .i64 0, .string ⟨#[]⟩] 53) = wa := ⟨_, rfl⟩
        have hba : y2.heap[xb]? = some (.cells #[.string c0, .int .i64 0, .string ⟨#[]⟩] 53 (0, 0)) := by rw [← hy2, ← hxb]; exact block_alloc _ _
        have hfa : Fr (fun _ => False) y1 y2 := by rw [← hy2]; exact Fr.alloc _ _ _
        have hxt : tb < xb := by rw [← hxb]; exact lt_of_block htj.blk
        have hxv : vt.ownBlock ≠ some xb := fun e => by have := (htj.own.lt xb e).2; omega
        have hxr : ∀ k, v1.ownBlock = some k → k ≠ xb := fun k hk => by have := HVB.out k hk; omega
        have HR2 := hide (hr.fr hfa id (fun _ _ => id))
        have HT2 := hide (htj.fr0 hfa)
        have HF2 := hide ((HF.out.trans hf (fun k _ hk => by omega)).trans hfa (fun _ _ h => h.elim))
        have HB2 := hide hba
        have HXV := hide hxv
        have HXR := hide hxr
        have hxrb : ¬ xb = rb := by omega
        have HY2 := hide hy2
        have HXB := hide hxb
        clear hr hf htj hba hfa hxv hxr hy2 hxb
        go_wp2_with fail
        rw [HY2.out, HXB.out]
        refine (CB.out y2 HR2.out).mono ?_
        rintro e y3 ⟨rfl, hr, hf⟩
        have hb3 := (hf.block xb (lt_of_block HB2.out) (by omega)).trans HB2.out
        have g1 : y3.cell? ⟨xb, 1, none⟩ = some (.int .i64 0) := by rw [cell_of_block hb3]; rfl
        have g2 : y3.frozen? ⟨xb, 1, none⟩ = false := free_of_block hb3
        have hs4 : Fr (fun k => k = xb) y3 (y3.setCell ⟨xb, 1, none⟩ (.int .i64 k0)) := Fr.setCell _ _ _ rfl
        have HT4 := hide ((HT2.out.fr hf (by omega) (fun k hk e => by have := (HT2.out.own.lt k hk).1; omega)).fr hs4 (by omega) (fun k hk e => HXV.out (e ▸ hk)))
        have HR4 := hide (hr.fr hs4 (by omega) (fun k hk e => HXR.out k hk e))
        have HB4 := hide (block_setCell (j := 1) hb3 (.int .i64 k0))
        have HF4 := hide ((HF2.out.trans hf (fun k _ hk => by omega)).trans hs4 (fun k _ hk => by omega))
        clear hr hf hb3 hs4
        obtain ⟨y4, hy4⟩ : ∃ wa, y3.setCell ⟨xb, 1, none⟩ (.int .i64 k0) = wa := ⟨_, rfl⟩
        rw [hy4] at HT4 HR4 HB4 HF4
        have HY4 := hide hy4
        clear hy4
        go_wp2_with fail
        rw [HY4.out]
        refine (CC.out y4 HR4.out).mono ?_
        rintro e y5 ⟨rfl, hr, hf⟩
        have hb5 := (hf.block xb (lt_of_block HB4.out) (by omega)).trans HB4.out
        have g3 : y5.cell? ⟨xb, 2, none⟩ = some (.string ⟨#[]⟩) := by rw [cell_of_block hb5]; rfl
        have g4 : y5.frozen? ⟨xb, 2, none⟩ = false := free_of_block hb5
        have hs6 : Fr (fun k => k = xb) y5 (y5.setCell ⟨xb, 2, none⟩ (.string t0)) := Fr.setCell _ _ _ rfl
        have HT6 := hide ((HT4.out.fr hf (by omega) (fun k hk e => by have := (HT4.out.own.lt k hk).1; omega)).fr hs6 (by omega) (fun k hk e => HXV.out (e ▸ hk)))
        have HR6 := hide (hr.fr hs6 (by omega) (fun k hk e => HXR.out k hk e))
        have HB6 := hide (block_setCell (j := 2) hb5 (.string t0))
        have HF6 := hide ((HF4.out.trans hf (fun k _ hk => by omega)).trans hs6 (fun k _ hk => by omega))
        clear hr hf hb5 hs6 g1 g2
        obtain ⟨y6, hy6⟩ : ∃ wa, y5.setCell ⟨xb, 2, none⟩ (.string t0) = wa := ⟨_, rfl⟩
        rw [hy6] at HT6 HR6 HB6 HF6
        have HY6 := hide hy6
        clear hy6
        go_upto_region 12 with fail
        rw [HY6.out]
        have g5 : y6.cell? ⟨xb, 0, none⟩ = some (.string c0) := by rw [cell_of_block HB6.out]; rfl
        obtain ⟨ap, cap, rfl⟩ := own_shape HT6.out.own
        obtain ⟨pf, hpf⟩ := found_ex lj c0
        have hlm : lj.length ≤ maxLen := by have := HLJ.out; unfold maxLen; omega
        have hF := find_any y6 tb _ g lj HT6.out hlm c0 pf hpf
        have HFI := hide hF
        have HSOME : ∀ y7, Fr (fun _ => False) y6 y7 → Hid (Rd y7 rb v1 bs rc) ∧ Hid (Tb y7 tb (.slice ap lj.length cap) g lj) ∧ Hid (Fr (fun k => w.heap.size ≤ k) w y7) ∧ Hid (y7.heap[xb]? = some (.cells #[.string c0, .int .i64 k0, .string t0] 53 (0, 0))) := fun y7 hf =>
          ⟨HR6.out.fr hf id (fun _ _ => id), HT6.out.fr0 hf, HF6.out.trans hf (fun _ _ h => h.elim), (hf.block xb (lt_of_block HB6.out) id).trans HB6.out⟩
        have HSM := hide HSOME
        clear hF HSOME hlm
        have hcase : (fj = false) ∨ (fj = true ∧ pf < 0 ∧ lj.find? (is c0) = none) ∨ (fj = true ∧ ¬ pf < 0 ∧ (lj.find? (is c0)).isNone = false) := by
          cases fj with
          | false => exact .inl rfl
          | true =>
            right
            rcases found_is hpf with ⟨rfl, h2⟩ | ⟨k, x, rfl, _, h2, _⟩
            · exact .inl ⟨rfl, by omega, h2⟩
            · exact .inr ⟨rfl, by omega, by rw [h2]; rfl⟩
        clear hpf
        rcases hcase with rfl | ⟨rfl, hp, hfi⟩ | ⟨rfl, hp, hfi⟩
        case' inl =>
          have HFL : Hid (ldK bs (r2, true, []) (j + 1) = (rc, false, lj ++ [(c0, k0, t0)])) := by have := HST.out; rwa [Bool.false_and] at this
          go_upto_region 13 with fail
          obtain ⟨HR7, HT7, HF7, HB7⟩ := HSM.out y6 (Fr.refl _ _)
          clear g5
          generalize y6 = y7 at *
        case' inr.inl =>
          have HFL : Hid (ldK bs (r2, true, []) (j + 1) = (rc, true, lj ++ [(c0, k0, t0)])) := by have := HST.out; rw [hfi] at this; exact this
          clear hfi
          have hpb : decide (pf < 0) = true := decide_eq_true hp
          go_upto_region 13 with (go_at_call 20; refine HFI.out.mono ?_; rintro e y7 ⟨rfl, hf7⟩; have HF7' := hide hf7; clear hf7)
          obtain ⟨HR7, HT7, HF7, HB7⟩ := HSM.out y7 HF7'.out
        case' inr.inr =>
          have HFL : Hid (ldK bs (r2, true, []) (j + 1) = (rc, false, lj ++ [(c0, k0, t0)])) := by have := HST.out; rw [hfi] at this; exact this
          clear hfi
          have hpb : decide (pf < 0) = false := decide_eq_false hp
          go_upto_region 13 with (go_at_call 20; refine HFI.out.mono ?_; rintro e y7 ⟨rfl, hf7⟩; have HF7' := hide hf7; clear hf7)
          obtain ⟨HR7, HT7, HF7, HB7⟩ := HSM.out y7 HF7'.out
        all_goals
          have k1 : y7.cell? ⟨tb, 1, none⟩ = some (.slice ap lj.length cap) := by rw [cell_of_block HT7.out.blk]; rfl
          have k2 : y7.frozen? ⟨tb, 1, none⟩ = false := free_of_block HT7.out.blk
          have x0 : y7.cell? ⟨xb, 0, none⟩ = some (.string c0) := by rw [cell_of_block HB7.out]; rfl
          have x1 : y7.cell? ⟨xb, 1, none⟩ = some (.int .i64 k0) := by rw [cell_of_block HB7.out]; rfl
          have x2 : y7.cell? ⟨xb, 2, none⟩ = some (.string t0) := by rw [cell_of_block HB7.out]; rfl
          have hb7 : tb < y7.heap.size := lt_of_block HT7.out.blk
          have hbl : ∀ W, (y7.drew.alloc (.cells #[.string c0, .int .i64 k0, .string t0] 53)).grownBy W (Value.slice ap lj.length cap).ownBlock → W.heap[tb]? = some (.cells #[.int .i64 g, .slice ap lj.length cap] 50 (0, 0)) := fun W hg =>
            (hg.block tb (by simp; omega) (fun e => by have := (HT7.out.own.lt tb e.symm).1; omega)).trans ((Below.heap_alloc _ _ _ hb7).trans HT7.out.blk)
          have HBL := hide hbl
          have hll : lj.length ≤ 64 := by have := HLJ.out; omega
          clear hbl
          go_region_law
            ((refine step_append_lies _ (by rfl) _ _ _ (by rfl) (tb + 1) 53 i0 _ 3 40 Try.underlying48 hi0 hz0 hz1 hz2 zero_size (by omega) (.slice ap lj.length cap) lj.length _ (by rfl) ((HT7.out.own.alloc _).drew)
                ⟨y7.heap.size, 0, none⟩ 1 1 (lc (c0, k0, t0)) (by rfl) (by rfl) (World.news_of_block (cs := #[.string c0, .int .i64 k0, .string t0]) (t := 53) (fr := (0, 0)) (heap_alloc_new y7 _)) (one_last _)
                (by omega) (by unfold maxLen; omega) (by omega) (by simp; omega) (y7.heap.size + 1) (by simp) ?_; intro gg cap2 W2 hown2 hgrow hat hlt2
              have hc2 := cell_of_block (j := 1) (HBL.out _ hgrow)
              have hf2 := free_of_block (j := 1) (HBL.out _ hgrow)))
          all_goals
            go_wp2_with fail
            go_roundw
            case rel =>
              have e8 : (lj ++ [(c0, k0, t0)]).length = lj.length + 1 := by simp
              have hblk := HBL.out _ hgrow
              have hal : Fr (fun k => w.heap.size ≤ k) w (y7.drew.alloc (.cells #[.string c0, .int .i64 k0, .string t0] 53)) := (HF7.out.drew).trans (Fr.alloc (fun k => w.heap.size ≤ k) _ _) (fun _ _ h => h)
              have hgr : Fr (fun k => (Value.slice ap lj.length cap).ownBlock = some k) (y7.drew.alloc (.cells #[.string c0, .int .i64 k0, .string t0] 53)) W2 := Fr.grown hgrow (fun k hk => hk)
              have hst : Fr (fun k => k = tb) W2 (W2.setCell ⟨tb, 1, none⟩ (.slice (some ⟨gg, 0, none⟩) (lj.length + 1) cap2)) := Fr.setCell _ _ _ rfl
              have hap : ∀ k, (Value.slice ap lj.length cap).ownBlock = some k → tb + 1 ≤ k := fun k hk => (HT7.out.own.lt k hk).1
              have hr8 : Rd (y7.drew.alloc (.cells #[.string c0, .int .i64 k0, .string t0] 53)) rb v1 bs rc := HR7.out.fr (((Fr.refl (fun _ => False) y7).drew).trans (Fr.alloc (fun _ => False) _ _) (fun _ _ h => h)) id (fun _ _ => id)
              have hr9 := (hr8.fr hgr (fun e => by have := hap _ e; omega) (fun k hk e => by have := hap _ e; have := HVB.out k hk; omega)).fr hst (by omega) (fun k hk e => by have := HVB.out k hk; omega)
              refine ⟨j + 1, q - 1, .slice (some ⟨gg, 0, none⟩) (lj.length + 1) cap2, ?_, by omega, ?_, ?_, ⟨?_, ?_⟩, ?_⟩
              · congr 1; omega
              · rw [HFL.out]
              · rw [HFL.out]; exact hr9
              · exact block_setCell hblk _
              · rw [HFL.out]
                simp only [e8]
                rw [row_append, show rowOf [(c0, k0, t0)] = lc (c0, k0, t0) from by simp [rowOf]]
                exact ownsRow_setCell_below hown2 (by simp) _
              · exact (hal.trans hgr (fun k _ hk => by have := hap k hk; omega)).trans hst (fun k _ hk => by omega)
            case measure => simp [intOf]; omega
end Go.Proofs.Ytmbmknhpfolkkaa
