/- TxnLoads's walk. -/
import Derived.Test.YtehneddmamnmiaaTxLoad
import Derived.Test.YtehneddmamnmiaaTxKnown2
import Derived.Test.YtehneddmamnmiaaCells2
import Derived.Test.YtehneddmamnmiaaBytesOf
namespace Go.Proofs.Ytehneddmamnmiaa.TxnLoads
open Go.RowKit Go.Maps Go.Cv Go.Shelf
set_option linter.unusedVariables false

def nT : TxR := newR ⟨#[116]⟩ [rdO ⟨#[97]⟩, rdO ⟨#[98]⟩] 1 (newP 2 2)
theorem newR_t : newR ⟨#[116]⟩ [rdO ⟨#[97]⟩, rdO ⟨#[98]⟩] 1 (newP 2 2) = nT := rfl
theorem Good.zero {r : TxR} (h : Good r) : Good0 r := ⟨h.pl, h.len, h.pn, h.sl, h.gr, h.gnd, h.vnd, h.sub, h.vl, h.knd, h.ksub, fun e => by cases e⟩
theorem goodT : Good0 nT := Good.zero (good_new ⟨#[116]⟩ [rdO ⟨#[97]⟩, rdO ⟨#[98]⟩] 1 (newP 2 2) (by decide))
theorem svOkT : SvOk nT := good0_sv goodT (by show (newP 2 2).length ≤ 4096; rw [newP_len]; decide)
theorem svT_few : (svT nT).length ≤ 60000 := by
  have h1 := svT_len goodT
  have h2 : wT nT ≤ 1000 := by
    unfold wT
    have h3 : (mapB nT).size ≤ 500 := by
      unfold mapB
      show Array.size (sv 1 (newP 2 2)).toArray ≤ 500
      rw [List.size_toArray]; unfold sv; rw [svk_len, newP_len]; decide
    have h4 : nT.tx.size = 1 := rfl
    have h5 : opsW nT.ops = 2 := rfl
    have h6 : vtW nT.V = 0 := rfl
    omega
  omega
theorem svT_some : 0 < (svT nT).length := by
  unfold svT
  rw [List.length_append, Tb_len]; omega
theorem reads_ops2 (w : World) (x y : O4) (t : TypeId) : Reads (w.alloc (.cells (oc x ++ oc y).toArray t)) (.slice (some ⟨w.heap.size, 0, none⟩) 2 2) 2 4 (rowO [x, y]) :=
  ⟨by simp [rowO, oc], some ⟨w.heap.size, 0, none⟩, 2, rfl, (by intro h; cases h), Nat.le_refl _, fun i u hu => ⟨_, 0, rfl, by rw [cell_of_block (block_alloc w _)]; simpa [rowO] using hu⟩⟩
theorem late_o (r : TxR) : ((lateR r).o == 0) = false := by
  unfold lateR
  by_cases h : r.o = 0
  · rw [if_pos h]; rfl
  · rw [if_neg h]; simp [h]
theorem loadAny (w : World) (v : Value) (bs : List UInt8) (h : Reads w v bs.length 1 (bc bs)) (hlen : bs.length ≤ 140737488351232) :
    Calls Try.prog 23 #[v] w fun e w' => (e = .returned (.tuple #[.pointer none, .int .i64 12]) ∨ ∃ t tb b0, e = .returned (.tuple #[.pointer (some ⟨tb, 0, none⟩), .int .i64 0]) ∧ w.heap.size ≤ b0 ∧ b0 ≤ w'.heap.size ∧ TX w' (fun k => k < b0) b0 tb t) ∧ Fr (fun _ => False) w w' := by
  refine (loadTx_any w v bs h hlen).mono ?_
  rintro e w' ⟨hl, hf⟩
  rcases hl with ⟨_, rfl⟩ | ⟨t, tb, b0, _, rfl, h1, h2, h3, _⟩
  · exact ⟨.inl rfl, hf⟩
  · exact ⟨.inr ⟨t, tb, b0, rfl, h1, h2, h3⟩, hf⟩

set_option maxRecDepth 100000 in
set_option maxHeartbeats 6400000 in
theorem walk (w : World) (v0 : Value) (zs : List Int) (h0 : Reads w v0 zs.length 1 (zs.flatMap fun z => [.int .u8 z])) (g0 : ∀ x ∈ zs, (Lit.int .u8 x).wf = true) (c0 : zs.length * 1 ≤ 140737488351232)
    (a1 : Int) (wf1 : (Lit.int .i64 a1).wf = true) (a2 : Int) (wf2 : (Lit.int .u8 a2).wf = true) :
    Calls Try.prog 5 #[v0, .int .i64 a1, .int .u8 a2] w fun e w' => e = .returned (.bool true) ∧ Below w.heap.size w w' := by
  obtain ⟨bs, hbl, hbs⟩ := bytes_of zs g0
  rw [hbs, ← hbl] at h0
  rw [← hbl] at c0
  obtain ⟨b3, rfl⟩ : ∃ b : UInt8, a2 = (b.toNat : Int) := by
    simp [Lit.wf, IntKind.min, IntKind.max, IntKind.signed, IntKind.bits] at wf2
    exact ⟨UInt8.ofNat a2.toNat, by rw [UInt8.toNat_ofNat']; omega⟩
  have HR0 := hide h0
  obtain ⟨nb, hnb⟩ : ∃ n, bs.length = n := ⟨_, rfl⟩
  rw [hnb] at h0 c0
  obtain ⟨_, a0, k0, rfl, _, _, _⟩ := h0
  have HNB := hide hnb
  have HNEW := hide (newM w 2 (by omega))
  clear hbl hbs g0 wf1 wf2 hnb
  go_enter Try.func5, Try.ntmps5
  go_wp2_with fail
  refine HNEW.out.mono ?_
  rintro e w1 ⟨a, m, c, rfl, hr1, hf1⟩
  have hr1 : RD w1 a m c (newP 2 2) := hr1
  have hM := MV.made 1 hr1
  obtain ⟨wB, hw2⟩ : ∃ w2, w1.alloc (.cells #[.int .i64 1, .slice a m c] 30) = w2 := ⟨_, rfl⟩
  obtain ⟨mb, hmb⟩ : ∃ mb, w1.heap.size = mb := ⟨_, rfl⟩
  have hf2 : Fr (fun _ => False) w wB := hf1.trans (by rw [← hw2]; exact Fr.alloc (fun _ => False) _ _) (fun _ _ h => h)
  rw [hw2, hmb] at hM
  have hmv0 : ∀ wx, Fr (fun _ => False) wB wx → MV wx mb 1 a m c (newP 2 2) := fun wx hx => hM.fr0 hx
  have HMV7 := hide hmv0
  have HF2 := hide hf2
  have HW2 := hide hw2
  have HMB := hide hmb
  clear hf1 hr1 hM hw2 hmb hf2 hmv0
  go_upto_region 2 with fail
  rw [HW2.out, HMB.out]
  go_cut [9, 10] from 21 to 28 (fun t e wx => ∃ tb, t = .pointer (some ⟨tb, 0, none⟩) ∧ e = .int .i64 0 ∧ Hid (TX wx (fun k => k < wB.heap.size) wB.heap.size tb nT) ∧ Hid (Fr (fun _ => False) wB wx))
  case first =>
    refine wp_region_news [Lft.is (.agg #[.int .i64 5, .string ⟨#[97]⟩, .string ⟨#[]⟩, .int .i64 0]), Lft.is (.agg #[.int .i64 5, .string ⟨#[98]⟩, .string ⟨#[]⟩, .int .i64 0]), Lft.stay (fun v w' => ∃ b, v = .slice (some ⟨b, 0, none⟩) 2 2 ∧ Reads w' v 2 4 (rowO [rdO ⟨#[97]⟩, rdO ⟨#[98]⟩])) (fun u w1 w2 h g => by obtain ⟨b, e, h⟩ := h; exact ⟨b, e, reads_old h g (fun _ _ => id)⟩),
      Lft.is (.agg #[.int .i64 1, .slice a m c]), Lft.stay (fun v w' => ∃ tb, v = .tuple #[.pointer (some ⟨tb, 0, none⟩), .int .i64 0] ∧ TX w' (fun k => k < wB.heap.size) wB.heap.size tb nT) (fun u w1 w2 h g => by obtain ⟨tb, e, h⟩ := h; exact ⟨tb, e, h.fr0 g⟩),
      ⟨[4], fun vs v _ => v = vs 4 ∧ ∃ tb : Nat, v = .tuple #[.pointer (some ⟨tb, 0, none⟩), .int .i64 0], fun vs vs' u w h hp => by rw [← h 4 (by simp)]; exact hp, fun vs u w1 w2 h g => h, false⟩, ⟨[5], fun vs v _ => vs 5 = .tuple #[v, .int .i64 0], fun vs vs' u w h hp => by rw [← h 5 (by simp)]; exact hp, fun vs u w1 w2 h g => h, false⟩, Lft.is (.int .i64 0), Lft.of [6] (fun vs => vs 6) (fun vs vs' h => h 6 (by simp)), Lft.is (.int .i64 0)] _ (by kernel_rfl) (by kernel_rfl) (fun vs => by simp only [putAll, Act.put, List.setIfInBounds_toArray, List.set_cons_succ, List.set_cons_zero, Nat.zero_add, Nat.reduceAdd]; exact rfl) ⟨?_, ?_, ?_, ?_, ?_, ?_, ?_, ?_, ?_, ?_, trivial⟩ ?_
    · refine StepN.call rfl 8 (fun _ => #[.string ⟨#[97]⟩]) (fun vs w2 hf hp => by go_simp) (fun vs w2 hf hp => ?_)
      refine (keepRead_any w2 ⟨#[97]⟩).mono ?_
      rintro e w3 ⟨rfl, hf3⟩
      exact ⟨_, rfl, rfl, hf3, by intro h; cases h⟩
    · refine StepN.call rfl 8 (fun _ => #[.string ⟨#[98]⟩]) (fun vs w2 hf hp => by go_simp) (fun vs w2 hf hp => ?_)
      refine (keepRead_any w2 ⟨#[98]⟩).mono ?_
      rintro e w3 ⟨rfl, hf3⟩
      exact ⟨_, rfl, rfl, hf3, by intro h; cases h⟩
    · refine StepN.run rfl (fun vs w2 hf hp => ?_)
      obtain ⟨h1, h2, -⟩ := hp
      have h1 : vs 0 = .agg #[.int .i64 5, .string ⟨#[97]⟩, .string ⟨#[]⟩, .int .i64 0] := h1
      have h2 : vs 1 = .agg #[.int .i64 5, .string ⟨#[98]⟩, .string ⟨#[]⟩, .int .i64 0] := h2
      exact ⟨.slice (some ⟨w2.heap.size, 0, none⟩) 2 2, w2.alloc (.cells #[.int .i64 5, .string ⟨#[97]⟩, .string ⟨#[]⟩, .int .i64 0, .int .i64 5, .string ⟨#[98]⟩, .string ⟨#[]⟩, .int .i64 0] 26), by go_simp, ⟨_, rfl, reads_ops2 w2 (rdO ⟨#[97]⟩) (rdO ⟨#[98]⟩) _⟩, Fr.alloc _ _ _, by intro h; cases h⟩
    · refine StepN.quiet rfl _ rfl (fun vs w2 hf hp => ?_)
      have hm := HMV7.out w2 hf
      have c0 := hm.c0
      have c1 := hm.c1
      go_simp
    · refine StepN.call rfl 10 (fun vs => #[.string ⟨#[116]⟩, vs 2, vs 3]) (fun vs w2 hf hp => by go_simp) (fun vs w2 hf hp => ?_)
      obtain ⟨h1, h2, -⟩ := hp
      obtain ⟨b, h1, hrd⟩ := h1
      have h1 : vs 2 = .slice (some ⟨b, 0, none⟩) 2 2 := h1
      have h2 : vs 3 = .agg #[.int .i64 1, .slice a m c] := h2
      have hrd : Reads w2 (vs 2) 2 4 (rowO [rdO ⟨#[97]⟩, rdO ⟨#[98]⟩]) := hrd
      rw [h1] at hrd
      simp only [h1, h2]
      refine (newTx_any w2 ⟨#[116]⟩ (by intro e; cases e) _ 2 2 [rdO ⟨#[97]⟩, rdO ⟨#[98]⟩] hrd rfl (by decide) (by decide) (by intro x hx; simp at hx; rcases hx with rfl | rfl <;> (unfold maxLen rdO; decide)) 1 a m c (newP 2 2) (HMV7.out w2 hf).2 new_right.2.1).mono ?_
      rintro e w3 ⟨tb, rfl, ht, hf3⟩
      rw [newR_t] at ht
      have hs := hf.size
      exact ⟨_, rfl, ⟨tb, rfl, (ht.low hs).less (fun k hk => Nat.lt_of_lt_of_le hk hs)⟩, hf3, by intro h; cases h⟩
    · refine StepN.run rfl (fun vs w2 hf hp => ?_)
      obtain ⟨h1, -⟩ := hp
      obtain ⟨tb, h1, -⟩ := h1
      have h1 : vs 4 = .tuple #[.pointer (some ⟨tb, 0, none⟩), .int .i64 0] := h1
      exact ⟨vs 4, w2, by go_simp, ⟨rfl, tb, h1⟩, Fr.refl _ _, by intro h; cases h⟩
    · refine StepN.run rfl (fun vs w2 hf hp => ?_)
      obtain ⟨h1, -⟩ := hp
      obtain ⟨-, tb, h1⟩ := h1
      have h1 : vs 5 = .tuple #[.pointer (some ⟨tb, 0, none⟩), .int .i64 0] := h1
      exact ⟨.pointer (some ⟨tb, 0, none⟩), w2, by go_simp, h1, Fr.refl _ _, by intro h; cases h⟩
    · refine StepN.quiet rfl _ rfl (fun vs w2 hf hp => ?_)
      obtain ⟨h1, -⟩ := hp
      obtain ⟨-, tb, h1⟩ := h1
      have h1 : vs 5 = .tuple #[.pointer (some ⟨tb, 0, none⟩), .int .i64 0] := h1
      go_simp
    · refine StepN.run rfl (fun vs w2 hf hp => ⟨vs 6, w2, by go_simp, rfl, Fr.refl _ _, by intro h; cases h⟩)
    · refine StepN.quiet rfl _ rfl (fun vs w2 hf hp => ?_)
      obtain ⟨h1, -⟩ := hp
      have h1 : vs 7 = .int .i64 0 := h1
      go_simp
    intro vs w8 hf8 he _
    obtain ⟨⟨tb, h3, ht⟩, -⟩ := he.get 4 (by decide)
    obtain ⟨⟨h4, -⟩, -⟩ := he.get 5 (by decide)
    have h5 := (he.get 6 (by decide)).1
    have h7 : vs 8 = vs 6 := (he.get 8 (by decide)).1
    have h8 : vs 9 = .int .i64 0 := (he.get 9 (by decide)).1
    have h5 : vs 6 = .pointer (some ⟨tb, 0, none⟩) := by
      have h5 : vs 5 = .tuple #[vs 6, .int .i64 0] := h5
      rw [show vs 5 = vs 4 from h4, show vs 4 = _ from h3] at h5
      injection h5 with h5; have := Array.mk.inj h5; simp at this; exact this.symm
    rw [h5] at h7
    rw [h7, h8]
    have HT := hide ht
    have HF8 := hide hf8
    clear he h3 h4 h5 h7 h8 ht hf8
    go_wp2_with fail
    go_meet
    case rel => exact ⟨tb, rfl, rfl, HT.out, HF8.out⟩
  case rest =>
    obtain ⟨tb, rfl, rfl, HT, HF8⟩ := hcut
    obtain ⟨w2, hw8⟩ : ∃ w8, wc = w8 := ⟨_, rfl⟩
    rw [hw8] at HT HF8
    rw [hw8]
    have hsv := saveT_any w2 _ _ tb nT HT.out svOkT (by have := svT_few; omega)
    have F2 := hide (HF2.out.trans HF8.out (fun _ _ h => h))
    have HSV := hide hsv
    clear hw8 hsv
    go_wp2_with fail
    refine HSV.out.mono ?_
    rintro e w3 ⟨v2, rfl, ho2, hf3⟩
    have hsl2 := svT_few
    have hsl3 := svT_some
    obtain ⟨sb, hsb⟩ : ∃ sb, svT nT = sb := ⟨_, rfl⟩
    rw [hsb] at ho2 hsl2 hsl3
    obtain ⟨sn, hsn⟩ : ∃ n, sb.length = n := ⟨_, rfl⟩
    rw [hsn] at ho2 hsl2 hsl3
    obtain ⟨ax, cx, rfl⟩ := own_shape ho2
    have HO2 := hide ho2
    have HSN := hide hsn
    have hw23 : w.heap.size ≤ w2.heap.size := F2.out.size
    have HF3 := hide (F2.out.trans hf3 (fun _ _ h => h))
    have isn : (0 : Int) < (sn : Int) := by omega
    clear ho2 hsn hsb hf3
    go_wp2_with fail
    refine (within_ex w3 a1 0 ((sn : Int) - 1) (by omega) (by omega) (by omega)).mono ?_
    rintro e w0 ⟨K0, rfl, hk0, hk1, rfl⟩
    obtain ⟨K, rfl⟩ : ∃ K : Nat, K0 = (K : Int) := ⟨K0.toNat, by omega⟩
    have hKn : K < sn := by omega
    obtain ⟨ub, hub⟩ : ∃ u, sb[K]? = some u := ⟨_, List.getElem?_eq_getElem (by have := HSN.out; omega)⟩
    obtain ⟨u, hu⟩ := xor_u8 ub b3
    obtain ⟨g, rfl⟩ : ∃ g, ax = some ⟨g, 0, none⟩ := by
      rcases HO2.out.2 with ⟨e, e0⟩ | ⟨g, cap', cs, e, _⟩
      · omega
      · cases e; exact ⟨g, rfl⟩
    have hcell : w3.cell? ⟨g, K, none⟩ = some (.int .u8 ub.toNat) := by
      have := HO2.out.cells (g := g) rfl K (.int .u8 ub.toNat) (bc_at sb K ub hub)
      rw [addr_add] at this; simpa using this
    have hfz : w3.frozen? ⟨g, K, none⟩ = false := by
      rcases HO2.out.2 with ⟨e, e0⟩ | ⟨g', cap', cs, e, _, hg, _⟩
      · cases e
      · cases e; exact free_of_block hg
    have ik0 : (K : Int) < (sn : Int) := by omega
    have ik1 : (0 : Int) ≤ (K : Int) := by omega
    have hsn0 : ¬ sn = 0 := by omega
    have HUB := hide hub
    clear hub hk0 hk1
    go_upto_region 9 with fail
    obtain ⟨W, hW⟩ : ∃ W, w3.setCell ⟨g, K, none⟩ (.int .u8 u.toNat) = W := ⟨_, rfl⟩
    rw [hW]
    have hF : Fr (fun _ => False) w W := by
      rw [← hW]
      exact ((HF3.out.mono (S' := fun x => x = g) (fun _ _ h => h.elim)).trans (Fr.setCell (S := fun x => x = g) _ _ _ rfl) (fun _ _ h => h)).fresh (fun x hx => by have := (HO2.out.lt g rfl).1; omega)
    have hX : Reads W (.slice (some ⟨g, 0, none⟩) sn cx) sn 1 (bc (sb.set K u)) := by
      have h1 := Reads.of_own (own_set HO2.out K (.int .u8 u.toNat))
      rw [show (bc sb).set K (.int .u8 u.toNat) = bc (sb.set K u) by unfold bc; rw [List.map_set]] at h1
      rw [← hW]; exact h1
    have hLX : (sb.set K u).length = sn := by rw [List.length_set]; exact HSN.out
    generalize sb.set K u = sx at *
    have hY : Reads W (.slice a0 nb k0) nb 1 (bc bs) := by
      have := reads_old HR0.out hF (fun k hk h => h)
      rwa [HNB.out] at this
    obtain ⟨bb, hbb⟩ : ∃ b, W.heap.size = b := ⟨_, rfl⟩
    obtain ⟨W3, hW3⟩ : ∃ W3, W.alloc (.cells #[.slice a0 nb k0, .slice (some ⟨g, 0, none⟩) sn cx] 57) = W3 := ⟨_, rfl⟩
    have hfa : Fr (fun _ => False) W W3 := by rw [← hW3]; exact Fr.alloc _ _ _
    have hB3 : W3.heap[bb]? = some (.cells #[.slice a0 nb k0, .slice (some ⟨g, 0, none⟩) sn cx] 57 (0, 0)) := by rw [← hW3, ← hbb]; exact block_alloc _ _
    have HFF := hide (hF.trans hfa (fun _ _ h => h.elim))
    have HX3 := hide (reads_old hX hfa (fun _ _ => id))
    have HY3 := hide (reads_old hY hfa (fun _ _ => id))
    have HB3 := hide hB3
    have HLX := hide hLX
    have HBB := hide hbb
    have HW3 := hide hW3
    clear hW hF hX hLX hY hfa hB3 hbb hW3 hcell hfz hu
    go_wp2_with fail
    rw [HW3.out, HBB.out]
    go_loopw [58] (fun i wr => ∃ q : Nat, i = .int .i64 q ∧ q ≤ 2 ∧ Fr (fun _ => False) W3 wr) (fun i _ => 2 - (intOf i).toNat)
    case atStart => exact ⟨0, rfl, by omega, Fr.refl _ _⟩
    case round =>
      obtain ⟨q, rfl, hq, hf⟩ := hrel
      have HG := hide hf
      have hb4 := (hf.block bb (lt_of_block HB3.out) id).trans HB3.out
      have e0 : wr.cell? ⟨bb, 0, none⟩ = some (.slice a0 nb k0) := by rw [cell_of_block hb4]; rfl
      have e1 : wr.cell? ⟨bb, 1, none⟩ = some (.slice (some ⟨g, 0, none⟩) sn cx) := by rw [cell_of_block hb4]; rfl
      have l0 := loadAny wr (.slice a0 nb k0) bs (by rw [HNB.out]; exact reads_old HY3.out hf (fun _ _ => id)) (by have := HNB.out; omega)
      have l1 := loadAny wr (.slice (some ⟨g, 0, none⟩) sn cx) sx (by rw [HLX.out]; exact reads_old HX3.out hf (fun _ _ => id)) (by have := HLX.out; omega)
      have L0 := hide l0
      have L1 := hide l1
      clear hf hb4 l0 l1
      have hq3 : q = 0 ∨ q = 1 ∨ q = 2 := by omega
      rcases hq3 with rfl | rfl | rfl
      · go_wp2_with fail
        refine L0.out.mono ?_
        rintro e y1 ⟨hE, hf1⟩
        rcases hE with rfl | ⟨t, tu, b0, rfl, hb0, hb1, htx⟩
        · have G1 := hide (HG.out.trans hf1 (fun _ _ h => h))
          clear hf1
          go_wp2_with fail
          go_roundw
          case rel => exact ⟨1, by first | rfl | go_num, by omega, G1.out⟩
          case measure => simp [intOf]
        · have HTX := hide htx
          have G1 := hide (HG.out.trans hf1 (fun _ _ h => h))
          have HF1 := hide hf1
          have HBL := hide hb0
          clear hf1 htx hb0 hb1
          go_wp2_with fail
          refine (late_any y1 _ b0 tu t HTX.out).mono ?_
          rintro e y2 ⟨rfl, htx2, hf2⟩
          have hoc := outcome_any y2 _ b0 tu _ htx2
          obtain ⟨oo, hoo⟩ : ∃ o, (lateR t).o = o := ⟨_, rfl⟩
          have hz := late_o t
          rw [hoo] at hoc hz
          have HOC := hide hoc
          have G2 := hide (((G1.out.mono (S' := fun k => W3.heap.size ≤ k) (fun _ _ h => h.elim)).trans hf2 (fun k _ h => by have := h.1; have := HBL.out; have := HG.out.size; omega)).fresh (fun k hk => by omega))
          clear htx2 hf2 hoc hoo
          go_wp2_with fail
          refine HOC.out.mono ?_
          rintro e y3 ⟨rfl, rfl⟩
          go_wp2_with fail
          go_roundw
          case rel => exact ⟨1, by first | rfl | go_num, by omega, G2.out⟩
          case measure => simp [intOf]
      · go_wp2_with fail
        refine L1.out.mono ?_
        rintro e y1 ⟨hE, hf1⟩
        rcases hE with rfl | ⟨t, tu, b0, rfl, hb0, hb1, htx⟩
        · have G1 := hide (HG.out.trans hf1 (fun _ _ h => h))
          clear hf1
          go_wp2_with fail
          go_roundw
          case rel => exact ⟨2, by first | rfl | go_num, by omega, G1.out⟩
          case measure => simp [intOf]
        · have HTX := hide htx
          have G1 := hide (HG.out.trans hf1 (fun _ _ h => h))
          have HF1 := hide hf1
          have HBL := hide hb0
          clear hf1 htx hb0 hb1
          go_wp2_with fail
          refine (late_any y1 _ b0 tu t HTX.out).mono ?_
          rintro e y2 ⟨rfl, htx2, hf2⟩
          have hoc := outcome_any y2 _ b0 tu _ htx2
          obtain ⟨oo, hoo⟩ : ∃ o, (lateR t).o = o := ⟨_, rfl⟩
          have hz := late_o t
          rw [hoo] at hoc hz
          have HOC := hide hoc
          have G2 := hide (((G1.out.mono (S' := fun k => W3.heap.size ≤ k) (fun _ _ h => h.elim)).trans hf2 (fun k _ h => by have := h.1; have := HBL.out; have := HG.out.size; omega)).fresh (fun k hk => by omega))
          clear htx2 hf2 hoc hoo
          go_wp2_with fail
          refine HOC.out.mono ?_
          rintro e y3 ⟨rfl, rfl⟩
          go_wp2_with fail
          go_roundw
          case rel => exact ⟨2, by first | rfl | go_num, by omega, G2.out⟩
          case measure => simp [intOf]
      · go_wp2_with fail
        refine (known_any _).mono ?_
        rintro e w10 ⟨rfl, hf10⟩
        go_wp2_with fail
        go_ret
        exact ⟨rfl, ((HFF.out.trans HG.out (fun _ _ h => h.elim)).trans hf10 (fun j _ hj => hj.elim)).toBelow (Nat.le_refl _) (fun j hj h => by omega)⟩
end Go.Proofs.Ytehneddmamnmiaa.TxnLoads
