/- begun of a transaction: what is read of any bytes. -/
import Derived.Test.YtehneddmamnmiaaTxSave
namespace Go.Proofs.Ytehneddmamnmiaa
open Go.RowKit Go.Maps Go.Cv Go.Shelf
set_option linter.unusedVariables false

/-- One operation. -/
def rdOp (bs : List UInt8) (most : Int) (r : RS) : O4 × RS :=
  ((IntKind.i64.wrap ((r.get bs 8).1 : Int), ⟨((r.get bs 8).2.text bs most).1.toArray⟩, ⟨(((r.get bs 8).2.text bs most).2.text bs most).1.toArray⟩, IntKind.i64.wrap (((((r.get bs 8).2.text bs most).2.text bs most).2.get bs 8).1 : Int)), ((((r.get bs 8).2.text bs most).2.text bs most).2.get bs 8).2)
def opK (bs : List UInt8) (most : Int) (r : RS) : Nat → RS × List O4
  | 0 => (r, [])
  | j + 1 => ((rdOp bs most (opK bs most r j).1).2, (opK bs most r j).2 ++ [(rdOp bs most (opK bs most r j).1).1])
theorem opK_len (bs : List UInt8) (most : Int) (r : RS) : ∀ j, (opK bs most r j).2.length = j
  | 0 => rfl
  | j + 1 => by rw [opK]; simp [opK_len bs most r j]
def bgN (bs : List UInt8) (most : Int) (r : RS) : Nat := ((r.text bs most).2.text bs most).2.count bs 4 |>.1
def bgS (bs : List UInt8) (most : Int) (r : RS) : RS × List O4 := opK bs most (((r.text bs most).2.text bs most).2.count bs 4).2 (bgN bs most r)
/-- What begun answers. -/
def bgT (bs : List UInt8) (most : Int) (r : RS) : Option TxR :=
  match loadT ((r.text bs most).2.text bs most).1 with
  | none => none
  | some (ep, l) => if (r.text bs most).1 = [] ∨ (bgS bs most r).2 = [] then none else some (newR ⟨(r.text bs most).1.toArray⟩ (bgS bs most r).2 ep l)

theorem get_at (bs : List UInt8) (r : RS) (k : Nat) : r.at_ ≤ (r.get bs k).2.at_ := by
  unfold RS.get RS.take; split
  · exact Nat.le_refl _
  · split
    · exact Nat.le_refl _
    · exact Nat.le_add_right _ _
theorem refuse_at (r : RS) (a b : Int) : (r.refuse a b).at_ = r.at_ := by unfold RS.refuse; split <;> rfl
theorem count_at (bs : List UInt8) (r : RS) (m : Int) : r.at_ ≤ (r.count bs m).2.at_ := by
  unfold RS.count; simp only
  split
  · rw [refuse_at]; exact get_at bs r 4
  · exact get_at bs r 4
theorem take_at' (bs : List UInt8) (r : RS) (n : Nat) : (r.take bs n).1.length + r.at_ ≤ (r.take bs n).2.at_ := by
  unfold RS.take; split
  · simp
  · split
    · simp
    · simp; omega
theorem text_at' (bs : List UInt8) (r : RS) (m : Int) : (r.text bs m).1.length + r.at_ ≤ (r.text bs m).2.at_ := by
  unfold RS.text
  have h1 := take_at' bs (r.count bs m).2 (r.count bs m).1
  have h2 := count_at bs r m
  omega
def opW (x : O4) : Nat := x.2.1.size + x.2.2.1.size
def opsW (l : List O4) : Nat := (l.map opW).sum
theorem rdOp_at (bs : List UInt8) (most : Int) (r : RS) : opW (rdOp bs most r).1 + r.at_ ≤ (rdOp bs most r).2.at_ := by
  have h1 := get_at bs r 8
  have h2 := text_at' bs (r.get bs 8).2 most
  have h3 := text_at' bs ((r.get bs 8).2.text bs most).2 most
  have h4 := get_at bs (((r.get bs 8).2.text bs most).2.text bs most).2 8
  have e1 : opW (rdOp bs most r).1 = ((r.get bs 8).2.text bs most).1.length + (((r.get bs 8).2.text bs most).2.text bs most).1.length := by
    unfold opW rdOp
    show Array.size _ + Array.size _ = _
    simp
  rw [e1]
  show _ ≤ ((((r.get bs 8).2.text bs most).2.text bs most).2.get bs 8).2.at_
  omega
theorem opK_at (bs : List UInt8) (most : Int) (r : RS) : ∀ j, opsW (opK bs most r j).2 + r.at_ ≤ (opK bs most r j).1.at_
  | 0 => by show opsW [] + r.at_ ≤ r.at_; simp [opsW]
  | j + 1 => by
    have h1 := opK_at bs most r j
    have h2 := rdOp_at bs most (opK bs most r j).1
    rw [opK]
    unfold opsW at h1 ⊢
    simp only [List.map_append, List.sum_append, List.map_cons, List.map_nil, List.sum_cons, List.sum_nil]
    omega
theorem opsW_le {l : List O4} {x : O4} (h : x ∈ l) : x.2.1.size ≤ opsW l := by
  induction l with
  | nil => cases h
  | cons y r ih =>
    unfold opsW at ih ⊢
    rw [List.map_cons, List.sum_cons]
    rcases List.mem_cons.1 h with rfl | h
    · unfold opW; omega
    · have := ih h; omega
theorem load_right {bs : List UInt8} {ep : Int} {l : List P3} (h : loadT bs = some (ep, l)) : rightM ep l = true ∧ sv ep l = bs := by
  unfold loadT at h
  simp only at h
  split at h
  · cases h
  · rename_i hc
    cases h
    constructor
    · cases e : rightM _ _ with
      | true => rfl
      | false => exact absurd (.inr (.inl e)) hc
    · exact Classical.byContradiction (fun e => hc (.inr (.inr e)))
theorem infoOp4 : (Try.prog.info? 26).map (fun i => (i.zero, i.size, i.bytes)) = some (some (Value.agg #[.int .i64 0, .string ⟨#[]⟩, .string ⟨#[]⟩, .int .i64 0]), 4, 48) := infoCOp
theorem row_op (l : List O4) (x : O4) : rowO (l ++ [x]) = rowO l ++ oc x := by simp [rowO]
theorem oc_one' (x : O4) : ∀ u ∈ oc x, u.oneCell' = true := by intro u hu; simp [oc] at hu; rcases hu with rfl | rfl | rfl | rfl <;> rfl

/-- What begun leaves. -/
def Begun (bs : List UInt8) (most : Int) (r : RS) (rb : Nat) (v : Value) (w : World) (e : Ending) (w' : World) : Prop :=
  (bgT bs most r = none ∧ e = .returned (.pointer none)) ∨ ∃ t tb b0, bgT bs most r = some t ∧ e = .returned (.pointer (some ⟨tb, 0, none⟩)) ∧ Rd w' rb v bs (bgS bs most r).1 ∧ w.heap.size ≤ b0 ∧ b0 ≤ w'.heap.size ∧ TX w' (fun k => k < b0) b0 tb t

set_option maxRecDepth 100000 in
set_option maxHeartbeats 6400000 in
theorem begun_any (w : World) (rb : Nat) (v : Value) (bs : List UInt8) (r : RS) (h : Rd w rb v bs r) (most : Int) (hbl : bs.length ≤ 140737488351232) (hvb : ∀ k, v.ownBlock = some k → k < w.heap.size) :
    Calls Try.prog 56 #[.pointer (some ⟨rb, 0, none⟩), .int .i64 most] w fun e w' => Begun bs most r rb v w e w' ∧ Fr (fun k => k = rb) w w' := by
  obtain ⟨i0, hi0, hz0, hz1, hz2⟩ := info_parts infoOp4
  obtain ⟨tx, r1, htx⟩ : ∃ a b, r.text bs most = (a, b) := ⟨_, _, rfl⟩
  obtain ⟨mp, r2, hmp⟩ : ∃ a b, r1.text bs most = (a, b) := ⟨_, _, rfl⟩
  obtain ⟨cn, r3, hcn⟩ : ∃ a b, r2.count bs 4 = (a, b) := ⟨_, _, rfl⟩
  have hc4 : cn ≤ 4 := by have := count_most bs r2 4; rw [hcn] at this; simp only at this; omega
  have hbN : bgN bs most r = cn := by unfold bgN; rw [htx, hmp, hcn]
  have hbS : bgS bs most r = opK bs most r3 cn := by unfold bgS; rw [hbN, htx, hmp, hcn]
  have hbT : bgT bs most r = match loadT mp with | none => none | some (ep, l) => if tx = [] ∨ (opK bs most r3 cn).2 = [] then none else some (newR ⟨tx.toArray⟩ (opK bs most r3 cn).2 ep l) := by unfold bgT; rw [hbS, htx, hmp]
  have hmpl : mp.length ≤ 140737488355328 := by
    have h1 := text_at' bs r1 most
    rw [hmp] at h1
    have h2 : ∀ (r : RS) (n : Nat), (r.take bs n).1.length ≤ bs.length := fun r n => by
      unfold RS.take; split
      · simp
      · split
        · simp
        · simp only; rw [List.length_take, List.length_drop]; omega
    have h3 := h2 (r1.count bs most).2 (r1.count bs most).1
    have h4 : (r1.text bs most).1 = mp := by rw [hmp]
    unfold RS.text at h4
    rw [h4] at h3; omega
  have t1 := rdText_any w rb v bs r h most
  rw [htx] at t1
  have t2 : ∀ w1, Rd w1 rb v bs r1 → Calls Try.prog 60 #[.pointer (some ⟨rb, 0, none⟩), .int .i64 most] w1 fun e w' => e = .returned (.string ⟨mp.toArray⟩) ∧ Rd w' rb v bs r2 ∧ Fr (fun k => k = rb) w1 w' := fun w1 hr => by
    have := rdText_any w1 rb v bs r1 hr most
    rw [hmp] at this; exact this
  have t3 : ∀ w1, Rd w1 rb v bs r2 → Calls Try.prog 59 #[.pointer (some ⟨rb, 0, none⟩), .int .i64 4] w1 fun e w' => e = .returned (.int .i64 cn) ∧ Rd w' rb v bs r3 ∧ Fr (fun k => k = rb) w1 w' := fun w1 hr => by
    have := count_any w1 rb v bs r2 hr 4
    rw [hcn] at this; exact this
  have t1 : Calls Try.prog 60 #[.pointer (some ⟨rb, 0, none⟩), .int .i64 most] w fun e w' => e = .returned (.string ⟨tx.toArray⟩) ∧ Rd w' rb v bs r1 ∧ Fr (fun k => k = rb) w w' := t1
  have hrbl := lt_of_block h.blk
  have T1 := hide t1
  have T2 := hide t2
  have T3 := hide t3
  have HBT := hide hbT
  have HBS := hide hbS
  have HML := hide hmpl
  have HRBL := hide hrbl
  have HVB := hide hvb
  clear t1 t2 t3 htx hmp hcn hbN hbS hbT h hmpl hrbl hvb
  obtain ⟨TXS, hTXS⟩ : ∃ s : ByteArray, (⟨tx.toArray⟩ : ByteArray) = s := ⟨_, rfl⟩
  obtain ⟨MPS, hMPS⟩ : ∃ s : ByteArray, (⟨mp.toArray⟩ : ByteArray) = s := ⟨_, rfl⟩
  rw [hTXS] at T1
  rw [hMPS] at T2
  have HTXS := hide hTXS
  have HMPS := hide hMPS
  clear hTXS hMPS
  go_enter Try.func56, Try.ntmps56
  go_wp2_with fail
  refine T1.out.mono ?_
  rintro e w1 ⟨rfl, hr1, hf1⟩
  have T2' := hide (T2.out w1 hr1)
  have HF1 := hide hf1
  clear hr1 hf1
  go_wp2_with fail
  refine T2'.out.mono ?_
  rintro e w2 ⟨rfl, hr2, hf2⟩
  have HF2 := hide (HF1.out.trans hf2 (fun _ _ h => h))
  have HR2 := hide hr2
  obtain ⟨cv, w3, hcv, hrd, hf3⟩ := conv_bytes w2 MPS
  have hmb : MPS.data.toList = mp := by rw [← HMPS.out]
  rw [hmb] at hrd
  have hld := load_new w3 cv mp hrd HML.out
  have HLD := hide hld
  have HF3 := hide (HF2.out.trans hf3 (fun _ _ h => h.elim))
  have HR3 := hide (HR2.out.fr hf3 (fun h => h) (fun _ _ h => h))
  clear hr2 hf2 hrd hf3 hld hmb
  go_wp2_with fail
  refine HLD.out.mono ?_
  rintro e w4 ⟨hl, hf4⟩
  have hl2 : ∃ ep l a n c q, e = .returned (.tuple #[.agg #[.int .i64 ep, .slice a n c], .int .i64 q]) ∧ RD w4 a n c l ∧ (∀ p, a = some p → w3.heap.size ≤ p.block) ∧ ((loadT mp = none ∧ rightM ep l = false) ∨ (loadT mp = some (ep, l) ∧ rightM ep l = true)) := by
    rcases hl with ⟨h1, e⟩ | ⟨ep, l, a, n, c, h1, e, h2, h3⟩
    · exact ⟨0, [], none, 0, 0, 12, e, ⟨rfl, Reads.nil _ _, by decide⟩, (fun p hp => by cases hp), .inl ⟨h1, by decide⟩⟩
    · exact ⟨ep, l, a, n, c, 0, e, h2, h3, .inr ⟨h1, (load_right h1).1⟩⟩
  obtain ⟨ep, l, a, n, c, q, rfl, hrdm, hnew, hlm⟩ := hl2
  have hna : ∀ p, a = some p → p.block ≠ rb := fun p hp e => by have := hnew p hp; have := lt_of_block HR3.out.blk; omega
  have HNA := hide hna
  clear hnew hna
  have hal : Fr (fun _ => False) w4 (w4.alloc (.cells #[.int .i64 ep, .slice a n c] 30)) := Fr.alloc _ _ _
  have hM := MV.made ep hrdm
  have hr4 := (HR3.out.fr hf4 (fun h => h) (fun _ _ h => h)).fr hal (fun h => h) (fun _ _ h => h)
  obtain ⟨w5, hw5⟩ : ∃ w5, w4.alloc (.cells #[.int .i64 ep, .slice a n c] 30) = w5 := ⟨_, rfl⟩
  obtain ⟨mb, hmb⟩ : ∃ mb, w4.heap.size = mb := ⟨_, rfl⟩
  rw [hw5] at hr4 hal hM
  rw [hmb] at hM
  have hne : rb < mb := by have h1 := lt_of_block HR3.out.blk; have h2 := hf4.size; omega
  have T3' := hide (T3.out w5 hr4)
  have HF5 := hide ((HF3.out.trans hf4 (fun _ _ h => h.elim)).trans hal (fun _ _ h => h.elim))
  have HW5 := hide hw5
  have HMB := hide hmb
  have HM5 := hide hM
  have HNE := hide hne
  have HLM := hide hlm
  have hrdm5 := hrdm.fr0 hal
  have HRDM := hide hrdm5
  clear hl hf4 hal hr4 hw5 hmb hM hne hlm hrdm hrdm5
  go_upto_region 4 with fail
  rw [HW5.out, HMB.out]
  go_wp2_with fail
  refine T3'.out.mono ?_
  rintro e w6 ⟨rfl, hr6, hf6⟩
  obtain ⟨N, hN⟩ : ∃ N, w6.heap.size = N := ⟨_, rfl⟩
  have HR6 := hide hr6
  have HF6 := hide (HF5.out.trans hf6 (fun _ _ h => h))
  have HF56 := hide hf6
  have HNN := hide hN
  clear hr6 hf6 hN
  go_wp2_with fail
  go_loopw [8, 9] (fun lv i wr => ∃ (j q : Nat), i = .int .i64 q ∧ j + q = cn ∧ Hid (Rd wr rb v bs (opK bs most r3 j).1) ∧ Hid (wr.ownsRow N 26 4 lv j (rowO (opK bs most r3 j).2)) ∧ Hid (Fr (fun k => k = rb) w6 wr)) (fun _ i _ => (intOf i).toNat)
  case atStart => exact ⟨0, cn, rfl, by omega, HR6.out, World.ownsRow_nil _ _ _ _, Fr.refl _ _⟩
  case round =>
    obtain ⟨j, q', rfl, hjq, HR, HO, HF⟩ := hrel
    have hlen := opK_len bs most r3 j
    obtain ⟨⟨rj, lj⟩, hs⟩ : ∃ s, opK bs most r3 j = s := ⟨_, rfl⟩
    have hR := HR.out
    have hO := HO.out
    rw [hs] at hlen hR hO
    simp only at hlen hR hO
    obtain ⟨al, cl, hsh⟩ := own_shape hO
    subst hsh
    have HRj := hide hR
    have HOj := hide hO
    have HS := hide hs
    have HLJ := hide hlen
    clear hR hO hlen hs HR HO
    by_cases hq0 : q' = 0
    · subst hq0
      have hjc : j = cn := by omega
      subst hjc
      have hbS := HBS.out
      rw [HS.out] at hbS
      have hbT := HBT.out
      rw [HS.out] at hbT
      simp only at hbT
      have hFm := HF56.out.trans HF.out (fun _ _ h => h)
      have hrd5 := HRDM.out
      have hrdx : RD wr a n c l := ⟨hrd5.1, hrd5.2.1.fr hFm (fun a'' n'' c'' e => by cases e; exact HNA.out _ rfl), hrd5.2.2⟩
      have hbm := (hFm.block mb HM5.out.lt (fun e => by have := HNE.out; omega)).trans HM5.out.1
      have k0 : wr.cell? ⟨mb, 0, none⟩ = some (.int .i64 ep) := by rw [cell_of_block hbm]; rfl
      have k1 : wr.cell? ⟨mb, 1, none⟩ = some (.slice a n c) := by rw [cell_of_block hbm]; rfl
      have htn : tx = [] ↔ TXS = ⟨#[]⟩ := by
        rw [← HTXS.out]
        constructor
        · rintro rfl; rfl
        · intro e
          have := congrArg (fun s : ByteArray => s.data.toList) e
          simpa using this
      have hlj := HLJ.out
      have hL0 : lj = [] ↔ j = 0 := by rw [← hlj]; exact List.length_eq_zero_iff.symm
      rw [HTXS.out] at hbT
      have hcase : (bgT bs most r = none ∧ (TXS = ⟨#[]⟩ ∨ j = 0 ∨ 4 < j ∨ rightM ep l = false)) ∨ (bgT bs most r = some (newR TXS lj ep l) ∧ TXS ≠ ⟨#[]⟩ ∧ j ≠ 0 ∧ rightM ep l = true) := by
        rcases HLM.out with ⟨h1, h2⟩ | ⟨h1, h2⟩
        · left; rw [h1] at hbT; exact ⟨hbT, .inr (.inr (.inr h2))⟩
        · rw [h1] at hbT
          simp only at hbT
          by_cases h3 : TXS = ⟨#[]⟩
          · left; exact ⟨by rw [hbT, if_pos (.inl (htn.2 h3))], .inl h3⟩
          · by_cases h4 : j = 0
            · left; exact ⟨by rw [hbT, if_pos (.inr (hL0.2 h4))], .inr (.inl h4)⟩
            · right; exact ⟨by rw [hbT, if_neg (by rintro (h | h); exact h3 (htn.1 h); exact h4 (hL0.1 h))], h3, h4, h2⟩
      have hFF := HF6.out.trans HF.out (fun _ _ h => h)
      rcases hcase with ⟨hb, hc⟩ | ⟨hb, hc, hj0, hri⟩
      · have HB := hide hb
        have CN := hide (newTx_no wr TXS al j cl (by unfold maxLen; omega) ep a n c l hrdx hc)
        have HFF := hide hFF
        clear hb hc hrdx hbT hbS htn hL0 hFm hrd5 hFF hbm hlj
        go_wp2_with fail
        refine CN.out.mono ?_
        rintro e y ⟨rfl, hf⟩
        have HY := hide hf
        clear hf
        go_wp2_with fail
        exact bodyPost_ret (v := .pointer none) (by simp [results, Try.results56, go_sem]) rfl ⟨.inl ⟨HB.out, rfl⟩, HFF.out.trans HY.out (fun _ _ h => h.elim)⟩
      · have hat := opK_at bs most r3 j
        rw [HS.out] at hat
        simp only at hat
        have hrl := HRj.out.le
        have hsz : ∀ x ∈ lj, x.2.1.size ≤ maxLen := fun x hx => by have := opsW_le hx; unfold maxLen; omega
        have CN := hide (newTx_any wr TXS hc al j cl lj (Reads.of_own HOj.out) hlj hj0 (by omega) hsz ep a n c l hrdx hri)
        have HB := hide hb
        have HFF := hide hFF
        have HSS := hide hbS
        clear hb hc hrdx hbT hbS htn hL0 hFm hrd5 hFF hbm hlj hat hrl hsz hri
        go_wp2_with fail
        refine CN.out.mono ?_
        rintro e y ⟨tb, rfl, hT, hf⟩
        have HY := hide hf
        have HTT := hide hT
        clear hf hT
        go_wp2_with fail
        refine bodyPost_ret (v := .pointer (some ⟨tb, 0, none⟩)) (by simp [results, Try.results56, go_sem]) rfl ⟨.inr ⟨_, tb, wr.heap.size, HB.out, rfl, ?_, HFF.out.size, HY.out.size, HTT.out⟩, HFF.out.trans HY.out (fun _ _ h => h.elim)⟩
        rw [HSS.out]
        exact HRj.out.fr HY.out (fun h => h) (fun _ _ h => h)
    · have iq0 : (0 : Int) < (q' : Int) := by omega
      have iq1 : 0 < q' := by omega
      have iq2 : (q' : Int) - 1 = ((q' - 1 : Nat) : Int) := by omega
      obtain ⟨p, hp⟩ : ∃ p, q' - 1 = p := ⟨_, rfl⟩
      rw [hp] at iq2
      have iq3 : wrap64 ((q' : Int) - 1) = (p : Int) := by rw [iq2]; unfold wrap64; omega
      have hstep : opK bs most r3 (j + 1) = ((rdOp bs most rj).2, lj ++ [(rdOp bs most rj).1]) := by rw [opK, HS.out]
      unfold rdOp at hstep
      obtain ⟨⟨g1, ra⟩, hga⟩ : ∃ x, rj.get bs 8 = x := ⟨_, rfl⟩
      rw [hga] at hstep
      simp only at hstep
      obtain ⟨⟨ta, rb'⟩, htb⟩ : ∃ x, ra.text bs most = x := ⟨_, rfl⟩
      rw [htb] at hstep
      simp only at hstep
      obtain ⟨⟨tn, rc'⟩, htc⟩ : ∃ x, rb'.text bs most = x := ⟨_, rfl⟩
      rw [htc] at hstep
      simp only at hstep
      obtain ⟨⟨g2, rd⟩, hgd⟩ : ∃ x, rc'.get bs 8 = x := ⟨_, rfl⟩
      rw [hgd] at hstep
      simp only at hstep
      have t1 := rdEight_any wr rb v bs rj HRj.out
      rw [hga] at t1
      simp only at t1
      have t2 : ∀ w1, Rd w1 rb v bs ra → Calls Try.prog 60 #[.pointer (some ⟨rb, 0, none⟩), .int .i64 most] w1 fun e w' => e = .returned (.string ⟨ta.toArray⟩) ∧ Rd w' rb v bs rb' ∧ Fr (fun k => k = rb) w1 w' := fun w1 hr => by
        have := rdText_any w1 rb v bs ra hr most
        rw [htb] at this; exact this
      have t3 : ∀ w1, Rd w1 rb v bs rb' → Calls Try.prog 60 #[.pointer (some ⟨rb, 0, none⟩), .int .i64 most] w1 fun e w' => e = .returned (.string ⟨tn.toArray⟩) ∧ Rd w' rb v bs rc' ∧ Fr (fun k => k = rb) w1 w' := fun w1 hr => by
        have := rdText_any w1 rb v bs rb' hr most
        rw [htc] at this; exact this
      have t4 : ∀ w1, Rd w1 rb v bs rc' → Calls Try.prog 58 #[.pointer (some ⟨rb, 0, none⟩)] w1 fun e w' => e = .returned (.int .i64 (IntKind.i64.wrap (g2 : Int))) ∧ Rd w' rb v bs rd ∧ Fr (fun k => k = rb) w1 w' := fun w1 hr => by
        have := rdEight_any w1 rb v bs rc' hr
        rw [hgd] at this; exact this
      obtain ⟨K, hK⟩ : ∃ K : Int, IntKind.i64.wrap (g1 : Int) = K := ⟨_, rfl⟩
      obtain ⟨M, hM⟩ : ∃ M : Int, IntKind.i64.wrap (g2 : Int) = M := ⟨_, rfl⟩
      obtain ⟨SA, hSA⟩ : ∃ s : ByteArray, (⟨ta.toArray⟩ : ByteArray) = s := ⟨_, rfl⟩
      obtain ⟨SN, hSN⟩ : ∃ s : ByteArray, (⟨tn.toArray⟩ : ByteArray) = s := ⟨_, rfl⟩
      rw [hK] at t1 hstep
      rw [hM] at t4 hstep
      rw [hSA] at t2 hstep
      rw [hSN] at t3 hstep
      have T1 := hide t1
      have T2 := hide t2
      have T3 := hide t3
      have T4 := hide t4
      have HST := hide hstep
      have HP := hide hp
      have HFW := hide (HF6.out.trans HF.out (fun _ _ h => h))
      clear t1 t2 t3 t4 hstep hga htb htc hgd hK hM hSA hSN hp
      go_wp2_with fail
      refine T1.out.mono ?_
      rintro e y1 ⟨rfl, hr, hf⟩
      have T2' := hide (T2.out y1 hr)
      have HY1 := hide hf
      clear hr hf T1
      go_wp2_with fail
      refine T2'.out.mono ?_
      rintro e y2 ⟨rfl, hr, hf⟩
      have T3' := hide (T3.out y2 hr)
      have HY2 := hide (HY1.out.trans hf (fun _ _ h => h))
      clear hr hf T2'
      go_wp2_with fail
      refine T3'.out.mono ?_
      rintro e y3 ⟨rfl, hr, hf⟩
      have HY3 := hide (HY2.out.trans hf (fun _ _ h => h))
      obtain ⟨xb, hxb⟩ : ∃ xb, y3.heap.size = xb := ⟨_, rfl⟩
      obtain ⟨ya, hya⟩ : ∃ ya, y3.alloc (.cells #[.int .i64 K, .string SA, .string SN, .int .i64 0] 26) = ya := ⟨_, rfl⟩
      have hfa : Fr (fun _ => False) y3 ya := by rw [← hya]; exact Fr.alloc _ _ _
      have hba : ya.heap[xb]? = some (.cells #[.int .i64 K, .string SA, .string SN, .int .i64 0] 26 (0, 0)) := by rw [← hya, ← hxb]; exact block_alloc _ _
      have hrx : rb < xb := by have := lt_of_block hr.blk; omega
      have T4' := hide (T4.out ya (hr.fr hfa (fun h => h) (fun _ _ h => h)))
      have HYA := hide (HY3.out.trans hfa (fun _ _ h => h.elim))
      have HBA := hide hba
      have HYE := hide hya
      have HXB := hide hxb
      clear hr hf hfa hba hya hxb T3'
      go_upto_region 8 with fail
      rw [HYE.out, HXB.out]
      go_wp2_with fail
      refine T4'.out.mono ?_
      rintro e y4 ⟨rfl, hr, hf⟩
      have hb4 := (hf.block xb (lt_of_block HBA.out) (fun e => by omega)).trans HBA.out
      have f3 : y4.frozen? ⟨xb, 3, none⟩ = false := free_of_block hb4
      have z3 : y4.cell? ⟨xb, 3, none⟩ = some (.int .i64 0) := by rw [cell_of_block hb4]; rfl
      have hb5 : (y4.setCell ⟨xb, 3, none⟩ (.int .i64 M)).heap[xb]? = some (.cells #[.int .i64 K, .string SA, .string SN, .int .i64 M] 26 (0, 0)) := by have := block_setCell (j := 3) hb4 (.int .i64 M); simpa using this
      obtain ⟨y5, hy5⟩ : ∃ y5, y4.setCell ⟨xb, 3, none⟩ (.int .i64 M) = y5 := ⟨_, rfl⟩
      have hf5 : Fr (fun k => k = xb) y4 y5 := by rw [← hy5]; exact Fr.setCell _ _ _ rfl
      have hsz5 : y5.heap.size = y4.heap.size := by rw [← hy5]; simp [World.setCell]
      rw [hy5] at hb5
      have k0 : y5.cell? ⟨xb, 0, none⟩ = some (.int .i64 K) := by rw [cell_of_block hb5]; rfl
      have k1 : y5.cell? ⟨xb, 1, none⟩ = some (.string SA) := by rw [cell_of_block hb5]; rfl
      have k2 : y5.cell? ⟨xb, 2, none⟩ = some (.string SN) := by rw [cell_of_block hb5]; rfl
      have k3 : y5.cell? ⟨xb, 3, none⟩ = some (.int .i64 M) := by rw [cell_of_block hb5]; rfl
      have hxw : wr.heap.size ≤ xb := by have := HY3.out.size; have := HXB.out; omega
      have hvx : ∀ k, v.ownBlock = some k → k < xb := fun k hk => by have := HVB.out k hk; have := HFW.out.size; omega
      have HR5 := hide (hr.fr hf5 (fun e => by omega) (fun k hk e => by have := hvx k hk; omega))
      have hNw : N ≤ wr.heap.size := by have := HF.out.size; have := HNN.out; omega
      have hrN : rb < N := by have := lt_of_block HR6.out.blk; have := HNN.out; omega
      have HF5 := hide (((HYA.out.trans hf (fun _ _ h => h)).mono (S' := fun k => k = rb ∨ k = xb) (fun _ _ h => .inl h)).trans hf5 (fun _ _ h => .inr h))
      have HY5 := hide hy5
      clear hr hf hb4 hb5 hy5 hf5 hvx T4'
      go_upto_region 9 with fail
      rw [HY5.out]
      have hal : Fr (fun _ => False) y5 (y5.alloc (.cells #[.int .i64 K, .string SA, .string SN, .int .i64 M] 26)) := Fr.alloc _ _ _
      have ho5 := ownsRow_fr HOj.out HF5.out (fun k hk e => by
        have h1 := HOj.out.lt k hk
        rcases e with e | e <;> omega)
      have HO3 := hide (ownsRow_fr ho5 hal (fun _ _ => id))
      have HSZ5 := hide hsz5
      have HR3' := hide (show Reads (y5.alloc (.cells #[.int .i64 K, .string SA, .string SN, .int .i64 M] 26)) (.slice (some ⟨y4.heap.size, 0, none⟩) 1 1) 1 4 (oc (K, SA, SN, M)) by rw [← HSZ5.out]; have := reads_ops1 y5 (K, SA, SN, M) 26; rw [show rowO [(K, SA, SN, M)] = oc (K, SA, SN, M) by simp [rowO]] at this; exact this)
      have b1 : j + 1 ≤ maxLen := by unfold maxLen; omega
      have b2 : (j + 1) * 48 ≤ 140737488355328 := by omega
      have b3 : N ≤ (y5.alloc (.cells #[.int .i64 K, .string SA, .string SN, .int .i64 M] 26)).heap.size := by have := HF5.out.size; have := hal.size; omega
      have HAL := hide hal
      clear hal ho5 f3 z3
      go_wp2_with (at_builtin; refine wpList_append_reads _ rfl _ _ _ rfl N 26 i0 _ 4 48 Try.underlying24 hi0 hz0 hz1 hz2 sizeCOp (by decide) _ j _ rfl HO3.out _ 1 (oc (K, SA, SN, M)) rfl HR3'.out (oc_one' _) b1 b2 b3 ?_; intro v7 w7 hown7 hgrow hat; have HO7 := hide hown7; have HG7 := hide hgrow; have HAT7 := hide hat; clear hown7 hgrow hat)
      go_roundw
      case rel =>
        have hg := Fr.grown (S := fun q => (Value.slice al j cl).ownBlock = some q) HG7.out (fun q hq => hq)
        refine ⟨j + 1, p, by go_num, by have := HP.out; omega, ?_, ?_, ?_⟩
        · rw [HST.out]
          refine ((HR5.out.fr HAL.out (fun h => h) (fun _ _ h => h)).fr hg (fun e => ?_) (fun k hk e => ?_))
          · have := (HOj.out.lt rb e).1; omega
          · have := (HOj.out.lt k e).1; have := HVB.out k hk; have := HF6.out.size; have := HNN.out; omega
        · rw [HST.out]
          show w7.ownsRow N _ 4 v7 (j + 1) (rowO (lj ++ [(K, SA, SN, M)]))
          rw [row_op]; exact HO7.out
        · refine (((HF.out.mono (S' := fun k => k = rb ∨ N ≤ k) (fun _ _ h => .inl h)).trans HF5.out (fun k hk h => ?_)).trans HAL.out (fun _ _ h => h.elim)).trans hg (fun k hk h => .inr (HOj.out.lt k h).1) |>.mono (fun k hk h => ?_)
          · rcases h with h | h
            · exact .inl h
            · right; omega
          · rcases h with h | h
            · exact h
            · have := HNN.out; omega
      case measure => simp [intOf]; omega
end Go.Proofs.Ytehneddmamnmiaa
