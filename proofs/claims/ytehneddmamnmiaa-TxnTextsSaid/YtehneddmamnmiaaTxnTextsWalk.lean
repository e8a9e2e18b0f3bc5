/- TxnTexts's walk. -/
import Derived.Test.YtehneddmamnmiaaTxTexts
import Derived.Test.YtehneddmamnmiaaTxKnown2
import Derived.Test.YtehneddmamnmiaaSameInt
import Derived.Deep.CutBlock
import Derived.Deep.CutRange
namespace Go.Proofs.Ytehneddmamnmiaa.TxnTexts
open Go.RowKit Go.Maps Go.Cv Go.Shelf
set_option linter.unusedVariables false

theorem infoOp : (Try.prog.info? 26).map (fun i => (i.zero, i.size, i.bytes)) = some (some (Value.agg #[.int .i64 0, .string ⟨#[]⟩, .string ⟨#[]⟩, .int .i64 0]), 4, 48) := infoCOp
theorem oc_one (x : O4) : ∀ u ∈ oc x, u.oneCell' = true := by intro u hu; simp [oc] at hu; rcases hu with rfl | rfl | rfl | rfl <;> rfl
theorem row_ops (l : List ByteArray) (x : ByteArray) : rowO ((l ++ [x]).map rdO) = rowO (l.map rdO) ++ oc (rdO x) := by simp [rowO]
theorem newP_r (r : Int) (h0 : 0 ≤ r) (h1 : r ≤ 2) : rightM 1 (newP (1 + r) (1 + r).toNat) = true := by
  obtain ⟨k, hk⟩ : ∃ k : Nat, 1 + r = (k : Int) := ⟨(1 + r).toNat, by omega⟩
  rw [hk, Int.toNat_natCast]; exact newP_right k (by omega)

/-- The state of the great loop. -/
structure J (X : Nat → Prop) (b0 tb : Nat) (S : List (Int × List Int)) (ops : List O4) (k : Nat) (w5 wr : World) (r : TxR) (i : Nat) : Prop where
  t : TX wr X b0 tb r
  v : VT r S ops k i
  fr : Fr (Own X b0) w5 wr
theorem J.fr0 {X : Nat → Prop} {b0 tb : Nat} {S : List (Int × List Int)} {ops : List O4} {k : Nat} {w5 wr wx : World} {r : TxR} {i : Nat} (h : J X b0 tb S ops k w5 wr r i) (g : Fr (fun _ => False) wr wx) : J X b0 tb S ops k w5 wx r i :=
  ⟨h.t.fr0 g, h.v, h.fr.trans g (fun _ _ h => h.elim)⟩

set_option maxRecDepth 100000 in
set_option maxHeartbeats 6400000 in
theorem walk (w : World) (v1 : Value) (l1 : List ByteArray) (h1 : Reads w v1 l1.length 1 (l1.flatMap fun s => [.string s])) (hg1 : ∀ x ∈ l1, x.size ≤ maxLen) (hl1 : l1.length ≤ maxLen)
    (a1 : Int) (wf1 : (Lit.int .i64 a1).wf = true) (a2 : Int) (wf2 : (Lit.int .i64 a2).wf = true) :
    Calls Try.prog 4 #[v1, .int .i64 a1, .int .i64 a2] w fun e w' => e = .returned (.bool true) ∧ Below w.heap.size w w' := by
  obtain ⟨n1, hn1⟩ : ∃ n, l1.length = n := ⟨_, rfl⟩
  rw [hn1] at h1 hl1
  rw [flat_one] at h1
  obtain ⟨-, s1, k1, rfl, -, -, hc1⟩ := id h1
  unfold maxLen at hl1
  have hn19 : (n1 : Int) ≤ 9223372036854775807 := by omega
  obtain ⟨i0, hi0, hz0, hz1, hz2⟩ := info_parts infoOp
  obtain ⟨N, hN⟩ : ∃ N, w.heap.size = N := ⟨_, rfl⟩
  have H1 := hide h1
  have HC1 := hide hc1
  have HN1 := hide hn1
  have HN := hide hN
  have HG1 := hide hg1
  clear h1 hn1 hl1 hg1 hN hc1 wf1 wf2
  go_enter Try.func4, Try.ntmps4
  go_upto_block 0 with fail
  go_cut [7, 8] from 22 to 39 (fun v5 i wx => wx.ownsRow N 26 4 v5 (min n1 4) (rowO ((l1.take 4).map rdO)) ∧ Fr (fun _ => False) w wx)
  case first =>
    go_wp2_with fail
    go_loopw [7, 8] (fun v5 i wr => ∃ k : Nat, i = .int .i64 k ∧ k ≤ n1 ∧ k ≤ 4 ∧ wr.ownsRow N 26 4 v5 k (rowO ((l1.take k).map rdO)) ∧ Fr (fun _ => False) w wr) (fun _ i _ => 4 - (intOf i).toNat)
    case atStart => exact ⟨0, rfl, Nat.zero_le _, by omega, World.ownsRow_nil _ _ _ _, Fr.refl _ _⟩
    case round =>
      obtain ⟨k, rfl, hk, hk4, hown, hf⟩ := hrel
      obtain ⟨a5, c5, rfl⟩ := own_shape hown
      have HO := hide hown
      have HF := hide hf
      clear hown hf
      by_cases hgo : k < n1 ∧ k < 4
      · obtain ⟨g1, g2⟩ := hgo
        obtain ⟨x, hx⟩ : ∃ x, l1[k]? = some x := ⟨_, List.getElem?_eq_getElem (by have := HN1.out; omega)⟩
        obtain ⟨b0, o0, rfl, e0⟩ := HC1.out k (.string x) (by rw [List.getElem?_map, hx]; rfl)
        have e0 : wr.cell? ⟨b0, o0 + k, none⟩ = some (.string x) := by
          rw [World.cell?_of_block (w := w) (HF.out.block b0 (World.block_lt_of_cell? w _ e0) id)]; exact e0
        have ik0 : (0 : Int) ≤ (k : Int) := by omega
        have ik1 : (k : Int) < (n1 : Int) := by omega
        have ik2 : (k : Int) < 4 := by omega
        have htk : (l1.take (k + 1)).map rdO = (l1.take k ++ [x]).map rdO := by rw [List.take_add_one, hx]; rfl
        have HTK := hide htk
        clear hx htk
        go_wp2_with fail
        refine (keepRead_any _ x).mono ?_
        rintro e w2 ⟨rfl, hf2⟩
        have HF2 := hide (HF.out.trans hf2 (fun _ _ h => h))
        have HO2 := hide (ownsRow_fr HO.out hf2 (fun _ _ => id))
        clear hf2
        have b1 : k + 1 ≤ maxLen := by unfold maxLen; omega
        have b2 : (k + 1) * 48 ≤ 140737488355328 := by omega
        have hal : Fr (fun _ => False) w2 (w2.alloc (.cells #[.int .i64 5, .string x, .string ⟨#[]⟩, .int .i64 0] 26)) := Fr.alloc _ _ _
        have HO3 := hide (ownsRow_fr HO2.out hal (fun _ _ => id))
        have HR3 := hide (show Reads (w2.alloc (.cells #[.int .i64 5, .string x, .string ⟨#[]⟩, .int .i64 0] 26)) (.slice (some ⟨w2.heap.size, 0, none⟩) 1 1) 1 4 (oc (rdO x)) by have := reads_ops1 w2 (rdO x) 26; rw [show rowO [rdO x] = oc (rdO x) by simp [rowO]] at this; exact this)
        have HF3 := hide (HF2.out.trans hal (fun _ _ h => h))
        have b3 : N ≤ (w2.alloc (.cells #[.int .i64 5, .string x, .string ⟨#[]⟩, .int .i64 0] 26)).heap.size := by have := HF3.out.size; have := HN.out; omega
        clear hal
        go_wp2_with (at_builtin; refine wpList_append_reads _ rfl _ _ _ rfl N 26 i0 _ 4 48 Try.underlying24 hi0 hz0 hz1 hz2 sizeCOp (by decide) _ k _ rfl HO3.out _ 1 (oc (rdO x)) rfl HR3.out (oc_one _) b1 b2 b3 ?_; intro v3 w3 hown3 hgrow hat; have HO4 := hide hown3; have HG4 := hide hgrow; clear hown3 hgrow hat)
        go_roundw
        case rel =>
          refine ⟨k + 1, by go_num, by omega, by omega, by rw [HTK.out, row_ops]; exact HO4.out, ?_⟩
          refine HF3.out.trans (Fr.grown (S := fun k => N ≤ k) HG4.out (fun q hq => (HO3.out.lt q hq).1)) (fun q hq hN => by have := HN.out; omega)
        case measure => simp [intOf]; omega
      · have hcc : ((k : Int) < (n1 : Int) ∧ ¬ (k : Int) < 4) ∨ ¬ (k : Int) < (n1 : Int) := by omega
        have hmn : k = min n1 4 := by omega
        have htk : l1.take k = l1.take 4 := by
          rcases Nat.le_total 4 n1 with h | h
          · rw [show k = 4 by omega]
          · rw [List.take_of_length_le (by have := HN1.out; omega), List.take_of_length_le (by have := HN1.out; omega)]
        have T0 := hide (show wr.ownsRow N 26 4 (.slice a5 k c5) (min n1 4) (rowO ((l1.take 4).map rdO)) by rw [← hmn, ← htk]; exact HO.out)
        clear hgo hmn htk
        rcases hcc with ⟨ik1, ik2⟩ | ik1
        all_goals
          go_wp2_with fail
          go_meet
          case rel => exact ⟨T0.out, HF.out⟩
  case rest =>
    obtain ⟨hown, hf⟩ := hcut
    obtain ⟨m, hm⟩ : ∃ m, min n1 4 = m := ⟨_, rfl⟩
    have hol : ((l1.take 4).map rdO).length = m := by rw [List.length_map, List.length_take, HN1.out]; omega
    have hm4 : m ≤ 4 := by omega
    have hosz : ∀ x ∈ (l1.take 4).map rdO, x.2.1.size ≤ maxLen := by
      intro x hx
      obtain ⟨s, hs, rfl⟩ := List.mem_map.1 hx
      exact HG1.out s (List.mem_of_mem_take hs)
    rw [hm] at hown
    obtain ⟨a5, c5, rfl⟩ := own_shape hown
    have HO := hide (Reads.of_own hown)
    have HF := hide hf
    have HOL := hide hol
    have HSZ := hide hosz
    clear hown hf hol hosz hm
    go_upto_if 42 with fail
    go_cut [7] from 43 to 44 (fun v wx => ∃ (ops : List O4) (a : Option Addr) (n c : Nat), v = .slice a n c ∧ ops.length = n ∧ 0 < n ∧ n ≤ 4 ∧ Reads wx v n 4 (rowO ops) ∧ (∀ x ∈ ops, x.2.1.size ≤ maxLen) ∧ Fr (fun _ => False) w wx)
    case first =>
      by_cases hm0 : m = 0
      · subst hm0
        go_wp2_with fail
        refine (keepRead_any _ ⟨#[97]⟩).mono ?_
        rintro e w2 ⟨rfl, hf2⟩
        have hrd := reads_ops1 w2 (rdO ⟨#[97]⟩) 26
        have hfin : Fr (fun _ => False) w (w2.alloc (.cells (oc (rdO ⟨#[97]⟩)).toArray 26)) := (HF.out.trans hf2 (fun _ _ h => h)).trans (Fr.alloc (fun _ => False) _ _) (fun _ _ h => h)
        have HRD := hide hrd
        have HFIN := hide hfin
        clear hf2 hrd hfin
        go_wp2_with fail
        go_meet
        case rel => exact ⟨[rdO ⟨#[97]⟩], _, 1, 1, rfl, rfl, by decide, by decide, HRD.out, by intro x hx; simp at hx; subst hx; unfold maxLen rdO; decide, HFIN.out⟩
      · have im0 : ((m : Int) == 0) = false := by simp; omega
        go_wp2_with fail
        go_meet
        case rel => exact ⟨_, a5, m, c5, rfl, HOL.out, by omega, hm4, HO.out, HSZ.out, HF.out⟩
    case rest =>
      obtain ⟨ops, a7, m, c7, rfl, hol, hm0, hm4, hrd, hsz, hfr⟩ := hcut
      have HOL2 := hide hol
      have HRD := hide hrd
      have HSZ2 := hide hsz
      have HFR := hide hfr
      clear hol hrd hsz hfr HO HF HOL HSZ
      have im0 : ((m : Int) == 0) = false := by simp; omega
      go_wp2_with fail
      refine (within_ex wc a2 0 2 (by omega) (by omega) (by omega)).mono ?_
      rintro e w0 ⟨r, rfl, hr1, hr2, rfl⟩
      go_wp2_with fail
      refine (newM wc (1 + r) (by omega)).mono ?_
      rintro e w1 ⟨a, mm, c, rfl, hd1, hf1⟩
      have hp1 := newP_r r hr1 hr2
      obtain ⟨l, hl⟩ : ∃ l, newP (1 + r) (1 + r).toNat = l := ⟨_, rfl⟩
      rw [hl] at hd1 hp1
      have M1 := MV.made 1 hd1
      have hf2 : Fr (fun _ => False) w1 _ := Fr.alloc (fun _ => False) w1 (.cells #[.int .i64 1, .slice a mm c] 30)
      obtain ⟨w2, hw2⟩ : ∃ w2, w1.alloc (.cells #[.int .i64 1, .slice a mm c] 30) = w2 := ⟨_, rfl⟩
      obtain ⟨pb, hb1⟩ : ∃ b, w1.heap.size = b := ⟨_, rfl⟩
      rw [hw2, hb1] at M1
      rw [hw2] at hf2
      have HM1 := hide M1
      have HP1 := hide hp1
      have F2 := hide ((HFR.out.trans hf1 (fun _ _ h => h)).trans hf2 (fun _ _ h => h))
      have HO2 := hide (reads_old HRD.out (hf1.trans hf2 (fun _ _ h => h)) (fun _ _ => id))
      have HW2 := hide hw2
      have HB1 := hide hb1
      clear hd1 hp1 M1 hf1 hf2 hw2 hb1 hl
      go_upto_region 9 with fail
      rw [HW2.out, HB1.out]
      have c0 := HM1.out.c0
      have c1 := HM1.out.c1
      go_wp2_with fail
      refine (newTx_any w2 ⟨#[116, 120]⟩ (by intro e; cases e) a7 m c7 ops HO2.out HOL2.out (by omega) hm4 HSZ2.out 1 a mm c _ HM1.out.2 HP1.out).mono ?_
      rintro e w3 ⟨tb, rfl, ht3, hf3⟩
      have hM3 := HM1.out.fr0 hf3
      have hSP := split_any w3 1 a mm c _ hM3.2 HP1.out a7 m c7 ops (reads_old HO2.out hf3 (fun _ _ => id)) HOL2.out (by omega) HSZ2.out
      have HT3 := hide ht3
      have HF3 := hide hf3
      have HSP := hide hSP
      have d0 := hM3.c0
      have d1 := hM3.c1
      clear ht3 hf3 hM3 hSP c0 c1
      go_wp2_with fail
      refine HSP.out.mono ?_
      rintro e w4 ⟨vg, va, us, rfl, hsp, hf4⟩
      have hall : ∀ k, k < ops.length → 0 ≤ ownAt l ops k ∧ ownAt l ops k < 3 := fun k hk => ownAt_lt HP1.out ops hk
      have hS0 : splitG (ownAt l ops) ops.length 3 ≠ [] := by
        intro e
        obtain ⟨x, hx, _⟩ := split_all hall (p := 0) (by rw [HOL2.out]; exact hm0)
        rw [e] at hx; cases hx
      have hst : ∀ k, VT (newR ⟨#[116, 120]⟩ ops 1 l) (splitG (ownAt l ops) ops.length 3) ops k 0 := fun k => VT.start _ _ _ _ (by rw [HOL2.out]; exact hm4) k hS0
      rw [HOL2.out] at hst hS0
      have hfinal : ∀ (r : TxR) (k : Nat), VT r (splitG (ownAt l ops) m 3) ops k (splitG (ownAt l ops) m 3).length → r.o = 1 ∧ (textsR r).length = m ∧ ∀ p, p < m → (textsR r)[p]? = some (txt p) := fun r k hv => by
        have h1 := VT.texts (r := r) (ops := ops) (h := ownAt l ops) (k := k) (by rw [HOL2.out]; exact hv) hall
        rw [HOL2.out] at h1; exact h1
      obtain ⟨S, hS⟩ : ∃ S, splitG (ownAt l ops) m 3 = S := ⟨_, rfl⟩
      have hSl := splitG_len (ownAt l ops) m 3
      rw [hS] at hsp hSl hst hS0 hfinal
      have hgg := hsp.g
      have hga := hsp.a
      obtain ⟨nS, hnS⟩ : ∃ nS, S.length = nS := ⟨_, rfl⟩
      have hnS0 : 0 < nS := by rw [← hnS]; exact List.length_pos_iff.2 hS0
      rw [hnS] at hgg hga hSl
      obtain ⟨ag, cg, rfl⟩ := own_shape hgg
      obtain ⟨aa, ca, rfl⟩ := own_shape hga
      have HSP4 := hide hsp
      have HF4 := hide hf4
      have HNS := hide hnS
      have HST := hide hst
      have HFINAL := hide hfinal
      obtain ⟨b0, hb0⟩ : ∃ b0, w2.heap.size = b0 := ⟨_, rfl⟩
      obtain ⟨X, hX⟩ : ∃ X : Nat → Prop, (fun k => k < b0 ∨ (w3.heap.size ≤ k ∧ k < w4.heap.size)) = X := ⟨_, rfl⟩
      have hT4 : TX w4 X b0 tb (newR ⟨#[116, 120]⟩ ops 1 l) := by
        have h1 := HT3.out
        rw [hb0] at h1
        have h2 := h1.more hf4
        rw [hX] at h2; exact h2
      have hXS : ∀ k, OB (.slice ag nS cg) (.slice aa nS ca) us k → X k := by
        intro k hk
        have := hsp.lt k hk
        rw [← hX]; exact .inr this
      have HT4 := hide hT4
      have HXS := hide hXS
      have HNB := hide (show N ≤ b0 by have := F2.out.size; have := HN.out; omega)
      have HB04 := hide (show b0 ≤ w4.heap.size by have := HF3.out.size; have := hf4.size; omega)
      have HFW4 := hide (((F2.out.trans HF3.out (fun _ _ h => h)).trans hf4 (fun _ _ h => h) : Fr (fun _ => False) w w4))
      clear hgg hga hsp hf4 hS hnS d0 d1 hst hfinal hX hb0 hT4 hXS hall hS0
      go_wp2_with fail
      refine (within_ex w4 a1 0 ((nS : Int) - 1) (by omega) (by omega) (by omega)).mono ?_
      rintro e w8 ⟨K, rfl, hK1, hK2, rfl⟩
      obtain ⟨Kn, rfl⟩ : ∃ Kn : Nat, K = (Kn : Int) := ⟨K.toNat, by omega⟩
      have HJ0 := hide (⟨HT4.out, HST.out Kn, Fr.refl _ _⟩ : J X b0 tb S ops Kn w4 w4 _ 0)
      -- the groups' and places' cells, at whatever world comes
      have hcell : ∃ bg og ba oa, ag = some ⟨bg, og, none⟩ ∧ aa = some ⟨ba, oa, none⟩ ∧ ∀ (n : Nat) (z : Int × List Int), S[n]? = some z → ∀ wx, Fr (Own X b0) w4 wx → ∃ ap cp, wx.cell? ⟨bg, og + n, none⟩ = some (.int .i64 z.1) ∧ wx.cell? ⟨ba, oa + n, none⟩ = some (.slice ap z.2.length cp) ∧ Reads wx (.slice ap z.2.length cp) z.2.length 1 (ints z.2) := by
        obtain ⟨z0, hz0'⟩ : ∃ z, S[0]? = some z := ⟨_, List.getElem?_eq_getElem (by rw [HNS.out]; exact hnS0)⟩
        obtain ⟨-, ag2, cg2, eg, -, -, hcg⟩ := Reads.of_own HSP4.out.g
        injection eg with e1 e2 e3
        subst e1 e3
        obtain ⟨bg, og, rfl, -⟩ := hcg 0 (.int .i64 z0.1) (by rw [List.getElem?_map, hz0']; rfl)
        obtain ⟨pv0, hpv0⟩ : ∃ pv, us[0]? = some pv := ⟨_, List.getElem?_eq_getElem (by have := HSP4.out.len; have := HNS.out; omega)⟩
        obtain ⟨-, aa2, ca2, ea, -, -, hca⟩ := Reads.of_own HSP4.out.a
        injection ea with e1 e2 e3
        subst e1 e3
        obtain ⟨ba, oa, rfl, -⟩ := hca 0 pv0 hpv0
        refine ⟨bg, og, ba, oa, rfl, rfl, fun n z hz wx hx => ?_⟩
        have hsp : SP wx _ _ _ S us := HSP4.out.fr hx (fun k hk h => h.2 (HXS.out k hk))
        obtain ⟨-, ag3, cg3, eg3, -, -, hcg3⟩ := Reads.of_own hsp.g
        injection eg3 with e1 e2 e3
        subst e1
        obtain ⟨bg3, og3, e4, hcg9⟩ := hcg3 n (.int .i64 z.1) (by rw [List.getElem?_map, hz]; rfl)
        cases e4
        obtain ⟨pv, hpv⟩ : ∃ pv, us[n]? = some pv := ⟨_, List.getElem?_eq_getElem (by have := hsp.len; have := (List.getElem?_eq_some_iff.1 hz).1; omega)⟩
        obtain ⟨-, aa3, ca3, ea3, -, -, hca3⟩ := Reads.of_own hsp.a
        injection ea3 with e1 e2 e3
        subst e1
        obtain ⟨ba3, oa3, e4, hca9⟩ := hca3 n pv hpv
        cases e4
        obtain ⟨hrd, -⟩ := hsp.rd n z pv hz hpv
        obtain ⟨-, ap, cp, rfl, -⟩ := id hrd
        exact ⟨ap, cp, hcg9, hca9, hrd⟩
      obtain ⟨bg, og, ba, oa, rfl, rfl, hcell⟩ := hcell
      have HCE := hide hcell
      clear hcell
      go_wp2_with fail
      go_loopw [16] (fun ii wr => ∃ (i : Nat) (r : TxR), ii = .int .i64 i ∧ i ≤ nS ∧ J X b0 tb S ops Kn w4 wr r i) (fun ii _ => nS - (intOf ii).toNat)
      case atStart => exact ⟨0, _, rfl, Nat.zero_le _, HJ0.out⟩
      case round =>
        obtain ⟨i, r, rfl, hi, hj⟩ := hrel
        have HJr := hide hj
        clear hj
        by_cases hlt : i < nS
        · have in1 : (i : Int) < (nS : Int) := by omega
          obtain ⟨nI, hnI⟩ : ∃ nI, (i + Kn) % nS = nI := ⟨_, rfl⟩
          have hnIl : nI < nS := by rw [← hnI]; exact Nat.mod_lt _ hnS0
          have hrem : ((i : Int) + (Kn : Int)) % (nS : Int) = (nI : Int) := by rw [← hnI]; push_cast; rfl
          have hrem2 : ((i : Int) + (Kn : Int)).tmod (nS : Int) = (nI : Int) := by rw [Int.tmod_eq_emod_of_nonneg (by omega)]; exact hrem
          obtain ⟨z, hz⟩ : ∃ z, S[nI]? = some z := ⟨_, List.getElem?_eq_getElem (by rw [HNS.out]; exact hnIl)⟩
          obtain ⟨ap, cp, gc, ac, hrd⟩ := HCE.out nI z hz wr HJr.out.fr
          obtain ⟨gg, ats⟩ := z
          have hzm : (gg, ats) ∈ r.S := by rw [HJr.out.v.hS]; exact List.mem_of_getElem? hz
          have hgg : gg ∈ grp r := List.mem_map_of_mem (f := (·.1)) hzm
          have hg3 := HJr.out.v.good.gr gg hgg
          have hpn : ats.length ≤ 4 := HJr.out.v.good.pn _ hzm
          have hpl : ∀ a ∈ ats, 0 ≤ a ∧ a < 4 := fun a ha => by have := HJr.out.v.good.pl _ hzm a ha; have := HJr.out.v.good.len; omega
          obtain ⟨na, hna⟩ : ∃ na, ats.length = na := ⟨_, rfl⟩
          have gc : wr.cell? ⟨bg, og + nI, none⟩ = some (.int .i64 gg) := gc
          have ac : wr.cell? ⟨ba, oa + nI, none⟩ = some (.slice ap ats.length cp) := ac
          have hrd : Reads wr (.slice ap ats.length cp) ats.length 1 (ints ats) := hrd
          rw [hna] at ac hrd hpn
          have iI0 : (0 : Int) ≤ (nI : Int) := by omega
          have iI1 : (nI : Int) < (nS : Int) := by omega
          have HZ2 := hide (show S[(i + Kn) % nS]? = some (gg, ats) by rw [hnI]; exact hz)
          have hlt' := hlt
          have HGW := hide (wf_small hg3)
          have HPL := hide hpl
          have HNA := hide hna
          have HRDA := hide hrd
          have HAC := hide ac
          have HGC := hide gc
          clear hz hzm hgg hg3 hpl hna hrd gc ac hnI
          obtain ⟨i1, hi1, hy0, hy1, hy2⟩ := info_parts infoCStr
          obtain ⟨N2, hN2⟩ : ∃ N2, wr.heap.size = N2 := ⟨_, rfl⟩
          have HN2 := hide hN2
          clear hN2
          go_wp2_with fail
          go_loopw [18, 19] (fun v18 ii wx => ∃ q : Nat, ii = .int .i64 q ∧ q ≤ na ∧ wx.ownsRow N2 9 1 v18 q (((ats.take q).map txt).map .string) ∧ Fr (fun _ => False) wr wx) (fun _ ii _ => na - (intOf ii).toNat)
          case atStart => exact ⟨0, rfl, Nat.zero_le _, World.ownsRow_nil _ _ _ _, Fr.refl _ _⟩
          case round =>
            rename_i wro _
            obtain ⟨q, rfl, hq, hown, hf⟩ := hrel
            obtain ⟨a18, c18, rfl⟩ := own_shape hown
            have HO := hide hown
            have HFq := hide hf
            clear hown hf
            have ac := cell_fr0 HFq.out HAC.out
            by_cases hlt2 : q < na
            · have iq0 : (0 : Int) ≤ (q : Int) := by omega
              have iq1 : (q : Int) < (na : Int) := by omega
              obtain ⟨a, ha⟩ : ∃ a, ats[q]? = some a := ⟨_, List.getElem?_eq_getElem (by rw [HNA.out]; exact hlt2)⟩
              obtain ⟨ha0, ha4⟩ := HPL.out a (List.mem_of_getElem? ha)
              obtain ⟨aN, rfl⟩ : ∃ aN : Nat, a = (aN : Int) := ⟨a.toNat, by omega⟩
              obtain ⟨-, ap2, cp2, e, -, -, hcp⟩ := HRDA.out
              injection e with e1 e2 e3
              subst e1
              obtain ⟨bp, op, rfl, hcp9⟩ := hcp q (.int .i64 aN) (by unfold ints; rw [List.getElem?_map, ha]; rfl)
              have pc := cell_fr0 HFq.out hcp9
              have h32 := conv_32 aN (by omega)
              have hru := conv_rune aN (by omega)
              have htk : ((ats.take (q + 1)).map txt).map Value.string = ((ats.take q).map txt).map Value.string ++ [.string (txt aN)] := by rw [List.take_add_one, ha]; simp
              obtain ⟨rs, hrs⟩ : ∃ rs : ByteArray, (⟨#[UInt8.ofNat (48 + aN)]⟩ : ByteArray) = rs := ⟨_, rfl⟩
              rw [hrs] at hru
              have hrz : rs.size ≤ 1 := by rw [← hrs]; exact Nat.le_refl _
              have htx : txt aN = (⟨#[116, 101, 120, 116, 32]⟩ : ByteArray) ++ rs := by rw [← hrs]; rfl
              rw [htx] at htk
              have HTK := hide htk
              clear ha hcp hcp9 e2 e3 htk hrs htx
              have b1 : q + 1 ≤ maxLen := by unfold maxLen; omega
              have b2 : (q + 1) * 16 ≤ 140737488355328 := by omega
              have hal : ∀ t : ByteArray, Fr (fun _ => False) wr (wr.alloc (.cells #[.string t] 9)) := fun t => Fr.alloc _ _ _
              have HO3 := hide (fun t => ownsRow_fr HO.out (hal t) (fun _ _ => id))
              have HR3 := hide (fun t => (Reads.built wr [.string t] 9 : Reads (wr.alloc (.cells #[.string t] 9)) (.slice (some ⟨wr.heap.size, 0, none⟩) 1 1) 1 1 [.string t]))
              have b3 : ∀ t : ByteArray, N2 ≤ (wr.alloc (.cells #[.string t] 9)).heap.size := fun t => by have := (HFq.out.trans (hal t) (fun _ _ h => h)).size; have := HN2.out; omega
              have HB3 := hide b3
              clear hal b3
              go_wp2_with (at_builtin; refine wpList_append_reads _ rfl _ _ _ rfl N2 9 i1 _ 1 16 Try.underlying22 hi1 hy0 hy1 hy2 sizeCStr (by decide) _ q _ rfl (HO3.out ((⟨#[116, 101, 120, 116, 32]⟩ : ByteArray) ++ rs)) _ 1 [.string ((⟨#[116, 101, 120, 116, 32]⟩ : ByteArray) ++ rs)] rfl (HR3.out ((⟨#[116, 101, 120, 116, 32]⟩ : ByteArray) ++ rs)) (by intro u hu; simp at hu; subst hu; rfl) b1 b2 (HB3.out ((⟨#[116, 101, 120, 116, 32]⟩ : ByteArray) ++ rs)) ?_; intro v3 w3 hown3 hgrow hat; have HO4 := hide hown3; have HG4 := hide hgrow; clear hown3 hgrow hat)
              go_roundw
              case rel =>
                refine ⟨q + 1, by go_num, by omega, by rw [HTK.out]; exact HO4.out, ?_⟩
                refine (HFq.out.trans (Fr.alloc (fun _ => False) _ _) (fun _ _ h => h)).trans (Fr.grown (S := fun k => N2 ≤ k) HG4.out (fun b hb => ((HO3.out ((⟨#[116, 101, 120, 116, 32]⟩ : ByteArray) ++ rs)).lt b hb).1)) (fun b hb hN => by have := HN2.out; omega)
              case measure => simp [intOf]; omega
            · have iq1 : ¬ (q : Int) < (na : Int) := by omega
              have : q = na := by omega
              subst this
              have hats : ((ats.take q).map txt) = ats.map txt := by rw [List.take_of_length_le (by rw [HNA.out]; exact Nat.le_refl _)]
              have hj := HJr.out.fr0 HFq.out
              have hv := HJr.out.v
              have ho : r.o = 0 := by rw [hv.o, if_neg (by have := HNS.out; omega)]
              have hpos := hv.pos
              have hwhy := hv.why
              have hte : textsR r = [] := by unfold textsR; rw [if_neg (by rw [ho]; decide)]
              have hout := outcome_any wr X b0 tb r hj.t
              have hrep := reply_any wr X b0 tb r hj.t hv.good.ok
              rw [ho] at hout hrep
              rw [hpos, hwhy, hte] at hrep
              have HJq := hide hj
              have HOUT := hide hout
              have HREP := hide hrep
              have HATS := hide hats
              clear ho hpos hwhy hte hout hrep hj hv hats
              go_wp2_with fail
              refine HOUT.out.mono ?_
              rintro e w6 ⟨rfl, rfl⟩
              go_wp2_with fail
              refine HREP.out.mono ?_
              rintro e w7 ⟨ar, nr, cr, rfl, hr7, hf7, -⟩
              have HF7 := hide hf7
              go_wp2_with fail
              refine (keepReply_any w7 0 0 0 ar nr cr [] hr7 0 0 0 none 0 0 [] (Reads.nil _ _) (by decide)).mono ?_
              rintro e w8 ⟨rfl, hf8⟩
              have hj8 := HJq.out.fr0 (hf7.trans hf8 (fun _ _ h => h))
              have hrt := reads_old (Reads.of_own HO.out) (hf7.trans hf8 (fun _ _ h => h)) (fun _ _ => id)
              rw [HATS.out] at hrt
              have gc := cell_fr0 ((HFq.out.trans hf7 (fun _ _ h => h)).trans hf8 (fun _ _ h => h)) HGC.out
              have hlt : (ats.map txt).length = q := by rw [List.length_map]; exact HNA.out
              have hvote := vote_any w8 X b0 tb r hj8.t hj8.v.good.sl (Nat.le_trans hj8.v.good.vlen (by decide)) (Nat.le_trans HB04.out hj8.fr.size) gg HGW.out true _ (ats.map txt) (by rw [hlt]; exact hrt) (by rw [hlt]; omega) 0 0
              have HVOTE := hide hvote
              have HJ8 := hide hj8
              clear hr7 hf7 hf8 hj8 hrt hvote hlt ac
              go_wp2_with fail
              refine HVOTE.out.mono ?_
              rintro e w9 ⟨rfl, ht9, hf9⟩
              have hj9 : J X b0 tb S ops Kn w4 w9 _ (i + 1) := ⟨ht9, by
                have h1 := HJ8.out.v.next (z := (gg, ats)) (by rw [HNS.out]; exact hlt') (by rw [HNS.out]; exact HZ2.out)
                exact h1, HJ8.out.fr.trans hf9 (fun _ _ h => h)⟩
              have HJ9 := hide hj9
              clear ht9 hf9 hj9
              go_wp2_with fail
              go_roundw
              case rel => exact ⟨i + 1, _, by go_num, by omega, HJ9.out⟩
              case measure => simp [intOf]; omega
        · have in1 : ¬ (i : Int) < (nS : Int) := by omega
          have : i = nS := by omega
          subst this
          obtain ⟨ho, htl, htx⟩ := HFINAL.out r Kn (by rw [HNS.out]; exact HJr.out.v)
          have hpos := HJr.out.v.pos
          have hwhy := HJr.out.v.why
          have hrep := reply_any wr X b0 tb r HJr.out.t HJr.out.v.good.ok
          rw [ho, hpos, hwhy] at hrep
          obtain ⟨T, hT⟩ : ∃ T, textsR r = T := ⟨_, rfl⟩
          rw [hT] at hrep htl htx
          have HREP := hide hrep
          have HTX := hide htx
          have HTL := hide htl
          clear hrep htx ho hpos hwhy hT htl
          go_wp2_with fail
          refine HREP.out.mono ?_
          rintro e w6 ⟨ar, nr, cr, rfl, hr6, hf6, -⟩
          rw [HTL.out] at hr6
          obtain ⟨-, ar2, cr2, e, -, -, hcr⟩ := id hr6
          injection e with e1 e2 e3
          subst e1 e3
          obtain rfl : m = nr := e2.symm
          obtain ⟨w7, hw7⟩ : ∃ w7, w6.alloc (.cells #[.int .i64 1, .slice ar m cr, .int .i64 0, .int .i64 0] 44) = w7 := ⟨_, rfl⟩
          obtain ⟨qb, hqb⟩ : ∃ qb, w6.heap.size = qb := ⟨_, rfl⟩
          have hf7 : Fr (fun _ => False) w6 w7 := by rw [← hw7]; exact Fr.alloc _ _ _
          have hb7 : w7.heap[qb]? = some (.cells #[.int .i64 1, .slice ar m cr, .int .i64 0, .int .i64 0] 44 (0, 0)) := by rw [← hw7, ← hqb]; exact block_alloc _ _
          have q0 : w7.cell? ⟨qb, 0, none⟩ = some (.int .i64 1) := by rw [cell_of_block hb7]; rfl
          have q1 : w7.cell? ⟨qb, 1, none⟩ = some (.slice ar m cr) := by rw [cell_of_block hb7]; rfl
          have HC7 := hide (show ∀ (j : Nat) u, (T.map Value.string)[j]? = some u → ∃ b off, ar = some ⟨b, off, none⟩ ∧ w7.cell? ⟨b, off + j, none⟩ = some u from fun j u hu => by
            obtain ⟨b, off, e, h⟩ := hcr j u hu
            exact ⟨b, off, e, cell_fr0 hf7 h⟩)
          have HF7 := hide (hf6.trans hf7 (fun _ _ h => h))
          have HW7 := hide hw7
          have HQB := hide hqb
          clear hr6 hf6 hw7 hqb hf7 hb7 hcr
          go_upto_region 27 with fail
          rw [HW7.out, HQB.out]
          go_wp2_with fail
          go_loopw [21] (fun ii wx => ∃ p : Nat, ii = .int .i64 p ∧ p ≤ m ∧ wx = w7) (fun ii _ => m - (intOf ii).toNat)
          case atStart => exact ⟨0, rfl, Nat.zero_le _, rfl⟩
          case round =>
            obtain ⟨p, rfl, hp, rfl⟩ := hrel
            by_cases hlt2 : p < m
            · have ip0 : (0 : Int) ≤ (p : Int) := by omega
              have ip1 : (p : Int) < (m : Int) := by omega
              obtain ⟨rs, hrs⟩ : ∃ rs : ByteArray, (⟨#[UInt8.ofNat (48 + p)]⟩ : ByteArray) = rs := ⟨_, rfl⟩
              have htx : txt p = (⟨#[116, 101, 120, 116, 32]⟩ : ByteArray) ++ rs := by rw [← hrs]; rfl
              have hTp := HTX.out p hlt2
              rw [htx] at hTp
              obtain ⟨bt, ot, rfl, ct⟩ := HC7.out p (.string ((⟨#[116, 101, 120, 116, 32]⟩ : ByteArray) ++ rs)) (by rw [List.getElem?_map, hTp]; rfl)
              have h32 := conv_32 p (by omega)
              have hru := conv_rune p (by omega)
              rw [hrs] at hru
              have hrz : rs.size ≤ 1 := by rw [← hrs]; exact Nat.le_refl _
              clear hTp htx hrs
              go_wp2_with fail
              go_roundw
              case rel => exact ⟨p + 1, by go_num, by omega, trivial⟩
              case measure => simp [intOf]; omega
            · have ip1 : ¬ (p : Int) < (m : Int) := by omega
              have hT7 := HJr.out.t.fr0 HF7.out
              have hleft := left_any wr X b0 tb r hT7 HJr.out.v.good
              rw [HJr.out.v.left] at hleft
              have hfr7 := HJr.out.fr.trans HF7.out (fun _ _ h => h.elim)
              have hsp : SP wr _ _ _ S us := HSP4.out.fr hfr7 (fun k hk h => h.2 (HXS.out k hk))
              have hg2 := Reads.of_own hsp.g
              have HG2 := hide (show Reads wr (.slice (some ⟨bg, og, none⟩) i cg) (S.map (·.1)).length 1 ((S.map (·.1)).map (.int .i64)) by rw [List.length_map, List.map_map]; exact hg2)
              have HLEFT := hide hleft
              have HFW7 := hide (((HFW4.out.mono (S' := fun k => N ≤ k) (fun _ _ h => h.elim)).trans hfr7 (fun k hk h => by have := HNB.out; have := h.1; omega) : Fr (fun k => N ≤ k) w wr))
              have hSl3 : (S.map (·.1)).length ≤ 9223372036854775807 := by rw [List.length_map, HNS.out]; omega
              clear hT7 hleft hfr7 hsp hg2
              go_wp2_with fail
              refine HLEFT.out.mono ?_
              rintro e w8 ⟨v8, rfl, hr8, hf8, -⟩
              go_wp2_with fail
              refine (same_any w8 v8 _ _ _ hr8 (reads_old HG2.out hf8 (fun _ _ => id)) hSl3).mono ?_
              rintro e w9 ⟨rfl, q, rfl⟩
              rw [decide_eq_true rfl]
              have HF8 := hide hf8
              clear hr8 hf8
              go_wp2_with fail
              refine (known_any _).mono ?_
              rintro e wz ⟨rfl, hfz⟩
              have HFZ := hide hfz
              clear hfz
              go_wp2_with fail
              go_ret
              exact ⟨rfl, (((HFW7.out.trans HF8.out (fun _ _ h => h.elim)).drewN q).trans HFZ.out (fun _ _ h => h.elim)).toBelow (Nat.le_refl _) (fun k hk h => by have := HN.out; omega)⟩
end Go.Proofs.Ytehneddmamnmiaa.TxnTexts
