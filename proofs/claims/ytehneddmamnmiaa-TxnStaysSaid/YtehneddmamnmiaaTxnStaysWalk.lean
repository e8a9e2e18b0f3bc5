/- TxnStays's walk. -/
import Derived.Test.YtehneddmamnmiaaTxGood
import Derived.Test.YtehneddmamnmiaaTxKnown2
import Derived.Deep.CutBlock
import Derived.Deep.CutRange
namespace Go.Proofs.Ytehneddmamnmiaa.TxnStays
open Go.RowKit Go.Maps Go.Cv Go.Shelf
set_option linter.unusedVariables false

abbrev AskT := Int × Int × Int × Int × Bool × Bool × (Option Addr × Nat × List ByteArray)
def askC (a : AskT) : List Value := [.int .i64 a.1, .int .i64 a.2.1, .int .i64 a.2.2.1, .int .i64 a.2.2.2.1, .bool a.2.2.2.2.1, .bool a.2.2.2.2.2.1, .slice a.2.2.2.2.2.2.1 a.2.2.2.2.2.2.2.2.length a.2.2.2.2.2.2.2.1]
theorem askC_len (a : AskT) : (askC a).length = 7 := rfl
theorem infoOp : (Try.prog.info? 26).map (fun i => (i.zero, i.size, i.bytes)) = some (some (Value.agg #[.int .i64 0, .string ⟨#[]⟩, .string ⟨#[]⟩, .int .i64 0]), 4, 48) := infoCOp
theorem oc_one (x : O4) : ∀ u ∈ oc x, u.oneCell' = true := by intro u hu; simp [oc] at hu; rcases hu with rfl | rfl | rfl | rfl <;> rfl
theorem row_ops (l : List ByteArray) (x : ByteArray) : rowO ((l ++ [x]).map rdO) = rowO (l.map rdO) ++ oc (rdO x) := by simp [rowO]

theorem reads_pre {w : World} {a : Option Addr} {n c s : Nat} {xs : List Value} (h : Reads w (.slice a n c) n s xs) {m : Nat} (hm : m ≤ n) : Reads w (.slice a m c) m s (xs.take (m * s)) := by
  obtain ⟨h1, a0, c0, e, h2, h3, h4⟩ := h
  cases e
  have hms : m * s ≤ n * s := Nat.mul_le_mul_right _ hm
  refine ⟨by rw [List.length_take, h1]; omega, _, _, rfl, (fun e => by obtain ⟨e1, e2⟩ := h2 e; exact ⟨by omega, e2⟩), by omega, fun i u hu => h4 i u ?_⟩
  have hi : i < m * s := by have := (List.getElem?_eq_some_iff.1 hu).1; rw [List.length_take] at this; omega
  rwa [List.getElem?_take, if_pos hi] at hu
/-- The state of the great loop. -/
structure J (X : Nat → Prop) (b0 tb yb : Nat) (S : List (Int × List Int)) (ops : List O4) (w5 wr : World) (r : TxR) (y : Nat → Bool) : Prop where
  t : TX wr X b0 tb r
  good : Good r
  hS : r.S = S
  ho : r.ops = ops
  yes : ∀ g ∈ keys r, y g.toNat = true
  arr : wr.heap[yb]? = some (.cells #[.bool (y 0), .bool (y 1), .bool (y 2)] 42 (0, 0))
  fr : Fr (fun k => Own X b0 k ∨ k = yb) w5 wr
theorem J.fr0 {X : Nat → Prop} {b0 tb yb : Nat} {S : List (Int × List Int)} {ops : List O4} {w5 wr wx : World} {r : TxR} {y : Nat → Bool} (h : J X b0 tb yb S ops w5 wr r y) (g : Fr (fun _ => False) wr wx) : J X b0 tb yb S ops w5 wx r y :=
  ⟨h.t.fr0 g, h.good, h.hS, h.ho, h.yes, (g.block yb (lt_of_block h.arr) id).trans h.arr, h.fr.trans g (fun _ _ h => h.elim)⟩
theorem J.own {X : Nat → Prop} {b0 tb yb : Nat} {S : List (Int × List Int)} {ops : List O4} {w5 wr wx : World} {r r' : TxR} {y : Nat → Bool} (h : J X b0 tb yb S ops w5 wr r y) (hX : X yb) (ht : TX wx X b0 tb r') (hg : Good r') (hS : r'.S = r.S) (ho : r'.ops = r.ops) (hy : ∀ g ∈ keys r', y g.toNat = true) (g : Fr (Own X b0) wr wx) : J X b0 tb yb S ops w5 wx r' y :=
  ⟨ht, hg, hS.trans h.hS, ho.trans h.ho, hy, (g.block yb (lt_of_block h.arr) (fun q => q.2 hX)).trans h.arr, h.fr.trans g (fun _ _ h => .inl h)⟩
/-- What stays of what was decided. -/
def Stays (r r' : TxR) : Prop := r.o ≠ 0 → r'.o = r.o ∧ r'.pos = r.pos ∧ r'.why = r.why ∧ textsR r' = textsR r

set_option maxRecDepth 100000 in
set_option maxHeartbeats 6400000 in
theorem walk (w : World) (v1 : Value) (l1 : List ByteArray) (h1 : Reads w v1 l1.length 1 (l1.flatMap fun s => [.string s])) (hg1 : ∀ x ∈ l1, x.size ≤ maxLen) (hl1 : l1.length ≤ maxLen)
    (v2 : Value) (l2 : List AskT) (h2 : Reads w v2 l2.length 7 (l2.flatMap askC)) {gd : AskT → Prop} (_ : ∀ x ∈ l2, gd x) (hl2 : l2.length ≤ maxLen) :
    Calls Try.prog 3 #[v1, v2] w fun e w' => e = .returned (.bool true) ∧ Below w.heap.size w w' := by
  obtain ⟨n1, hn1⟩ : ∃ n, l1.length = n := ⟨_, rfl⟩
  obtain ⟨n2, hn2⟩ : ∃ n, l2.length = n := ⟨_, rfl⟩
  rw [hn1] at h1 hl1
  rw [hn2] at h2 hl2
  rw [flat_one] at h1
  obtain ⟨-, s1, k1, rfl, -, -, hc1⟩ := id h1
  obtain ⟨-, s2, k2, rfl, -, -, -⟩ := id h2
  unfold maxLen at hl1 hl2
  have hn19 : (n1 : Int) ≤ 9223372036854775807 := by omega
  have hn29 : (n2 : Int) ≤ 9223372036854775807 := by omega
  obtain ⟨i0, hi0, hz0, hz1, hz2⟩ := info_parts infoOp
  obtain ⟨N, hN⟩ : ∃ N, w.heap.size = N := ⟨_, rfl⟩
  have H1 := hide h1
  have HC1 := hide hc1
  have H2 := hide h2
  have HN1 := hide hn1
  have HN2 := hide hn2
  have HN := hide hN
  have HG1 := hide hg1
  clear h1 h2 hn1 hn2 hl1 hl2 hg1 hN hc1
  go_enter Try.func3, Try.ntmps3
  go_upto_block 0 with fail
  go_cut [5, 6] from 18 to 35 (fun v5 i wx => wx.ownsRow N 26 4 v5 (min n1 4) (rowO ((l1.take 4).map rdO)) ∧ Fr (fun _ => False) w wx)
  case first =>
    go_wp2_with fail
    go_loopw [5, 6] (fun v5 i wr => ∃ k : Nat, i = .int .i64 k ∧ k ≤ n1 ∧ k ≤ 4 ∧ wr.ownsRow N 26 4 v5 k (rowO ((l1.take k).map rdO)) ∧ Fr (fun _ => False) w wr) (fun _ i _ => 4 - (intOf i).toNat)
    case atStart => exact ⟨0, rfl, Nat.zero_le _, by omega, World.ownsRow_nil _ _ _ _, Fr.refl _ _⟩
    case round =>
      obtain ⟨k, rfl, hk, hk4, hown, hf⟩ := hrel
      obtain ⟨a5, c5, rfl⟩ := own_shape hown
      have HO := hide hown
      have HF := hide hf
      clear hown hf
      by_cases hgo : k < n1 ∧ k < 4
      · obtain ⟨g1, g2⟩ := hgo
        obtain ⟨x, hx⟩ : ∃ x, l1[k]? = some x := ⟨_, List.getElem?_eq_getElem (by have := HN1.out; omega)⟩
        obtain ⟨b0, o0, rfl, e0⟩ := HC1.out k (.string x) (by rw [List.getElem?_map, hx]; rfl)
        have e0 : wr.cell? ⟨b0, o0 + k, none⟩ = some (.string x) := by
          rw [World.cell?_of_block (w := w) (HF.out.block b0 (World.block_lt_of_cell? w _ e0) id)]; exact e0
        have ik0 : (0 : Int) ≤ (k : Int) := by omega
        have ik1 : (k : Int) < (n1 : Int) := by omega
        have ik2 : (k : Int) < 4 := by omega
        have htk : (l1.take (k + 1)).map rdO = (l1.take k ++ [x]).map rdO := by rw [List.take_add_one, hx]; rfl
        have HTK := hide htk
        clear hx htk
        go_wp2_with fail
        refine (keepRead_any _ x).mono ?_
        rintro e w2 ⟨rfl, hf2⟩
        have HF2 := hide (HF.out.trans hf2 (fun _ _ h => h))
        have HO2 := hide (ownsRow_fr HO.out hf2 (fun _ _ => id))
        clear hf2
        have b1 : k + 1 ≤ maxLen := by unfold maxLen; omega
        have b2 : (k + 1) * 48 ≤ 140737488355328 := by omega
        have hal : Fr (fun _ => False) w2 (w2.alloc (.cells #[.int .i64 5, .string x, .string ⟨#[]⟩, .int .i64 0] 26)) := Fr.alloc _ _ _
        have HO3 := hide (ownsRow_fr HO2.out hal (fun _ _ => id))
        have HR3 := hide (show Reads (w2.alloc (.cells #[.int .i64 5, .string x, .string ⟨#[]⟩, .int .i64 0] 26)) (.slice (some ⟨w2.heap.size, 0, none⟩) 1 1) 1 4 (oc (rdO x)) by have := reads_ops1 w2 (rdO x) 26; rw [show rowO [rdO x] = oc (rdO x) by simp [rowO]] at this; exact this)
        have HF3 := hide (HF2.out.trans hal (fun _ _ h => h))
        have b3 : N ≤ (w2.alloc (.cells #[.int .i64 5, .string x, .string ⟨#[]⟩, .int .i64 0] 26)).heap.size := by have := HF3.out.size; have := HN.out; omega
        clear hal
        go_wp2_with (at_builtin; refine wpList_append_reads _ rfl _ _ _ rfl N 26 i0 _ 4 48 Try.underlying24 hi0 hz0 hz1 hz2 sizeCOp (by decide) _ k _ rfl HO3.out _ 1 (oc (rdO x)) rfl HR3.out (oc_one _) b1 b2 b3 ?_; intro v3 w3 hown3 hgrow hat; have HO4 := hide hown3; have HG4 := hide hgrow; clear hown3 hgrow hat)
        go_roundw
        case rel =>
          refine ⟨k + 1, by go_num, by omega, by omega, by rw [HTK.out, row_ops]; exact HO4.out, ?_⟩
          refine HF3.out.trans (Fr.grown (S := fun k => N ≤ k) HG4.out (fun q hq => (HO3.out.lt q hq).1)) (fun q hq hN => by have := HN.out; omega)
        case measure => simp [intOf]; omega
      · have hcc : ((k : Int) < (n1 : Int) ∧ ¬ (k : Int) < 4) ∨ ¬ (k : Int) < (n1 : Int) := by omega
        have hmn : k = min n1 4 := by omega
        have htk : l1.take k = l1.take 4 := by
          rcases Nat.le_total 4 n1 with h | h
          · rw [show k = 4 by omega]
          · rw [List.take_of_length_le (by have := HN1.out; omega), List.take_of_length_le (by have := HN1.out; omega)]
        have T0 := hide (show wr.ownsRow N 26 4 (.slice a5 k c5) (min n1 4) (rowO ((l1.take 4).map rdO)) by rw [← hmn, ← htk]; exact HO.out)
        clear hgo hmn htk
        rcases hcc with ⟨ik1, ik2⟩ | ik1
        all_goals
          go_wp2_with fail
          go_meet
          case rel => exact ⟨T0.out, HF.out⟩
  case rest =>
    obtain ⟨hown, hf⟩ := hcut
    obtain ⟨ops, hops⟩ : ∃ ops, (l1.take 4).map rdO = ops := ⟨_, rfl⟩
    obtain ⟨m, hm⟩ : ∃ m, min n1 4 = m := ⟨_, rfl⟩
    have hol : ops.length = m := by rw [← hops, List.length_map, List.length_take, HN1.out]; omega
    have hm4 : m ≤ 4 := by omega
    have hosz : ∀ x ∈ ops, x.2.1.size ≤ maxLen := by
      intro x hx
      rw [← hops] at hx
      obtain ⟨s, hs, rfl⟩ := List.mem_map.1 hx
      exact HG1.out s (List.mem_of_mem_take hs)
    rw [hm, hops] at hown
    obtain ⟨a5, c5, rfl⟩ := own_shape hown
    have HO := hide (Reads.of_own hown)
    have HF := hide hf
    have HOL := hide hol
    have HSZ := hide hosz
    clear hown hf hol hosz hm hops
    go_wp2_with fail
    refine (newM wc 3 (by omega)).mono ?_
    rintro e w1 ⟨a, mm, c, rfl, hd1, hf1⟩
    have hp1 : rightM 1 (newP 3 3) = true := new_right.2.2
    have hd1 : RD w1 a mm c (newP 3 3) := hd1
    have M1 := MV.made 1 hd1
    have hf2 : Fr (fun _ => False) w1 _ := Fr.alloc (fun _ => False) w1 (.cells #[.int .i64 1, .slice a mm c] 30)
    obtain ⟨w2, hw2⟩ : ∃ w2, w1.alloc (.cells #[.int .i64 1, .slice a mm c] 30) = w2 := ⟨_, rfl⟩
    obtain ⟨pb, hb1⟩ : ∃ b, w1.heap.size = b := ⟨_, rfl⟩
    rw [hw2, hb1] at M1
    rw [hw2] at hf2
    have HM1 := hide M1
    have HP1 := hide hp1
    have F2 := hide ((HF.out.trans hf1 (fun _ _ h => h)).trans hf2 (fun _ _ h => h))
    have HO2 := hide (reads_old HO.out (hf1.trans hf2 (fun _ _ h => h)) (fun _ _ => id))
    have HW2 := hide hw2
    have HB1 := hide hb1
    clear hd1 hp1 M1 hf1 hf2 hw2 hb1
    go_upto_region 7 with fail
    rw [HW2.out, HB1.out]
    have c0 := HM1.out.c0
    have c1 := HM1.out.c1
    by_cases hm0 : m = 0
    · subst hm0
      go_wp2_with fail
      refine (newTx_no w2 ⟨#[116, 120]⟩ _ 0 _ (by decide) 1 a mm c _ HM1.out.2 (.inr (.inl rfl))).mono ?_
      rintro e w3 ⟨rfl, hf3⟩
      have HF3 := hide (F2.out.trans hf3 (fun _ _ h => h))
      clear hf3
      go_wp2_with fail
      refine (known_any w3).mono ?_
      rintro e w4 ⟨rfl, hf4⟩
      have HF4 := hide (HF3.out.trans hf4 (fun _ _ h => h))
      clear hf4
      go_wp2_with fail
      go_ret
      exact ⟨rfl, HF4.out.toBelow (Nat.le_refl _) (fun _ _ h => h)⟩
    · have im0 : ((m : Int) == 0) = false := by simp; omega
      go_wp2_with fail
      refine (newTx_any w2 ⟨#[116, 120]⟩ (by intro e; cases e) a5 m c5 ops HO2.out HOL.out hm0 hm4 HSZ.out 1 a mm c _ HM1.out.2 HP1.out).mono ?_
      rintro e w3 ⟨tb, rfl, ht3, hf3⟩
      have hgood := good_new ⟨#[116, 120]⟩ ops 1 (newP 3 3) (by rw [HOL.out]; exact hm4)
      have HT3 := hide ht3
      have HF3 := hide hf3
      have HGOOD := hide hgood
      have hM3 := HM1.out.fr0 hf3
      have hSP := split_any w3 1 a mm c _ hM3.2 HP1.out a5 m c5 ops (reads_old HO2.out hf3 (fun _ _ => id)) HOL.out (by omega) HSZ.out
      have HSP := hide hSP
      have d0 := hM3.c0
      have d1 := hM3.c1
      clear ht3 hf3 hgood hM3 hSP c0 c1
      go_wp2_with fail
      refine HSP.out.mono ?_
      rintro e w4 ⟨vg, va, us, rfl, hsp, hf4⟩
      obtain ⟨S, hS⟩ : ∃ S, splitG (ownAt (newP 3 3) ops) m 3 = S := ⟨_, rfl⟩
      have hSl := splitG_len (ownAt (newP 3 3) ops) m 3
      rw [hS] at hsp hSl
      have hgg := hsp.g
      have hga := hsp.a
      obtain ⟨nS, hnS⟩ : ∃ nS, S.length = nS := ⟨_, rfl⟩
      rw [hnS] at hgg hga hSl
      obtain ⟨ag, cg, rfl⟩ := own_shape hgg
      obtain ⟨aa, ca, rfl⟩ := own_shape hga
      have HSP4 := hide hsp
      have HF4 := hide hf4
      have HS := hide hS
      have HNS := hide hnS
      clear hgg hga hsp hf4 hS hnS d0 d1
      obtain ⟨yb, hyb⟩ : ∃ yb, w4.heap.size = yb := ⟨_, rfl⟩
      obtain ⟨w5, hw5⟩ : ∃ w5, w4.alloc (.cells #[.bool false, .bool false, .bool false] 42) = w5 := ⟨_, rfl⟩
      have hf5 : Fr (fun _ => False) w4 w5 := by rw [← hw5]; exact Fr.alloc _ _ _
      have hb5 : w5.heap[yb]? = some (.cells #[.bool false, .bool false, .bool false] 42 (0, 0)) := by rw [← hw5, ← hyb]; exact block_alloc _ _
      have hsz5 : w5.heap.size = yb + 1 := by rw [← hw5, ← hyb]; simp
      obtain ⟨b0, hb0⟩ : ∃ b0, w2.heap.size = b0 := ⟨_, rfl⟩
      obtain ⟨X, hX⟩ : ∃ X : Nat → Prop, (fun k => k < b0 ∨ (w3.heap.size ≤ k ∧ k < w5.heap.size)) = X := ⟨_, rfl⟩
      have hXy : X yb := by rw [← hX]; exact .inr ⟨by rw [← hyb]; exact HF4.out.size, by omega⟩
      have hJ : J X b0 tb yb S ops w5 w5 (newR ⟨#[116, 120]⟩ ops 1 (newP 3 3)) (fun _ => false) := by
        have h1 := HT3.out
        rw [hb0] at h1
        have h2 := h1.more (HF4.out.trans hf5 (fun _ _ h => h))
        rw [hX] at h2
        refine ⟨h2, HGOOD.out, ?_, rfl, fun g hg => absurd hg List.not_mem_nil, hb5, Fr.refl _ _⟩
        rw [← HS.out]; show splitG _ ops.length 3 = _; rw [HOL.out]
      have hNb : N ≤ b0 := by have := F2.out.size; have := HN.out; omega
      have hXS : ∀ k, OB (.slice ag nS cg) (.slice aa nS ca) us k → X k ∧ k ≠ yb ∧ k < yb := by
        intro k hk
        have := HSP4.out.lt k hk
        rw [← hX]
        exact ⟨.inr ⟨this.1, by omega⟩, by omega, by omega⟩
      have hXN : ∀ k, k < N → X k := by intro k hk; rw [← hX]; exact .inl (by omega)
      have HJ := hide hJ
      have HXY := hide hXy
      have HXS := hide hXS
      have HXN := hide hXN
      have HF5 := hide hf5
      have HW5 := hide hw5
      have HYB := hide hyb
      have HNB := hide hNb
      have HB05 := hide (show b0 ≤ w5.heap.size by have := HF3.out.size; have := HF4.out.size; have := hf5.size; omega)
      have HFW5 := hide ((((F2.out.trans HF3.out (fun _ _ h => h)).trans HF4.out (fun _ _ h => h)).trans hf5 (fun _ _ h => h) : Fr (fun _ => False) w w5))
      clear hJ hXy hXS hXN hf5 hw5 hyb hNb hb5 hX hb0
      go_upto_region 14 with fail
      rw [HW5.out, HYB.out]
      have hnS0 : 0 < nS := by
        have h1 := total_cnt (ownAt (newP 3 3) ops) m 3
        rw [cnt_all _ 3 m (fun k hk => by
          obtain ⟨x, hx⟩ : ∃ x, ops[k]? = some x := ⟨_, List.getElem?_eq_getElem (by rw [HOL.out]; exact hk)⟩
          have e : ownAt (newP 3 3) ops k = ownF (newP 3 3) (hashF x.2.1) := by unfold ownAt; rw [hx]
          rw [e]
          obtain ⟨h0, h1⟩ := hashF_lt x.2.1
          exact (right_own HP1.out _ h0 h1).2), HS.out] at h1
        rcases Nat.eq_zero_or_pos nS with e | e
        · exfalso
          have := List.eq_nil_of_length_eq_zero (HNS.out.trans e)
          rw [this] at h1; simp [total] at h1; omega
        · exact e
      go_upto_region 15 with fail
      go_loopw [14] (fun ii wr => ∃ (i : Nat) (r : TxR) (y : Nat → Bool), ii = .int .i64 i ∧ i ≤ n2 ∧ i ≤ 30 ∧ J X b0 tb yb S ops w5 wr r y) (fun ii _ => 30 - (intOf ii).toNat)
      case atStart => exact ⟨0, _, _, rfl, Nat.zero_le _, by omega, HJ.out⟩
      case round =>
        obtain ⟨i, r, y, rfl, hi, hi30, hj⟩ := hrel
        have HJr := hide hj
        have hwr : Fr (fun k => N ≤ k) w wr := (HFW5.out.mono (S' := fun k => N ≤ k) (fun _ _ h => h.elim)).trans hj.fr (fun k hk h => by
          rcases h with h | h
          · have := HNB.out; have := h.1; omega
          · exact Classical.byContradiction (fun h2 => by have := HFW5.out.size; have := HYB.out; have := HW5.out; have := HF4.out.size; have := HF3.out.size; have := F2.out.size; have := HN.out; omega))
        have HWR := hide hwr
        clear hj hwr
        by_cases hgo : i < n2 ∧ i < 30
        · obtain ⟨g1, g2⟩ := hgo
          have ik0 : (0 : Int) ≤ (i : Int) := by omega
          have ik1 : (i : Int) < (n2 : Int) := by omega
          have ik2 : (i : Int) < 30 := by omega
          obtain ⟨x, hx⟩ : ∃ x, l2[i]? = some x := ⟨_, List.getElem?_eq_getElem (by have := HN2.out; omega)⟩
          obtain ⟨bs, os, rfl, hls, hcs⟩ := row_cells askC_len H2.out hx (by decide)
          obtain ⟨x0, x1, x2, x3, x4, x5, x6⟩ := x
          have old : ∀ wx : World, Fr (fun k => N ≤ k) w wx → wx.cell? ⟨bs, os + i * 7, none⟩ = some (.int .i64 x0) ∧ wx.cell? ⟨bs, os + i * 7 + 1, none⟩ = some (.int .i64 x1) ∧ wx.cell? ⟨bs, os + i * 7 + 4, none⟩ = some (.bool x4) := fun wx f => by
            have hw := f.block bs hls (by have := HN.out; omega)
            exact ⟨hcs 0 _ rfl wx hw, hcs 1 _ rfl wx hw, hcs 4 _ rfl wx hw⟩
          have OLD := hide old
          clear hcs old hx
          go_wp2_with fail
          refine (reply_any _ _ _ tb _ HJr.out.t HJr.out.good.ok).mono ?_
          rintro e w6 ⟨ar, nr, cr, rfl, hr6, hf6, hn6⟩
          obtain ⟨o, ho⟩ : ∃ o, r.o = o := ⟨_, rfl⟩
          obtain ⟨pos, hpos⟩ : ∃ o, r.pos = o := ⟨_, rfl⟩
          obtain ⟨why, hwhy⟩ : ∃ o, r.why = o := ⟨_, rfl⟩
          rw [ho, hpos, hwhy]
          obtain ⟨w7, hw7⟩ : ∃ w7, w6.alloc (.cells #[.int .i64 o, .slice ar nr cr, .int .i64 pos, .int .i64 why] 44) = w7 := ⟨_, rfl⟩
          obtain ⟨qb, hqb⟩ : ∃ qb, w6.heap.size = qb := ⟨_, rfl⟩
          have hf7 : Fr (fun _ => False) w6 w7 := by rw [← hw7]; exact Fr.alloc _ _ _
          have hb7 : w7.heap[qb]? = some (.cells #[.int .i64 o, .slice ar nr cr, .int .i64 pos, .int .i64 why] 44 (0, 0)) := by rw [← hw7, ← hqb]; exact block_alloc _ _
          have HB7 := hide hb7
          have HR7 := hide (reads_old hr6 hf7 (fun _ _ => id))
          have HF7 := hide (hf6.trans hf7 (fun _ _ h => h))
          have HW7 := hide hw7
          have HQB := hide hqb
          have HRO := hide (And.intro ho (And.intro hpos hwhy))
          have HJ7 := hide (HJr.out.fr0 HF7.out)
          obtain ⟨X', hX'⟩ : ∃ X' : Nat → Prop, (fun k => X k ∨ (wr.heap.size ≤ k ∧ k < w7.heap.size)) = X' := ⟨_, rfl⟩
          have HT7 := hide (show TX w7 X' b0 tb r by rw [← hX']; exact HJr.out.t.mix HF7.out (fun _ _ h => h.elim))
          have HXX := hide (show ∀ k, X k → X' k by intro k hk; rw [← hX']; exact .inl hk)
          have HNR := hide (show ∀ b, foot (.slice ar nr cr) = some b → X' b ∧ b ≠ yb by
            intro b hb
            obtain ⟨h1, h2⟩ := hn6 b hb
            have h3 := lt_of_block HJr.out.arr
            rw [← hX']
            exact ⟨.inr ⟨h1, Nat.lt_of_lt_of_le h2 hf7.size⟩, by omega⟩)
          have HXQ := hide (show X' qb by rw [← hX']; exact .inr ⟨by rw [← hqb]; exact hf6.size, lt_of_block hb7⟩)
          clear hX'
          have HWR7 := hide (HWR.out.trans HF7.out (fun _ _ h => h.elim))
          clear hr6 hf6 hn6 hw7 hqb ho hpos hwhy hf7 hb7
          obtain ⟨e0, e1, e4⟩ := OLD.out _ HWR7.out
          go_upto_region 18 with fail
          rw [HW7.out, HQB.out]
          go_wp2_with fail
          refine (within_ex w7 x1 0 ((nS : Int) - 1) (by omega) (by omega) (by omega)).mono ?_
          rintro e w8 ⟨K, rfl, hK1, hK2, rfl⟩
          obtain ⟨Kn, rfl⟩ : ∃ Kn : Nat, K = (Kn : Int) := ⟨K.toNat, by omega⟩
          have iK0 : (0 : Int) ≤ (Kn : Int) := by omega
          have iK1 : (Kn : Int) < (nS : Int) := by omega
          obtain ⟨z, hz⟩ : ∃ z, S[Kn]? = some z := ⟨_, List.getElem?_eq_getElem (by have := HNS.out; omega)⟩
          obtain ⟨gg, ats⟩ := z
          have hzm : (gg, ats) ∈ r.S := by rw [HJr.out.hS]; exact List.mem_of_getElem? hz
          have hgg : gg ∈ grp r := List.mem_map_of_mem (f := (·.1)) hzm
          have hg3 := HJr.out.good.gr gg hgg
          have hpn := HJr.out.good.pn _ hzm
          have HGW := hide (wf_small hg3)
          obtain ⟨na, hna⟩ : ∃ na, ats.length = na := ⟨_, rfl⟩
          have hpn : ats.length ≤ 4 := hpn
          rw [hna] at hpn
          -- the groups' and places' cells, at whatever world comes
          have hcell : ∃ bg og ba oa ap cp, ag = some ⟨bg, og, none⟩ ∧ aa = some ⟨ba, oa, none⟩ ∧ ∀ wx, Fr (fun k => Own X b0 k ∨ k = yb) w5 wx → wx.cell? ⟨bg, og + Kn, none⟩ = some (.int .i64 gg) ∧ wx.cell? ⟨ba, oa + Kn, none⟩ = some (.slice ap na cp) := by
            have hsp5 : SP w5 w3.heap.size (.slice ag nS cg) (.slice aa nS ca) S us := HSP4.out.fr (X := fun _ => False) HF5.out (fun _ _ => id)
            obtain ⟨-, ag2, cg2, eg, -, -, hcg⟩ := Reads.of_own hsp5.g
            injection eg with e1 e2 e3
            subst e1 e3
            obtain ⟨bg, og, rfl, hcg9⟩ := hcg Kn (.int .i64 gg) (by rw [List.getElem?_map, hz]; rfl)
            obtain ⟨pv, hpv⟩ : ∃ pv, us[Kn]? = some pv := ⟨_, List.getElem?_eq_getElem (by have := hsp5.len; have := HNS.out; omega)⟩
            obtain ⟨-, aa2, ca2, ea, -, -, hca⟩ := Reads.of_own hsp5.a
            injection ea with e1 e2 e3
            subst e1 e3
            obtain ⟨ba, oa, rfl, hca9⟩ := hca Kn pv hpv
            obtain ⟨⟨-, ap, cp, rfl, -⟩, -⟩ := hsp5.rd Kn _ pv hz hpv
            rw [show ((gg, ats) : Int × List Int).2.length = na from hna] at hca9
            refine ⟨bg, og, ba, oa, ap, cp, rfl, rfl, fun wx hx => ?_⟩
            have q1 := HXS.out bg (.inl rfl)
            have q2 := HXS.out ba (.inr (.inl rfl))
            have l1 := World.block_lt_of_cell? w5 _ hcg9
            have l2 := World.block_lt_of_cell? w5 _ hca9
            exact ⟨by rw [World.cell?_of_block (w := w5) (hx.block bg l1 (fun h => h.elim (fun h => h.2 q1.1) q1.2.1))]; exact hcg9, by rw [World.cell?_of_block (w := w5) (hx.block ba l2 (fun h => h.elim (fun h => h.2 q2.1) q2.2.1))]; exact hca9⟩
          obtain ⟨bg, og, ba, oa, ap, cp, rfl, rfl, hcell⟩ := hcell
          obtain ⟨gc, ac⟩ := hcell _ HJ7.out.fr
          have HGG := hide hgg
          have HG3 := hide hg3
          have HATS := hide (And.intro hzm hna)
          have HZ := hide hz
          have HCE := hide hcell
          clear hz hzm hgg hna hcell hg3
          go_upto_block 4 with fail
          go_cut [] from 96 to 143 (fun wx => ∃ r' y', J X b0 tb yb S ops w5 wx r' y' ∧ Stays r r' ∧ (∀ g, y g = true → y' g = true) ∧ Fr (fun k => Own X' b0 k ∨ k = yb) w7 wx)
          case first =>
            --DEV<
            obtain ⟨e0, e1, e4⟩ := OLD.out _ HWR7.out
            by_cases k1 : x0 = 1
            · subst k1
              obtain ⟨w8, hw8⟩ : ∃ w8, (w7.alloc (.cells #[.string ⟨#[97]⟩, .string ⟨#[98]⟩, .string ⟨#[99]⟩, .string ⟨#[100]⟩] 9)).drew = w8 := ⟨_, rfl⟩
              have hf8 : Fr (fun _ => False) w7 w8 := by rw [← hw8]; exact (Fr.alloc (fun _ => False) _ _).drew
              have hj8 := HJ7.out.fr0 hf8
              have hr8 : Reads w8 (.slice (some ⟨w7.heap.size, 0, none⟩) na 4) na 1 ((([⟨#[97]⟩, ⟨#[98]⟩, ⟨#[99]⟩, ⟨#[100]⟩] : List ByteArray).take na).map .string) := by
                have h1 : Reads (w7.alloc (.cells #[.string ⟨#[97]⟩, .string ⟨#[98]⟩, .string ⟨#[99]⟩, .string ⟨#[100]⟩] 9)) (.slice (some ⟨w7.heap.size, 0, none⟩) 4 4) 4 1 ([.string ⟨#[97]⟩, .string ⟨#[98]⟩, .string ⟨#[99]⟩, .string ⟨#[100]⟩]) := Reads.built w7 [.string ⟨#[97]⟩, .string ⟨#[98]⟩, .string ⟨#[99]⟩, .string ⟨#[100]⟩] _
                have h2 := reads_old h1 (Fr.refl (fun _ => False) _).drew (fun _ _ => id)
                rw [hw8] at h2
                have h3 := reads_pre h2 hpn
                rw [Nat.mul_one] at h3
                rw [List.map_take]; exact h3
              have hlt8 : ((([⟨#[97]⟩, ⟨#[98]⟩, ⟨#[99]⟩, ⟨#[100]⟩] : List ByteArray).take na).length) = na := by rw [List.length_take]; simp; omega
              have hv := vote_any w8 X' b0 tb r (HT7.out.fr0 hf8) hj8.good.sl (Nat.le_trans hj8.good.vlen (by decide)) (Nat.le_trans HB05.out hj8.fr.size) gg HGW.out x4 (.slice (some ⟨w7.heap.size, 0, none⟩) na 4) _ (by rw [hlt8]; exact hr8) (by rw [hlt8]; omega) 0 30
              have HV := hide hv
              have HJ8 := hide hj8
              have HW8 := hide hw8
              have HF8 := hide hf8
              have m1 := World.new_ne w7 _ gc
              have m2 := World.new_ne w7 _ ac
              have m3 := World.new_ne w7 _ e4
              have ina0 : (0 : Int) ≤ (na : Int) := by omega
              have ina4 : (na : Int) ≤ 4 := by omega
              have hS9 : ∀ w9, Fr (Own X' b0) w8 w9 → w9.cell? ⟨bg, og + Kn, none⟩ = some (.int .i64 gg) ∧ w9.cell? ⟨ba, oa + Kn, none⟩ = some (.slice ap na cp) ∧ w9.cell? ⟨bs, os + i * 7 + 4, none⟩ = some (.bool x4) := fun w9 hf9 => by
                obtain ⟨q1, q2⟩ := HCE.out w9 (hj8.fr.trans hf9 (fun _ _ h => .inl ⟨h.1, fun hx => h.2 (HXX.out _ hx)⟩))
                exact ⟨q1, q2, (OLD.out w9 ((HWR7.out.trans hf8 (fun _ _ h => h.elim)).trans hf9 (fun k hk h => by have := HNB.out; have := h.1; omega))).2.2⟩
              have HS9 := hide hS9
              clear hv hj8 hw8 hf8 hr8 hlt8 hS9
              go_upto_region 22 with fail
              go_region_held3 (fun w' => w'.cell? ⟨bg, og + Kn, none⟩ = some (.int .i64 gg) ∧ w'.cell? ⟨ba, oa + Kn, none⟩ = some (.slice ap na cp) ∧ w'.cell? ⟨bs, os + i * 7 + 4, none⟩ = some (.bool x4)) (go_keep)
                ((go_at_call 15; rw [HW8.out]; refine HV.out.mono ?_; rintro e w9 ⟨rfl, ht9, hf9⟩; obtain ⟨z1, z2, z3⟩ := HS9.out w9 hf9; have HT9 := hide ht9; have HF9 := hide hf9; clear ht9 hf9))
              obtain ⟨gN, rfl⟩ : ∃ gN : Nat, gg = (gN : Int) := ⟨gg.toNat, by have := HG3.out; omega⟩
              have hgN3 : gN < 3 := by have := HG3.out; omega
              have ig0 : (0 : Int) ≤ (gN : Int) := by omega
              have ig3 : (gN : Int) < 3 := by omega
              have hb9 := (HF9.out.block yb (lt_of_block HJ8.out.arr) (fun q => q.2 (HXX.out _ HXY.out))).trans HJ8.out.arr
              have hy9 : w9.cell? ⟨yb, gN, none⟩ = some (.bool (y gN)) := by
                rw [cell_of_block hb9]
                have : gN = 0 ∨ gN = 1 ∨ gN = 2 := by omega
                rcases this with rfl | rfl | rfl <;> rfl
              have hz9 : w9.frozen? ⟨yb, gN, none⟩ = false := free_of_block hb9
              have HB9 := hide hb9
              obtain ⟨ygN, hygN⟩ : ∃ q, y gN = q := ⟨_, rfl⟩
              rw [hygN] at hy9
              have HYG := hide hygN
              clear hb9 hygN
              have hfin : ∀ wx, Fr (fun k => k = yb) w9 wx → wx.heap[yb]? = some (.cells (#[.bool (y 0), .bool (y 1), .bool (y 2)].setIfInBounds gN (.bool (ygN || x4))) 42 (0, 0)) → ∃ r' y', J X b0 tb yb S ops w5 wx r' y' ∧ Stays r r' ∧ (∀ g, y g = true → y' g = true) ∧ Fr (fun k => Own X' b0 k ∨ k = yb) w7 wx := by
                intro wx hfx hbx
                have hyy : ∀ g, y g = true → (if g = gN then (ygN || x4) else y g) = true := by
                  intro g hg
                  split
                  · rename_i e; subst e; rw [HYG.out] at hg; rw [hg]; rfl
                  · exact hg
                have hvS := vote_S r gN x4 (([⟨#[97]⟩, ⟨#[98]⟩, ⟨#[99]⟩, ⟨#[100]⟩] : List ByteArray).take na) 0 30
                refine ⟨_, fun g => if g = gN then (ygN || x4) else y g, ⟨(HT9.out.less HXX.out).fr hfx (fun k hk e => e ▸ HXY.out), good_vote HJ8.out.good _ _ _ _ _, hvS.1.trans HJ8.out.hS, hvS.2.trans HJ8.out.ho, ?_, ?_, (HJ8.out.fr.trans HF9.out (fun _ _ h => .inl ⟨h.1, fun hx => h.2 (HXX.out _ hx)⟩)).trans hfx (fun _ _ h => .inr h)⟩, ?_, hyy, ?_⟩
                · intro g hg
                  rcases vote_keys r gN x4 _ 0 30 hg with h | ⟨rfl, h⟩
                  · exact hyy _ (HJ8.out.yes g h)
                  · show (if (gN : Int).toNat = gN then (ygN || x4) else y (gN : Int).toNat) = true
                    rw [if_pos (by omega), h]; simp
                · rw [hbx]
                  have : gN = 0 ∨ gN = 1 ∨ gN = 2 := by omega
                  rcases this with rfl | rfl | rfl <;> rfl
                · intro ho
                  rw [vote_stays ho]; exact ⟨rfl, rfl, rfl, rfl⟩
                · exact ((HF8.out.mono (S' := fun k => Own X' b0 k ∨ k = yb) (fun _ _ h => h.elim)).trans HF9.out (fun _ _ h => .inl h)).trans hfx (fun _ _ h => .inr h)
              have HFIN := hide hfin
              clear hfin
              cases ygN with
              | true =>
                go_upto_region 23 with fail
                refine wp_region_last [Lft.is (.slice (some ⟨bg, og, none⟩) nS cg), Lft.is (.int .i64 Kn), Lft.is (.pointer (some ⟨bg, og + Kn, none⟩)), Lft.is (.int .i64 gN), Lft.is (.slice (some ⟨bg, og, none⟩) nS cg), Lft.is (.int .i64 Kn), Lft.is (.pointer (some ⟨bg, og + Kn, none⟩)), Lft.is (.int .i64 gN), Lft.is (.pointer (some ⟨yb, gN, none⟩)), Lft.is (.bool true), Lft.is (.bool true), Lft.any, Lft.any, Lft.any, Lft.any, Lft.any, Lft.is (.bool true), Lft.is (.pointer (some ⟨yb, gN, none⟩))] 18 _ _ (by kernel_rfl) rfl rfl (by kernel_rfl) (fun vs => by simp only [putAll, Act.put, List.setIfInBounds_toArray, List.set_cons_succ, List.set_cons_zero, Nat.zero_add, Nat.reduceAdd]; exact rfl) ⟨?_, ?_, ?_, ?_, ?_, ?_, ?_, ?_, ?_, ?_, ?_, ?_, ?_, ?_, ?_, ?_, ?_, ?_, trivial⟩ ?_
                · exact StepN.quiet rfl _ rfl (fun vs w2 hf hp => by go_simp)
                · exact StepN.quiet rfl _ rfl (fun vs w2 hf hp => by go_simp)
                · exact StepN.quiet rfl _ rfl (fun vs w2 hf hp => by obtain ⟨h0, h1, -⟩ := hp; have h0 : vs 0 = .slice (some ⟨bg, og, none⟩) nS cg := h0; have h1 : vs 1 = .int .i64 Kn := h1; go_simp)
                · exact StepN.quiet rfl _ rfl (fun vs w2 hf hp => by obtain ⟨h0, -⟩ := hp; have h0 : vs 2 = .pointer (some ⟨bg, og + Kn, none⟩) := h0; have c := cell_fr0 hf z1; go_simp)
                · exact StepN.quiet rfl _ rfl (fun vs w2 hf hp => by go_simp)
                · exact StepN.quiet rfl _ rfl (fun vs w2 hf hp => by go_simp)
                · exact StepN.quiet rfl _ rfl (fun vs w2 hf hp => by obtain ⟨h0, h1, -⟩ := hp; have h0 : vs 4 = .slice (some ⟨bg, og, none⟩) nS cg := h0; have h1 : vs 5 = .int .i64 Kn := h1; go_simp)
                · exact StepN.quiet rfl _ rfl (fun vs w2 hf hp => by obtain ⟨h0, -⟩ := hp; have h0 : vs 6 = .pointer (some ⟨bg, og + Kn, none⟩) := h0; have c := cell_fr0 hf z1; go_simp)
                · exact StepN.quiet rfl _ rfl (fun vs w2 hf hp => by obtain ⟨h0, -⟩ := hp; have h0 : vs 7 = .int .i64 gN := h0; go_simp)
                · exact StepN.quiet rfl _ rfl (fun vs w2 hf hp => by obtain ⟨h0, -⟩ := hp; have h0 : vs 8 = .pointer (some ⟨yb, gN, none⟩) := h0; have c := cell_fr0 hf hy9; go_simp)
                · exact StepN.quiet rfl _ rfl (fun vs w2 hf hp => by obtain ⟨h0, -⟩ := hp; have h0 : vs 9 = .bool true := h0; go_simp)
                · exact StepN.off (fun vs w2 hf hp => ⟨by obtain ⟨h9, -⟩ := hp; have h9 : vs 10 = .bool true := h9; simp [Region.wanted, yielded, h9], trivial⟩)
                · exact StepN.off (fun vs w2 hf hp => ⟨by obtain ⟨h9, -⟩ := hp; have h9 : vs 10 = .bool true := h9; simp [Region.wanted, yielded, h9], trivial⟩)
                · exact StepN.off (fun vs w2 hf hp => ⟨by obtain ⟨-, -, h9, -⟩ := hp; have h9 : vs 10 = .bool true := h9; simp [Region.wanted, yielded, h9], trivial⟩)
                · exact StepN.off (fun vs w2 hf hp => ⟨by obtain ⟨-, h9, -⟩ := hp; have h9 : vs 10 = .bool true := h9; simp [Region.wanted, yielded, h9], trivial⟩)
                · exact StepN.off (fun vs w2 hf hp => ⟨by obtain ⟨-, h9, -⟩ := hp; have h9 : vs 10 = .bool true := h9; simp [Region.wanted, yielded, h9], trivial⟩)
                · exact StepN.quiet rfl _ rfl (fun vs w2 hf hp => by obtain ⟨h0, -⟩ := hp; have h0 : vs 10 = .bool true := h0; go_simp)
                · exact StepN.quiet rfl _ rfl (fun vs w2 hf hp => by obtain ⟨h0, -⟩ := hp; have h0 : vs 3 = .int .i64 gN := h0; go_simp)
                · intro vs w2 hf he _
                  have h16 : vs 16 = .bool true := (he.get 16 (by decide)).1
                  have h17 : vs 17 = .pointer (some ⟨yb, gN, none⟩) := (he.get 17 (by decide)).1
                  have c := cell_fr0 hf hy9
                  have d := frozen_fr0 hf hy9 hz9
                  have HFx := hide hf
                  clear he hf
                  have hsc : Fr (fun k => k = yb) w2 (w2.setCell ⟨yb, gN, none⟩ (.bool true)) := Fr.setCell _ _ _ rfl
                  have hfx : Fr (fun k => k = yb) w9 (w2.setCell ⟨yb, gN, none⟩ (.bool true)) := (HFx.out.mono (S' := fun k => k = yb) (fun _ _ h => h.elim)).trans hsc (fun _ _ h => h)
                  have hbx := HFIN.out _ hfx (by rw [block_setCell ((HFx.out.block yb (lt_of_block HB9.out) id).trans HB9.out)]; simp)
                  have HBX := hide hbx
                  clear hsc hfx hbx
                  go_simp
                  go_wp2_with fail
                  go_meet
                  case rel => exact HBX.out
              | false =>
                go_upto_region 23 with fail
                refine wp_region_last [Lft.is (.slice (some ⟨bg, og, none⟩) nS cg), Lft.is (.int .i64 Kn), Lft.is (.pointer (some ⟨bg, og + Kn, none⟩)), Lft.is (.int .i64 gN), Lft.is (.slice (some ⟨bg, og, none⟩) nS cg), Lft.is (.int .i64 Kn), Lft.is (.pointer (some ⟨bg, og + Kn, none⟩)), Lft.is (.int .i64 gN), Lft.is (.pointer (some ⟨yb, gN, none⟩)), Lft.is (.bool false), Lft.is (.bool false), Lft.is (.slice (some ⟨bs, os, none⟩) n2 k2), Lft.is (.int .i64 i), Lft.is (.pointer (some ⟨bs, os + i * 7, none⟩)), Lft.is (.pointer (some ⟨bs, os + i * 7 + 4, none⟩)), Lft.is (.bool x4), Lft.is (.bool x4), Lft.is (.pointer (some ⟨yb, gN, none⟩))] 18 _ _ (by kernel_rfl) rfl rfl (by kernel_rfl) (fun vs => by simp only [putAll, Act.put, List.setIfInBounds_toArray, List.set_cons_succ, List.set_cons_zero, Nat.zero_add, Nat.reduceAdd]; exact rfl) ⟨?_, ?_, ?_, ?_, ?_, ?_, ?_, ?_, ?_, ?_, ?_, ?_, ?_, ?_, ?_, ?_, ?_, ?_, trivial⟩ ?_
                · exact StepN.quiet rfl _ rfl (fun vs w2 hf hp => by go_simp)
                · exact StepN.quiet rfl _ rfl (fun vs w2 hf hp => by go_simp)
                · exact StepN.quiet rfl _ rfl (fun vs w2 hf hp => by obtain ⟨h0, h1, -⟩ := hp; have h0 : vs 0 = .slice (some ⟨bg, og, none⟩) nS cg := h0; have h1 : vs 1 = .int .i64 Kn := h1; go_simp)
                · exact StepN.quiet rfl _ rfl (fun vs w2 hf hp => by obtain ⟨h0, -⟩ := hp; have h0 : vs 2 = .pointer (some ⟨bg, og + Kn, none⟩) := h0; have c := cell_fr0 hf z1; go_simp)
                · exact StepN.quiet rfl _ rfl (fun vs w2 hf hp => by go_simp)
                · exact StepN.quiet rfl _ rfl (fun vs w2 hf hp => by go_simp)
                · exact StepN.quiet rfl _ rfl (fun vs w2 hf hp => by obtain ⟨h0, h1, -⟩ := hp; have h0 : vs 4 = .slice (some ⟨bg, og, none⟩) nS cg := h0; have h1 : vs 5 = .int .i64 Kn := h1; go_simp)
                · exact StepN.quiet rfl _ rfl (fun vs w2 hf hp => by obtain ⟨h0, -⟩ := hp; have h0 : vs 6 = .pointer (some ⟨bg, og + Kn, none⟩) := h0; have c := cell_fr0 hf z1; go_simp)
                · exact StepN.quiet rfl _ rfl (fun vs w2 hf hp => by obtain ⟨h0, -⟩ := hp; have h0 : vs 7 = .int .i64 gN := h0; go_simp)
                · exact StepN.quiet rfl _ rfl (fun vs w2 hf hp => by obtain ⟨h0, -⟩ := hp; have h0 : vs 8 = .pointer (some ⟨yb, gN, none⟩) := h0; have c := cell_fr0 hf hy9; go_simp)
                · exact StepN.quiet rfl _ rfl (fun vs w2 hf hp => by obtain ⟨h0, -⟩ := hp; have h0 : vs 9 = .bool false := h0; go_simp)
                · exact StepN.on (fun vs w2 hf hp => by obtain ⟨h9, -⟩ := hp; have h9 : vs 10 = .bool false := h9; skip; exact ⟨by simp [Region.wanted, yielded, h9], (.slice (some ⟨bs, os, none⟩) n2 k2), w2, by clear h9; go_simp, rfl, Fr.refl _ _, by intro h; cases h⟩)
                · exact StepN.on (fun vs w2 hf hp => by obtain ⟨h9, -⟩ := hp; have h9 : vs 10 = .bool false := h9; skip; exact ⟨by simp [Region.wanted, yielded, h9], (.int .i64 i), w2, by clear h9; go_simp, rfl, Fr.refl _ _, by intro h; cases h⟩)
                · exact StepN.on (fun vs w2 hf hp => by obtain ⟨h0, h1, h9, -⟩ := hp; have h9 : vs 10 = .bool false := h9; have h0 : vs 11 = .slice (some ⟨bs, os, none⟩) n2 k2 := h0; have h1 : vs 12 = .int .i64 i := h1; exact ⟨by simp [Region.wanted, yielded, h9], (.pointer (some ⟨bs, os + i * 7, none⟩)), w2, by clear h9; go_simp, rfl, Fr.refl _ _, by intro h; cases h⟩)
                · exact StepN.on (fun vs w2 hf hp => by obtain ⟨h0, h9, -⟩ := hp; have h9 : vs 10 = .bool false := h9; have h0 : vs 13 = .pointer (some ⟨bs, os + i * 7, none⟩) := h0; exact ⟨by simp [Region.wanted, yielded, h9], (.pointer (some ⟨bs, os + i * 7 + 4, none⟩)), w2, by clear h9; go_simp, rfl, Fr.refl _ _, by intro h; cases h⟩)
                · exact StepN.on (fun vs w2 hf hp => by obtain ⟨h0, h9, -⟩ := hp; have h9 : vs 10 = .bool false := h9; have h0 : vs 14 = .pointer (some ⟨bs, os + i * 7 + 4, none⟩) := h0; exact ⟨by simp [Region.wanted, yielded, h9], (.bool x4), w2, by clear h9; have c := cell_fr0 hf z3; go_simp, rfl, Fr.refl _ _, by intro h; cases h⟩)
                · exact StepN.quiet rfl _ rfl (fun vs w2 hf hp => by obtain ⟨h0, h1, -⟩ := hp; have h0 : vs 10 = .bool false := h0; have h1 : vs 15 = .bool x4 := h1; go_simp)
                · exact StepN.quiet rfl _ rfl (fun vs w2 hf hp => by obtain ⟨h0, -⟩ := hp; have h0 : vs 3 = .int .i64 gN := h0; go_simp)
                · intro vs w2 hf he _
                  have h16 : vs 16 = .bool x4 := (he.get 16 (by decide)).1
                  have h17 : vs 17 = .pointer (some ⟨yb, gN, none⟩) := (he.get 17 (by decide)).1
                  have c := cell_fr0 hf hy9
                  have d := frozen_fr0 hf hy9 hz9
                  have HFx := hide hf
                  clear he hf
                  have hsc : Fr (fun k => k = yb) w2 (w2.setCell ⟨yb, gN, none⟩ (.bool x4)) := Fr.setCell _ _ _ rfl
                  have hfx : Fr (fun k => k = yb) w9 (w2.setCell ⟨yb, gN, none⟩ (.bool x4)) := (HFx.out.mono (S' := fun k => k = yb) (fun _ _ h => h.elim)).trans hsc (fun _ _ h => h)
                  have hbx := HFIN.out _ hfx (by rw [block_setCell ((HFx.out.block yb (lt_of_block HB9.out) id).trans HB9.out)]; simp)
                  have HBX := hide hbx
                  clear hsc hfx hbx
                  go_simp
                  go_wp2_with fail
                  go_meet
                  case rel => exact HBX.out
            · have k1b : (x0 == 1) = false := by simp [k1]
              clear k1
              by_cases k2' : x0 = 2
              · subst k2'
                go_wp2_with fail
                refine (late_any _ X' _ tb _ HT7.out).mono ?_
                rintro e w9 ⟨rfl, ht9, hf9⟩
                have hfin : ∃ r' y', J X b0 tb yb S ops w5 w9 r' y' ∧ Stays r r' ∧ (∀ g, y g = true → y' g = true) ∧ Fr (fun k => Own X' b0 k ∨ k = yb) w7 w9 := by
                  obtain ⟨q1, q2, q3⟩ := late_S r
                  refine ⟨_, y, HJ7.out.own HXY.out (ht9.less HXX.out) (good_late HJ7.out.good) q1 q2 (fun g hg => HJ7.out.yes g ?_) (hf9.mono (fun _ _ h => ⟨h.1, fun hx => h.2 (HXX.out _ hx)⟩)), ?_, fun _ h => h, hf9.mono (fun _ _ h => .inl h)⟩
                  · unfold keys at hg ⊢; rw [q3] at hg; exact hg
                  · intro ho; rw [late_stays ho]; exact ⟨rfl, rfl, rfl, rfl⟩
                have HFIN := hide hfin
                clear ht9 hf9 hfin
                go_wp2_with fail
                go_meet
                case rel => exact HFIN.out
              · have k2b : (x0 == 2) = false := by simp [k2']
                clear k2'
                go_wp2_with fail
                refine (ack_any _ X' _ tb _ HT7.out HJ7.out.good.sl (Nat.le_trans HJ7.out.good.klen (by decide)) gg HGW.out).mono ?_
                rintro e w9 ⟨rfl, ht9, hf9⟩
                have hfin : ∃ r' y', J X b0 tb yb S ops w5 w9 r' y' ∧ Stays r r' ∧ (∀ g, y g = true → y' g = true) ∧ Fr (fun k => Own X' b0 k ∨ k = yb) w7 w9 := by
                  obtain ⟨q1, q2, q3, q4, q5, q6, q7⟩ := ack_fields r gg
                  refine ⟨_, y, HJ7.out.own HXY.out (ht9.less HXX.out) (good_ack HJ7.out.good gg) q4 q6 (fun g hg => HJ7.out.yes g ?_) (hf9.mono (fun _ _ h => ⟨h.1, fun hx => h.2 (HXX.out _ hx)⟩)), fun _ => ⟨q1, q2, q3, q7⟩, fun _ h => h, hf9.mono (fun _ _ h => .inl h)⟩
                  unfold keys at hg ⊢; rw [q5] at hg; exact hg
                have HFIN := hide hfin
                clear ht9 hf9 hfin
                go_wp2_with fail
                go_meet
                case rel => exact HFIN.out
            --DEV>
          case rest =>
            obtain ⟨r', y', hj', hst, hyy, hfr⟩ := hcut
            have hbq := (hfr.block qb (lt_of_block HB7.out) (fun h => h.elim (fun h => h.2 HXQ.out) (fun h => by subst h; exact absurd HXY.out (fun hx => by have := HJ7.out.arr; rw [HB7.out] at this; cases this)))).trans HB7.out
            obtain ⟨p1, p2, p3⟩ := HRO.out
            have hrd := HR7.out
            have q0 : wc.cell? ⟨qb, 0, none⟩ = some (.int .i64 o) := by rw [cell_of_block hbq]; rfl
            have q1 : wc.cell? ⟨qb, 1, none⟩ = some (.slice ar nr cr) := by rw [cell_of_block hbq]; rfl
            have q2 : wc.cell? ⟨qb, 2, none⟩ = some (.int .i64 pos) := by rw [cell_of_block hbq]; rfl
            have q3 : wc.cell? ⟨qb, 3, none⟩ = some (.int .i64 why) := by rw [cell_of_block hbq]; rfl
            have HJ' := hide hj'
            have HYY := hide hyy
            have HST := hide hst
            have HFR := hide hfr
            clear hj' hyy hst hfr hbq hrd p1 p2 p3
            go_upto_region 26 with fail
            go_cut [153] from 144 to 152 (fun v wx => v = .bool false ∧ Fr (fun _ => False) wc wx)
            case first =>
              --DEV<
              by_cases ho : o = 0
              · subst ho
                refine wp_region_news [Lft.is (.pointer (some ⟨qb, 0, none⟩)), Lft.is (.int .i64 0), Lft.is (.bool false), Lft.is (.bool false), Lft.any, Lft.any, Lft.any, Lft.any, Lft.any, Lft.is (.bool false)] _ (by kernel_rfl) (by kernel_rfl) (fun vs => by simp only [putAll, Act.put, List.setIfInBounds_toArray, List.set_cons_succ, List.set_cons_zero, Nat.zero_add, Nat.reduceAdd]; exact rfl) ⟨?_, ?_, ?_, ?_, ?_, ?_, ?_, ?_, ?_, ?_, trivial⟩ ?_
                · exact StepN.quiet rfl _ rfl (fun vs w2 hf hp => by go_simp)
                · exact StepN.quiet rfl _ rfl (fun vs w2 hf hp => by obtain ⟨h0, -⟩ := hp; have h0 : vs 0 = .pointer (some ⟨qb, 0, none⟩) := h0; have c := cell_fr0 hf q0; go_simp)
                · exact StepN.quiet rfl _ rfl (fun vs w2 hf hp => by obtain ⟨h0, -⟩ := hp; have h0 : vs 1 = .int .i64 0 := h0; go_simp)
                · exact StepN.quiet rfl _ rfl (fun vs w2 hf hp => by obtain ⟨h0, -⟩ := hp; have h0 : vs 2 = .bool false := h0; go_simp)
                · exact StepN.off (fun vs w2 hf hp => ⟨by obtain ⟨h9, -⟩ := hp; have h9 : vs 3 = .bool false := h9; simp [Region.wanted, yielded, h9], trivial⟩)
                · exact StepN.off (fun vs w2 hf hp => ⟨by obtain ⟨h9, -⟩ := hp; have h9 : vs 3 = .bool false := h9; simp [Region.wanted, yielded, h9], trivial⟩)
                · exact StepN.off (fun vs w2 hf hp => ⟨by obtain ⟨-, h9, -⟩ := hp; have h9 : vs 3 = .bool false := h9; simp [Region.wanted, yielded, h9], trivial⟩)
                · exact StepN.off (fun vs w2 hf hp => ⟨by obtain ⟨-, -, -, h9, -⟩ := hp; have h9 : vs 3 = .bool false := h9; simp [Region.wanted, yielded, h9], trivial⟩)
                · exact StepN.off (fun vs w2 hf hp => ⟨by obtain ⟨-, h9, -⟩ := hp; have h9 : vs 3 = .bool false := h9; simp [Region.wanted, yielded, h9], trivial⟩)
                · exact StepN.quiet rfl _ rfl (fun vs w2 hf hp => by obtain ⟨h0, -⟩ := hp; have h0 : vs 3 = .bool false := h0; go_simp)
                · intro vs w2 hf he _
                  have h9 : vs 9 = .bool false := (he.get 9 (by decide)).1
                  rw [h9]
                  have HFx := hide hf
                  clear he hf h9
                  go_wp2_with fail
                  go_meet
                  case rel => exact ⟨rfl, HFx.out⟩
              · have hob : (o != 0) = true := by simp [ho]
                have hrep : ∀ wx, Fr (fun _ => False) wc wx → Calls Try.prog 13 #[.pointer (some ⟨tb, 0, none⟩)] wx fun e w' => ∃ a n c, e = .returned (.agg #[.int .i64 o, .slice a n c, .int .i64 pos, .int .i64 why]) ∧ Reads w' (.slice a n c) (textsR r).length 1 ((textsR r).map .string) ∧ Fr (fun _ => False) wx w' := fun wx hx => by
                  obtain ⟨p1, p2, p3⟩ := HRO.out
                  obtain ⟨s1, s2, s3, s4⟩ := HST.out (by rw [p1]; exact ho)
                  have h1 := reply_any wx X b0 tb r' (HJ'.out.t.fr0 hx) HJ'.out.good.ok
                  rw [s1, s2, s3, s4, p1, p2, p3] at h1
                  exact h1.mono (by rintro e w' ⟨a, n, c, h1, h2, h3, -⟩; exact ⟨a, n, c, h1, h2, h3⟩)
                have hrq := HR7.out.fr HFR.out (fun a n c e h => by
                  obtain ⟨g1, g2⟩ := HNR.out a.block (by rw [e]; rfl)
                  rcases h with h | h
                  · exact h.2 g1
                  · exact g2 h)
                have HREP := hide hrep
                have HRQ := hide hrq
                clear hrep hrq
                refine wp_region_news [Lft.is (.pointer (some ⟨qb, 0, none⟩)), Lft.is (.int .i64 o), Lft.is (.bool true), Lft.is (.bool true), Lft.is (.agg #[.int .i64 o, .slice ar nr cr, .int .i64 pos, .int .i64 why]), Lft.is (.pointer (some ⟨tb, 0, none⟩)),
                  Lft.stay (fun v w' => ∃ a n c, v = .agg #[.int .i64 o, .slice a n c, .int .i64 pos, .int .i64 why] ∧ Reads w' (.slice a n c) (textsR r).length 1 ((textsR r).map .string)) (fun u w1 w2 h g => by obtain ⟨a, n, c, e, h⟩ := h; exact ⟨a, n, c, e, reads_old h g (fun _ _ => id)⟩), Lft.is (.bool true), Lft.is (.bool false), Lft.is (.bool false)] _ (by kernel_rfl) (by kernel_rfl) (fun vs => by simp only [putAll, Act.put, List.setIfInBounds_toArray, List.set_cons_succ, List.set_cons_zero, Nat.zero_add, Nat.reduceAdd]; exact rfl) ⟨?_, ?_, ?_, ?_, ?_, ?_, ?_, ?_, ?_, ?_, trivial⟩ ?_
                · exact StepN.quiet rfl _ rfl (fun vs w2 hf hp => by go_simp)
                · exact StepN.quiet rfl _ rfl (fun vs w2 hf hp => by obtain ⟨h0, -⟩ := hp; have h0 : vs 0 = .pointer (some ⟨qb, 0, none⟩) := h0; have c := cell_fr0 hf q0; go_simp)
                · exact StepN.quiet rfl _ rfl (fun vs w2 hf hp => by obtain ⟨h0, -⟩ := hp; have h0 : vs 1 = .int .i64 o := h0; go_simp)
                · exact StepN.quiet rfl _ rfl (fun vs w2 hf hp => by obtain ⟨h0, -⟩ := hp; have h0 : vs 2 = .bool true := h0; go_simp)
                · exact StepN.on (fun vs w2 hf hp => by obtain ⟨h9, -⟩ := hp; have h9 : vs 3 = .bool true := h9; have c0 := cell_fr0 hf q0; have c1 := cell_fr0 hf q1; have c2 := cell_fr0 hf q2; have c3 := cell_fr0 hf q3; exact ⟨by simp [Region.wanted, yielded, h9], _, w2, by clear h9; go_simp, rfl, Fr.refl _ _, by intro h; cases h⟩)
                · exact StepN.on (fun vs w2 hf hp => by obtain ⟨h9, -⟩ := hp; have h9 : vs 3 = .bool true := h9; exact ⟨by simp [Region.wanted, yielded, h9], _, w2, by clear h9; go_simp, rfl, Fr.refl _ _, by intro h; cases h⟩)
                · refine StepN.onCall 13 (fun _ => #[.pointer (some ⟨tb, 0, none⟩)]) (fun vs w2 hf hp => ?_)
                  obtain ⟨h5, -, h9, -⟩ := hp
                  have h9 : vs 3 = .bool true := h9
                  have h5 : vs 5 = .pointer (some ⟨tb, 0, none⟩) := h5
                  refine ⟨by simp [Region.wanted, yielded, h9], by clear h9; go_simp, ?_⟩
                  refine (HREP.out w2 hf).mono ?_
                  rintro e w3 ⟨a, n, c, rfl, hr, hf3⟩
                  exact ⟨_, rfl, ⟨a, n, c, rfl, hr⟩, hf3, by intro h; cases h⟩
                · refine StepN.onCall 18 (fun vs => #[vs 4, vs 6]) (fun vs w2 hf hp => ?_)
                  obtain ⟨h4, h6, -, h9, -⟩ := hp
                  have h9 : vs 3 = .bool true := h9
                  have h4 : vs 4 = .agg #[.int .i64 o, .slice ar nr cr, .int .i64 pos, .int .i64 why] := h4
                  obtain ⟨a9, n9, c9, h6, hr9⟩ := h6
                  have h6 : vs 6 = .agg #[.int .i64 o, .slice a9 n9 c9, .int .i64 pos, .int .i64 why] := h6
                  refine ⟨by simp [Region.wanted, yielded, h9], by clear h9; go_simp, ?_⟩
                  rw [h4, h6]
                  refine (keepReply_any w2 o pos why ar nr cr _ (reads_old HRQ.out hf (fun _ _ => id)) o pos why a9 n9 c9 _ hr9 (by have := textsR_len r; have := HJr.out.good.len; omega)).mono ?_
                  rintro e w3 ⟨rfl, hf3⟩
                  exact ⟨_, rfl, by show Value.bool _ = .bool true; simp, hf3, by intro h; cases h⟩
                · exact StepN.on (fun vs w2 hf hp => by obtain ⟨h7, h9, -⟩ := hp; have h9 : vs 3 = .bool true := h9; have h7 : vs 7 = .bool true := h7; exact ⟨by simp [Region.wanted, yielded, h9], _, w2, by clear h9; go_simp, rfl, Fr.refl _ _, by intro h; cases h⟩)
                · exact StepN.quiet rfl _ rfl (fun vs w2 hf hp => by obtain ⟨h0, h8, -⟩ := hp; have h0 : vs 3 = .bool true := h0; have h8 : vs 8 = .bool false := h8; go_simp)
                · intro vs w2 hf he _
                  have h9 : vs 9 = .bool false := (he.get 9 (by decide)).1
                  rw [h9]
                  have HFx := hide hf
                  clear he hf h9
                  go_wp2_with fail
                  go_meet
                  case rel => exact ⟨rfl, HFx.out⟩
              --DEV>
            case rest =>
              obtain ⟨rfl, hf6⟩ := hcut
              have hj6 := HJ'.out.fr0 hf6
              have hWc : Fr (fun k => N ≤ k) w wc := (HWR7.out.trans HFR.out (fun k hk h => by
                rcases h with h | h
                · have := HNB.out; have := h.1; omega
                · exact Classical.byContradiction (fun h2 => by have := HFW5.out.size; have := HYB.out; have := HF4.out.size; have := HF3.out.size; have := F2.out.size; have := HN.out; omega))).trans hf6 (fun _ _ h => h.elim)
              have HJ6 := hide hj6
              have HWC := hide hWc
              clear hj6 hWc hf6 q0 q1 q2 q3
              obtain ⟨o', ho'⟩ : ∃ o', r'.o = o' := ⟨_, rfl⟩
              have HO' := hide ho'
              have hout := outcome_any wc X b0 tb r' HJ6.out.t
              rw [ho'] at hout
              have HOUT := hide hout
              clear ho' hout
              go_wp2_with fail
              refine HOUT.out.mono ?_
              rintro e wd ⟨rfl, rfl⟩
              by_cases h1 : o' = 1
              · subst h1
                have hgs : ∀ (n : Nat) (z : Int × List Int), S[n]? = some z → wd.cell? ⟨bg, og + n, none⟩ = some (.int .i64 z.1) ∧ 0 ≤ z.1 ∧ z.1 < 3 ∧ y' z.1.toNat = true := by
                  intro n z hz
                  have hsp : SP wd w3.heap.size (.slice (some ⟨bg, og, none⟩) nS cg) (.slice (some ⟨ba, oa, none⟩) nS ca) S us := HSP4.out.fr ((HF5.out.mono (S' := fun k => Own X b0 k ∨ k = yb) (fun _ _ h => h.elim)).trans HJ6.out.fr (fun _ _ h => h)) (fun k hk h => by
                    obtain ⟨q1, q2, q3⟩ := HXS.out k hk
                    rcases h with h | h
                    · exact h.2 q1
                    · exact q2 h)
                  obtain ⟨-, ag2, cg2, eg, -, -, hcg⟩ := Reads.of_own hsp.g
                  injection eg with e1 e2 e3
                  subst e1 e3
                  obtain ⟨bg2, og2, e4, hcg9⟩ := hcg n (.int .i64 z.1) (by rw [List.getElem?_map, hz]; rfl)
                  cases e4
                  have hzg : z.1 ∈ grp r' := by unfold grp; rw [HJ6.out.hS]; exact List.mem_map_of_mem (List.mem_of_getElem? hz)
                  have := HJ6.out.good.gr _ hzg
                  exact ⟨hcg9, this.1, this.2, HJ6.out.yes _ (HJ6.out.good.all HO'.out _ hzg)⟩
                have HGS := hide hgs
                clear hgs
                go_wp2_with fail
                go_loopw [17] (fun ii wr => ∃ n : Nat, ii = .int .i64 n ∧ n ≤ nS ∧ wr = wd) (fun ii _ => nS - (intOf ii).toNat)
                case atStart => exact ⟨0, rfl, Nat.zero_le _, rfl⟩
                case round =>
                  obtain ⟨n, rfl, hn, rfl⟩ := hrel
                  by_cases hlt : n < nS
                  · obtain ⟨z, hz⟩ : ∃ z, S[n]? = some z := ⟨_, List.getElem?_eq_getElem (by have := HNS.out; omega)⟩
                    obtain ⟨hc, hz0, hz3, hzy⟩ := HGS.out n z hz
                    obtain ⟨zN, hzN⟩ : ∃ zN : Nat, z.1 = (zN : Int) := ⟨z.1.toNat, by omega⟩
                    rw [hzN] at hc hzy hz0 hz3
                    have hya : wr.cell? ⟨yb, zN, none⟩ = some (.bool true) := by
                      rw [cell_of_block HJ6.out.arr]
                      rw [Int.toNat_natCast] at hzy
                      have : zN = 0 ∨ zN = 1 ∨ zN = 2 := by omega
                      rcases this with rfl | rfl | rfl
                      · rw [hzy]; rfl
                      · rw [hzy]; rfl
                      · rw [hzy]; rfl
                    have in0 : (0 : Int) ≤ (n : Int) := by omega
                    have in1 : (n : Int) < (nS : Int) := by omega
                    clear hz hzN hzy
                    go_wp2_with fail
                    go_roundw
                    case rel => exact ⟨n + 1, by go_num, by omega, trivial⟩
                    case measure => simp [intOf]; omega
                  · have in1 : ¬ (n : Int) < (nS : Int) := by omega
                    go_wp2_with fail
                    go_roundw
                    case rel => exact ⟨i + 1, r', y', by go_num, by omega, by omega, HJ6.out⟩
                    case measure => simp [intOf]; omega
              · have h1b : (o' == 1) = false := by simp [h1]
                clear h1
                go_wp2_with fail
                go_roundw
                case rel => exact ⟨i + 1, r', y', by go_num, by omega, by omega, HJ6.out⟩
                case measure => simp [intOf]; omega
        · have hcc : ((i : Int) < (n2 : Int) ∧ ¬ (i : Int) < 30) ∨ ¬ (i : Int) < (n2 : Int) := by omega
          clear hgo
          rcases hcc with ⟨ik1, ik2⟩ | ik1
          all_goals
            go_wp2_with fail
            refine (known_any _).mono ?_
            rintro e wz ⟨rfl, hfz⟩
            have HFZ := hide hfz
            clear hfz
            go_wp2_with fail
            go_ret
            exact ⟨rfl, (HWR.out.trans HFZ.out (fun _ _ h => h.elim)).toBelow (Nat.le_refl _) (fun k hk h => by have := HN.out; omega)⟩
end Go.Proofs.Ytehneddmamnmiaa.TxnStays
