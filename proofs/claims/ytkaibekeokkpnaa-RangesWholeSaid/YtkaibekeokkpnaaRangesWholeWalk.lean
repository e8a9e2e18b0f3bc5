/- RangesWhole's walk. -/
import Derived.Test.YtkaibekeokkpnaaRgMoved
import Derived.Test.YtkaibekeokkpnaaRgSplit2
import Derived.Test.YtkaibekeokkpnaaRgCount
import Derived.Deep.WholeRow
namespace Go.Proofs.Ytkaibekeokkpnaa.RangesWhole
open Go.RowKit Go.Maps Go.Cv Go.Shelf
set_option linter.unusedVariables false

theorem newP_r (r : Int) (h0 : 0 ≤ r) (h1 : r ≤ 2) : rightM 1 (newP (1 + r) (1 + r).toNat) = true := by
  obtain ⟨k, hk⟩ : ∃ k : Nat, 1 + r = (k : Int) := ⟨(1 + r).toNat, by omega⟩
  rw [hk, Int.toNat_natCast]; exact newP_right k (by omega)
theorem infoArr : (Try.prog.info? 39).map (fun i => (i.zero, i.size)) = some (some (.agg (Array.replicate 256 (.int .i64 0))), 256) := by kernel_rfl
/-- Block b is an array of 256 numbers. -/
def AR (w : World) (b : Nat) : Prop := ∃ cs, w.heap[b]? = some (.cells cs 39 (0, 0)) ∧ cs.size = 256 ∧ ∀ i, i < 256 → ∃ z, cs[i]? = some (.int .i64 z)
theorem AR.lt {w : World} {b : Nat} (h : AR w b) : b < w.heap.size := by obtain ⟨cs, h1, _⟩ := h; exact lt_of_block h1
theorem AR.cell {w : World} {b : Nat} (h : AR w b) (i : Nat) (hi : i < 256) : ∃ z, w.cell? ⟨b, i, none⟩ = some (.int .i64 z) := by
  obtain ⟨cs, h1, h2, h3⟩ := h; obtain ⟨z, hz⟩ := h3 i hi; exact ⟨z, by rw [cell_of_block h1]; exact hz⟩
theorem AR.free {w : World} {b : Nat} (h : AR w b) (i : Nat) : w.frozen? ⟨b, i, none⟩ = false := by
  obtain ⟨cs, h1, _⟩ := h; exact free_of_block h1
theorem AR.set {w : World} {b : Nat} (h : AR w b) (i : Nat) (z : Int) : AR (w.setCell ⟨b, i, none⟩ (.int .i64 z)) b := by
  obtain ⟨cs, h1, h2, h3⟩ := h
  refine ⟨_, block_setCell h1 _, by simpa using h2, fun j hj => ?_⟩
  rw [Array.getElem?_setIfInBounds]
  by_cases e : i = j
  · subst e; exact ⟨z, by simp [h2, hj]⟩
  · rw [if_neg e]; exact h3 j hj
theorem wpList_alloc_arr {ops : Array Oper} {rest : List Oper} {o : Oper} {a : Act} {w : World} {Q : Exit → Act → World → Prop} (hg : o.guard = none) (ho : o.op = .alloc 39)
    (h : ∀ w', AR w' w.heap.size → Fr (fun _ => False) w w' → wpList Try.prog ops Q rest (a.put o.dst (.pointer (some ⟨w.heap.size, 0, none⟩))) w') : wpList Try.prog ops Q (o :: rest) a w := by
  refine wpList_plain hg fun K hK => ?_
  have hz := (zero_of_info infoArr).1
  have hk := hK _ _ (h (w.alloc (.cells (Array.replicate 256 (.int .i64 0)) 39)) ⟨_, block_alloc _ _, by simp, fun i hi => ⟨0, by rw [Array.getElem?_replicate, if_pos hi]⟩⟩ (Fr.alloc _ _ _))
  generalize Array.replicate 256 (Value.int IntKind.i64 0) = zc at *
  unfold Oper.wp execOp
  simp only [ho, Instr.alloc, Sem.run_bind, hz, Result.andThen_ok, newVar, newRow, Value.cells]
  exact hk
theorem reads_pre {w : World} {a : Option Addr} {n c s : Nat} {xs : List Value} (h : Reads w (.slice a n c) n s xs) {m : Nat} (hm : m ≤ n) : Reads w (.slice a m c) m s (xs.take (m * s)) := by
  obtain ⟨h1, a0, c0, e, h2, h3, h4⟩ := h
  cases e
  have hms : m * s ≤ n * s := Nat.mul_le_mul_right _ hm
  refine ⟨by rw [List.length_take, h1]; omega, _, _, rfl, (fun e => by obtain ⟨e1, e2⟩ := h2 e; exact ⟨by omega, e2⟩), by omega, fun i u hu => h4 i u ?_⟩
  have hi : i < m * s := by have := (List.getElem?_eq_some_iff.1 hu).1; rw [List.length_take] at this; omega
  rwa [List.getElem?_take, if_pos hi] at hu
theorem rowO_take (l : List O4) (m : Nat) : (rowO l).take (m * 4) = rowO (l.take m) := by
  induction l generalizing m with
  | nil => simp [rowO]
  | cons x r ih =>
    cases m with
    | zero => simp [rowO]
    | succ m =>
      have : rowO (x :: r) = oc x ++ rowO r := by simp [rowO]
      rw [this, List.take_succ_cons, show rowO (x :: r.take m) = oc x ++ rowO (r.take m) by simp [rowO], List.take_append, oc_len, show (m + 1) * 4 - 4 = m * 4 by omega, ih, List.take_of_length_le (by rw [oc_len]; omega)]

set_option maxRecDepth 100000 in
set_option maxHeartbeats 12800000 in
theorem walk (w : World) (a0 : Int) (wf0 : (Lit.int .i64 a0).wf = true) (v1 : Value) (l1 : List (Int × Int × Int)) (h1 : Reads w v1 l1.length 3 (l1.flatMap fun a => [.int .i64 a.1, .int .i64 a.2.1, .int .i64 a.2.2])) (_ : ∀ a ∈ l1, (Lit.int .i64 a.1).wf = true ∧ (Lit.int .i64 a.2.1).wf = true ∧ (Lit.int .i64 a.2.2).wf = true) (hl1 : l1.length ≤ maxLen)
    (v2 : Value) (l2 : List O4) (h2 : Reads w v2 l2.length 4 (l2.flatMap fun a => [.int .i64 a.1, .string a.2.1, .string a.2.2.1, .int .i64 a.2.2.2])) (hg2 : ∀ a ∈ l2, (Lit.int .i64 a.1).wf = true ∧ a.2.1.size ≤ maxLen ∧ a.2.2.1.size ≤ maxLen ∧ (Lit.int .i64 a.2.2.2).wf = true) (hl2 : l2.length ≤ maxLen) :
    Calls Try.prog 4 #[.int .i64 a0, v1, v2] w fun e w' => e = .returned (.bool true) ∧ Below w.heap.size w w' := by
  obtain ⟨n1, hn1⟩ : ∃ n, l1.length = n := ⟨_, rfl⟩
  obtain ⟨n2, hn2⟩ : ∃ n, l2.length = n := ⟨_, rfl⟩
  rw [hn1] at h1 hl1
  rw [hn2] at h2 hl2
  obtain ⟨-, s1, k1, rfl, -, -, -⟩ := id h1
  obtain ⟨-, s2, k2, rfl, -, hcap2, -⟩ := id h2
  unfold maxLen at hl1 hl2
  have hn19 : (n1 : Int) ≤ 9223372036854775807 := by omega
  have hn29 : (n2 : Int) ≤ 9223372036854775807 := by omega
  have H3 := hide (show Reads w (.slice s1 n1 k1) n1 3 (rowP l1) from h1)
  have HR2 := hide (show Reads w (.slice s2 n2 k2) n2 4 (rowO l2) from h2)
  have HL3 := hide hn1
  have HN2 := hide hn2
  have HG2 := hide (show ∀ x ∈ l2, x.2.1.size ≤ maxLen from fun x hx => (hg2 x hx).2.1)
  clear h1 h2 hn1 hn2 wf0 hl1 hl2 hg2
  go_enter Try.func4, Try.ntmps4
  go_wp2_with fail
  refine (within_ex w a0 0 2 (by omega) (by omega) (by omega)).mono ?_
  rintro e w0 ⟨r, rfl, hr1, hr2, rfl⟩
  go_wp2_with fail
  refine (newM w (1 + r) (by omega)).mono ?_
  rintro e w1 ⟨a, m, c, rfl, hd1, hf1⟩
  have hp1 := newP_r r hr1 hr2
  obtain ⟨l, hl⟩ : ∃ l, newP (1 + r) (1 + r).toNat = l := ⟨_, rfl⟩
  rw [hl] at hd1 hp1
  have M1 := MV.made 1 hd1
  have hf2 : Fr (fun _ => False) w1 _ := Fr.alloc (fun _ => False) w1 (.cells #[.int .i64 1, .slice a m c] 25)
  obtain ⟨w2, hw2⟩ : ∃ w2, w1.alloc (.cells #[.int .i64 1, .slice a m c] 25) = w2 := ⟨_, rfl⟩
  obtain ⟨pb, hb1⟩ : ∃ b, w1.heap.size = b := ⟨_, rfl⟩
  rw [hw2, hb1] at M1
  rw [hw2] at hf2
  have HM1 := hide M1
  have HP1 := hide hp1
  have HPW := hide (show w.heap.size ≤ pb by rw [← hb1]; exact hf1.size)
  have F2 := hide (hf1.trans hf2 (fun _ _ h => h))
  have HW2 := hide hw2
  have HB1 := hide hb1
  clear hl hd1 hp1 M1 hf1 hf2 hw2 hb1
  go_upto_region 2 with fail
  rw [HW2.out, HB1.out]
  go_upto_region 5 with fail
  go_loopw [9] (fun i wr => ∃ (k : Nat) (ep' : Int) (a' : Option Addr) (n' c' : Nat) (l' : List P3), i = .int .i64 k ∧ k ≤ n1 ∧ k ≤ 10 ∧ MV wr pb ep' a' n' c' l' ∧ rightM ep' l' = true ∧ Fr (fun _ => False) w wr)
    (fun i _ => n1 - (intOf i).toNat)
  case atStart => exact ⟨0, 1, a, m, c, l, rfl, Nat.zero_le _, by omega, HM1.out, HP1.out, F2.out⟩
  case round =>
    obtain ⟨k, ep', a', n', c', l', rfl, hk1, hk2, hm, hr', hf⟩ := hrel
    have HMk := hide hm
    have HRk := hide hr'
    have HFk := hide hf
    have m0 := hm.c0
    have m1 := hm.c1
    clear hm hr' hf
    by_cases hlt : k < n1 ∧ k < 10
    · obtain ⟨hlt1, hlt2⟩ := hlt
      have ik1 : (k : Int) < (n1 : Int) := by omega
      have ik2 : (k : Int) < 10 := by omega
      have ik0 : (0 : Int) ≤ (k : Int) := by omega
      obtain ⟨x, hx⟩ : ∃ x, l1[k]? = some x := ⟨_, List.getElem?_eq_getElem (by have := HL3.out; omega)⟩
      obtain ⟨bs, os, rfl, hls, hcs⟩ := row_cells pc_len H3.out hx (by decide)
      obtain ⟨x1, x2, x3⟩ := x
      have hw0 := HFk.out.block bs hls id
      have e0 := hcs 0 (.int .i64 x1) rfl wr hw0
      have e1 := hcs 1 (.int .i64 x2) rfl wr hw0
      have e2 := hcs 2 (.int .i64 x3) rfl wr hw0
      rw [Nat.add_zero] at e0
      have hmv : ∀ wx, Fr (fun _ => False) wr wx → Calls Try.prog 10 #[.agg #[.int .i64 ep', .slice a' n' c'], .int .i64 x1, .int .i64 x2, .int .i64 x3] wx _ := fun wx hf => moveAny wx ep' a' n' c' l' (HMk.out.2.fr0 hf) HRk.out x1 x2 x3
      have HMV := hide hmv
      have hfr0 : Fr (fun _ => False) wr wr.drew := (Fr.refl (fun _ => False) wr).drew
      have hfr1 : Fr (fun _ => False) wr (wr.alloc (.cells #[.int .i64 0, .slice none 0 0] 25)).drew := (Fr.alloc (fun _ => False) wr _).drew
      have hnb1 : (wr.alloc (.cells #[.int .i64 0, .slice none 0 0] 25)).drew.heap[wr.heap.size]? = some (.cells #[.int .i64 0, .slice none 0 0] 25 (0, 0)) := block_alloc wr _
      have hn1 : pb ≠ wr.heap.size := by have := HMk.out.lt; omega
      have hn2 : bs ≠ wr.heap.size := by have := HFk.out.size; omega
      have hn3 : wr.heap.size ≠ pb := fun e => hn1 e.symm
      have hn4 : wr.heap.size ≠ bs := fun e => hn2 e.symm
      have FR0 := hide hfr0
      have FR1 := hide hfr1
      have HNB1 := hide hnb1
      have hcl : ∀ wx, Fr (fun _ => False) wr wx → wx.cell? ⟨pb, 0, none⟩ = some (.int .i64 ep') ∧ wx.cell? ⟨pb, 1, none⟩ = some (.slice a' n' c') ∧ wx.cell? ⟨bs, os + k * 3, none⟩ = some (.int .i64 x1) ∧ wx.cell? ⟨bs, os + k * 3 + 1, none⟩ = some (.int .i64 x2) ∧ wx.cell? ⟨bs, os + k * 3 + 2, none⟩ = some (.int .i64 x3) := fun wx hf => by
        have hm := HMk.out.fr0 hf
        have hw1 := (hf.block bs (by have := HFk.out.size; omega) id).trans hw0
        exact ⟨hm.c0, hm.c1, by have := hcs 0 (.int .i64 x1) rfl wx hw1; simpa using this, hcs 1 (.int .i64 x2) rfl wx hw1, hcs 2 (.int .i64 x3) rfl wx hw1⟩
      have HCL := hide hcl
      clear hcs hx hmv hw0 hcl hfr0 hfr1 hnb1
      go_wp2_with fail
      go_region_held3 (fun w' => w'.cell? ⟨pb, 0, none⟩ = some (.int .i64 ep') ∧ w'.cell? ⟨pb, 1, none⟩ = some (.slice a' n' c') ∧ w'.cell? ⟨bs, os + k * 3, none⟩ = some (.int .i64 x1) ∧ w'.cell? ⟨bs, os + k * 3 + 1, none⟩ = some (.int .i64 x2) ∧ w'.cell? ⟨bs, os + k * 3 + 2, none⟩ = some (.int .i64 x3)) (go_keep)
        (first
          | (go_at_call 10; with_reducible refine (HMV.out _ FR0.out).mono ?_; rintro e y ⟨ep2, a2, n2', c2, l2', er, rfl, hd, hq, hfy⟩; have hfz := FR0.out.trans hfy (fun _ _ h => h); obtain ⟨t0, t1, t2, t3, t4⟩ := HCL.out y hfz; have HPOST : Hid (∃ W nb, y.alloc (.cells #[.int .i64 ep2, .slice a2 n2' c2] 25) = W ∧ y.heap.size = nb ∧ Fr (fun _ => False) wr W ∧ MV W nb ep2 a2 n2' c2 l2') := hide ⟨_, _, rfl, rfl, hfz.trans (Fr.alloc (fun _ => False) _ _) (fun _ _ h => h), MV.made ep2 hd⟩; have HQ := hide hq; clear hd hq hfy hfz)
          | (go_at_call 10; with_reducible refine (HMV.out _ FR1.out).mono ?_; rintro e y ⟨ep2, a2, n2', c2, l2', er, rfl, hd, hq, hfy⟩; have hfz := FR1.out.trans hfy (fun _ _ h => h); obtain ⟨t0, t1, t2, t3, t4⟩ := HCL.out y hfz; have hby := (hfy.block wr.heap.size (lt_of_block HNB1.out) id).trans HNB1.out; have u0 := cell_of_block (j := 0) hby; have u1 := cell_of_block (j := 1) hby; have u2 := free_of_block (j := 0) hby; have u3 := free_of_block (j := 1) hby; have HPOST : Hid (∃ W nb, (y.setCell ⟨wr.heap.size, 0, none⟩ (.int .i64 ep2)).setCell ⟨wr.heap.size, 1, none⟩ (.slice a2 n2' c2) = W ∧ wr.heap.size = nb ∧ Fr (fun _ => False) wr W ∧ MV W nb ep2 a2 n2' c2 l2') := hide ⟨_, _, rfl, rfl, ((hfz.mono (S' := fun k => k = wr.heap.size) (fun _ _ h => h.elim)).trans (MV.stored hby hd ep2).2 (fun _ _ h => h)).fresh (fun k hk => by omega), (MV.stored hby hd ep2).1⟩; have HQ := hide hq; clear hd hq hfy hfz hby))
      all_goals
        obtain ⟨W, nb, hW, hnb, hfW, hMW⟩ := HPOST.out
        rw [hW, hnb]
        have n0 := hMW.c0
        have n1 := hMW.c1
        have hp2 := HMk.out.fr0 hfW
        have p0 := hp2.c0
        have p1 := hp2.c1
        have p2 := free_of_block (j := 0) hp2.1
        have p3 := free_of_block (j := 1) hp2.1
        have HP2 := hide hp2
        have HFW := hide (HFk.out.trans hfW (fun _ _ h => h))
        have HMW := hide hMW
        clear hp2 hMW hfW hW hnb
        rcases HQ.out with ⟨rfl, hright⟩ | hner
        · have HRT := hide hright
          clear hright
          go_wp2_with fail
          go_roundw
          case rel =>
            obtain ⟨s1, s2⟩ := MV.stored HP2.out.1 HMW.out.2 ep2
            refine ⟨k + 1, ep2, a2, n2', c2, l2', by go_num, by omega, by omega, s1, HRT.out, ((HFW.out.mono (S' := fun k => k = pb) (fun _ _ h => h.elim)).trans s2 (fun _ _ h => h)).fresh (fun k' hk' => by have := HPW.out; omega)⟩
          case measure => simp [intOf]; omega
        · have her : (er == 0) = false := by simp [hner]
          clear hner
          go_wp2_with fail
          go_roundw
          case rel => exact ⟨k + 1, ep', a', n', c', l', by go_num, by omega, by omega, HP2.out, HRk.out, HFW.out⟩
          case measure => simp [intOf]; omega
    · have hcc : ((k : Int) < (n1 : Int) ∧ ¬ (k : Int) < 10) ∨ ¬ (k : Int) < (n1 : Int) := by omega
      clear hlt
      rcases hcc with ⟨ik1, ik2⟩ | ik1
      all_goals
        go_upto_region 10 with fail
      all_goals
        obtain ⟨ab, hab⟩ : ∃ ab, wr.heap.size = ab := ⟨_, rfl⟩
        go_upto_region 11 with (refine wpList_alloc_arr rfl rfl ?_; intro wv har hfv)
        rw [hab] at har ⊢
        have hln := HMk.out.2.1
        have hn4 := HMk.out.2.2.2
        have hpab : pb ≠ ab := by have := HMk.out.lt; omega
        have hmv : ∀ wx, Fr (fun k => k = ab) wv wx → MV wx pb ep' a' n' c' l' := fun wx hf => by
          have hw := (hfv.mono (S' := fun k => k = ab) (fun _ _ h => h.elim)).trans hf (fun _ _ h => h)
          exact ⟨(hw.block pb (lt_of_block HMk.out.1) hpab).trans HMk.out.1, HMk.out.2.fr hw (fun k hk h => by omega)⟩
        have HMV := hide hmv
        have HAR := hide har
        have HFV := hide (HFk.out.trans hfv (fun _ _ h => h))
        have HAB := hide hab
        have HLN := hide hln
        have hpb := HPW.out
        have hwr := HFk.out.size
        clear hmv har hfv hab m0 m1
        go_upto_region 13 with fail
        go_loopw [13, 14] (fun nn i wx => ∃ j : Nat, nn = .int .i64 (startAt l' j) ∧ i = .int .i64 j ∧ j ≤ n' ∧ AR wx ab ∧ Fr (fun k => k = ab) wv wx) (fun _ i _ => n' - (intOf i).toNat)
        case atStart => exact ⟨0, rfl, rfl, Nat.zero_le _, HAR.out, Fr.refl _ _⟩
        case round =>
          obtain ⟨j, rfl, rfl, hj, har, hf⟩ := hrel
          have hm := HMV.out wr hf
          have q0 := hm.c0
          have q1 := hm.c1
          have HARj := hide har
          have HFj := hide hf
          by_cases hjl : j < n'
          · obtain ⟨x, hx⟩ : ∃ x, l'[j]? = some x := ⟨_, List.getElem?_eq_getElem (by have := HLN.out; omega)⟩
            obtain ⟨s1', s2', s3', s4', s5'⟩ := start_part HRk.out hx
            obtain ⟨bp, op, rfl, hlp, hcp⟩ := row_cells pc_len hm.2.2.1 hx (by decide)
            obtain ⟨x1, x2, x3⟩ := x
            obtain ⟨X, rfl⟩ : ∃ X : Nat, x1 = (X : Int) := ⟨x1.toNat, by simp only at s5'; omega⟩
            obtain ⟨Y, rfl⟩ : ∃ Y : Nat, x2 = (Y : Int) := ⟨x2.toNat, by simp only at s2' s5'; omega⟩
            simp only at s1' s2' s3' s4'
            rw [← s1']
            have HS4 := hide s4'
            have hX1 : X < Y := by omega
            have hY1 : Y ≤ 256 := by omega
            have hbab : bp ≠ ab := by
              have h0 := HMk.out.2.2.1
              obtain ⟨bq, oq, e, hlq, _⟩ := row_cells pc_len h0 hx (by decide)
              cases e; have := HAB.out; omega
            have hcell : ∀ wx, Fr (fun k => k = ab) wv wx → wx.cell? ⟨pb, 0, none⟩ = some (.int .i64 ep') ∧ wx.cell? ⟨pb, 1, none⟩ = some (.slice (some ⟨bp, op, none⟩) n' c') ∧ wx.cell? ⟨bp, op + j * 3, none⟩ = some (.int .i64 X) ∧ wx.cell? ⟨bp, op + j * 3 + 1, none⟩ = some (.int .i64 Y) ∧ wx.cell? ⟨bp, op + j * 3 + 2, none⟩ = some (.int .i64 x3) := fun wx hf => by
              have hm := HMV.out wx hf
              obtain ⟨bq, oq, e, hlq, hcq⟩ := row_cells pc_len hm.2.2.1 hx (by decide)
              cases e
              exact ⟨hm.c0, hm.c1, by have := hcq 0 (.int .i64 X) rfl wx rfl; simpa using this, hcq 1 (.int .i64 Y) rfl wx rfl, hcq 2 (.int .i64 x3) rfl wx rfl⟩
            obtain ⟨z0, z1, z2, z3, z4⟩ := hcell wr hf
            have HCELL := hide hcell
            have ij1 : (j : Int) < (n' : Int) := by omega
            have ij0 : (0 : Int) ≤ (j : Int) := by omega
            clear hcp hx s1' s2' s3' s4' s5' hcell hm har hf q0 q1
            go_upto_region 16 with fail
            go_loopw [13, 15] (fun nn hh wx => ∃ H : Nat, nn = .int .i64 H ∧ hh = .int .i64 H ∧ X ≤ H ∧ H ≤ Y ∧ AR wx ab ∧ Fr (fun k => k = ab) wv wx) (fun _ hh _ => Y - (intOf hh).toNat)
            case atStart => exact ⟨X, rfl, rfl, Nat.le_refl _, by omega, HARj.out, HFj.out⟩
            case round =>
              obtain ⟨H, rfl, rfl, hH1, hH2, har, hf⟩ := hrel
              obtain ⟨z0, z1, z2, z3, z4⟩ := HCELL.out wr hf
              have HARh := hide har
              have HFh := hide hf
              by_cases hHY : H < Y
              · have ih1 : (H : Int) < (Y : Int) := by omega
                have ih2 : (H : Int) < 256 := by omega
                have ih0 : (0 : Int) ≤ (H : Int) := by omega
                obtain ⟨zz, hzz⟩ := har.cell H (by omega)
                have hfz := har.free H
                clear har hf
                go_wp2_with fail
                go_roundw
                case rel => exact ⟨H + 1, by go_num, by go_num, by omega, by omega, HARh.out.set H x3, HFh.out.trans (Fr.setCell (S := fun k => k = ab) _ _ _ rfl) (fun _ _ h => h)⟩
                case measure => simp [intOf]; omega
              · have hHe : H = Y := by omega
                subst hHe
                have ih1 : ¬ (H : Int) < (H : Int) := by omega
                clear har hf
                go_wp2_with fail
                go_roundw
                case rel => exact ⟨j + 1, by rw [HS4.out], by go_num, by omega, HARh.out, HFh.out⟩
                case measure => simp [intOf]; omega
          · have hjn : j = n' := by omega
            subst hjn
            have ij1 : ¬ (j : Int) < (j : Int) := by omega
            have hse : startAt l' j = 256 := by rw [← HLN.out]; exact start_end HRk.out
            have hrc := rightC wr ep' a' j c' l' hm.2
            rw [HRk.out] at hrc
            have HRC := hide hrc
            have HMj := hide hm
            rw [hse]
            clear hm har hf hrc hse
            go_wp2_with fail
            refine HRC.out.mono ?_
            rintro e w6 ⟨rfl, hf6⟩
            have HM6 := hide (HMj.out.fr0 hf6)
            have HF6 := hide (((HFV.out.mono (S' := fun k => w.heap.size ≤ k) (fun _ _ h => h.elim)).trans HFj.out (fun k _ hk => by have := HAB.out; omega)).trans hf6 (fun _ _ h => h.elim))
            clear hf6 q0 q1
            by_cases h8 : 8 < n2
            case' pos =>
              have i8 : (8 : Int) < (n2 : Int) := by omega
              have i9 : 8 ≤ k2 := by omega
              go_upto_region 24 with fail
              obtain ⟨n8, ops8, hnn, hops, hle8, hn8, hsz8⟩ : ∃ (n8 : Nat) (ops8 : List O4), Value.slice s2 8 k2 = .slice s2 n8 k2 ∧ Reads w (.slice s2 n8 k2) n8 4 (rowO ops8) ∧ n8 ≤ 8 ∧ ops8.length = n8 ∧ (∀ x ∈ ops8, x.2.1.size ≤ maxLen) :=
                ⟨8, l2.take 8, rfl, by have := reads_pre HR2.out (show 8 ≤ n2 by omega); rwa [rowO_take] at this, by omega, by rw [List.length_take, HN2.out]; omega, fun x hx => HG2.out x (List.mem_of_mem_take hx)⟩
              rw [hnn]
              clear hnn i8 i9
            case' neg =>
              have i8 : ¬ (8 : Int) < (n2 : Int) := by omega
              go_upto_region 24 with fail
              obtain ⟨n8, ops8, hnn, hops, hle8, hn8, hsz8⟩ : ∃ (n8 : Nat) (ops8 : List O4), Value.slice s2 n2 k2 = .slice s2 n8 k2 ∧ Reads w (.slice s2 n8 k2) n8 4 (rowO ops8) ∧ n8 ≤ 8 ∧ ops8.length = n8 ∧ (∀ x ∈ ops8, x.2.1.size ≤ maxLen) :=
                ⟨n2, l2, rfl, HR2.out, by omega, HN2.out, HG2.out⟩
              rw [hnn]
              clear hnn i8
            all_goals
              have z0 := HM6.out.c0
              have z1 := HM6.out.c1
              have hro : ∀ wx, Fr (fun _ => False) w6 wx → Reads wx (.slice s2 n8 k2) n8 4 (rowO ops8) := fun wx hf => reads_old hops (HF6.out.trans hf (fun _ _ h => h.elim)) (fun k hk h => by omega)
              have hspl := split_any w6 ep' a' j c' l' HM6.out.2 HRk.out s2 n8 k2 ops8 (hro w6 (Fr.refl _ _)) hn8 (by omega) hsz8
              obtain ⟨S, hS⟩ : ∃ S, splitG (ownAt l' ops8) n8 3 = S := ⟨_, rfl⟩
              have hS3 := splitG_len (ownAt l' ops8) n8 3
              have hmemS : ∀ x ∈ S, ∃ g : Nat, x.1 = (g : Int) ∧ ∀ y ∈ x.2, ∃ q : Nat, y = (q : Int) ∧ q < n8 ∧ ownAt l' ops8 q = (g : Int) := fun x hx => by
                rw [← hS] at hx
                obtain ⟨g, rfl, _, _⟩ := splitG_mem hx
                exact ⟨g, rfl, fun y hy => idx_mem hy⟩
              have htot : total S = n8 := by
                rw [← hS, total_cnt]
                refine cnt_all _ 3 n8 (fun k hk => ?_)
                unfold ownAt
                obtain ⟨x, hx⟩ : ∃ x, ops8[k]? = some x := ⟨_, List.getElem?_eq_getElem (by omega)⟩
                rw [hx]
                obtain ⟨h0, h1⟩ := hashF_lt x.2.1
                exact (right_own HRk.out _ h0 h1).2
              rw [hS] at hspl hS3
              have HSPL := hide hspl
              have HRO := hide hro
              have HMEM := hide hmemS
              have HTOT := hide htot
              have HN8 := hide hn8
              have HSZ8 := hide hsz8
              clear hspl hro hmemS htot hn8 hsz8 hops hS h8
              go_wp2_with fail
              refine HSPL.out.mono ?_
              rintro e w7 ⟨vg, va, vs, rfl, hsp, hf7⟩
              obtain ⟨Ln, hLn⟩ : ∃ Ln, S.length = Ln := ⟨_, rfl⟩
              have hgo := hsp.g
              have hao := hsp.a
              have hvl := hsp.len
              rw [hLn] at hgo hao hS3 hvl
              obtain ⟨ag, cg, rfl⟩ := own_shape hgo
              obtain ⟨aa, ca, rfl⟩ := own_shape hao
              have HGO := hide (Reads.of_own hgo)
              have HAO := hide (Reads.of_own hao)
              have HSP := hide hsp
              have HLn := hide hLn
              have HVL := hide hvl
              have HM7 := hide (HM6.out.fr0 hf7)
              have HF7 := hide hf7
              clear hgo hao hsp hLn hvl hf7 z0 z1
              go_upto_region 29 with fail
              go_loopw [18, 19] (fun cc i wx => ∃ i' : Nat, cc = .int .i64 (total (S.take i') : Nat) ∧ i = .int .i64 i' ∧ i' ≤ Ln ∧ Fr (fun _ => False) w7 wx) (fun _ i _ => Ln - (intOf i).toNat)
              case atStart => exact ⟨0, rfl, rfl, Nat.zero_le _, Fr.refl _ _⟩
              case round =>
                obtain ⟨i', rfl, rfl, hi', hf⟩ := hrel
                have HFi := hide hf
                by_cases hil : i' < Ln
                · obtain ⟨x, hx⟩ : ∃ x, S[i']? = some x := ⟨_, List.getElem?_eq_getElem (by have := HLn.out; omega)⟩
                  obtain ⟨v, hv⟩ : ∃ v, vs[i']? = some v := ⟨_, List.getElem?_eq_getElem (by have := HVL.out; omega)⟩
                  obtain ⟨hrd, _⟩ := HSP.out.rd i' x v hx hv
                  obtain ⟨g, hg1, hg2⟩ := HMEM.out x (List.mem_of_getElem? hx)
                  have htk := total_take S i' x hx
                  have htl := total_le S (i' + 1)
                  obtain ⟨x1, I⟩ := x
                  simp only at hg1 hg2 hrd htk
                  subst hg1
                  obtain ⟨Li, hLi⟩ : ∃ Li, I.length = Li := ⟨_, rfl⟩
                  rw [hLi] at hrd htk
                  obtain ⟨-, av, cv, rfl, -, -, hcv⟩ := id hrd
                  obtain ⟨-, ag1, cg1, eg, -, -, hcg⟩ := id HGO.out
                  cases eg
                  obtain ⟨bg, og, rfl, hgc⟩ := hcg i' (.int .i64 g) (by rw [List.getElem?_map, hx]; rfl)
                  obtain ⟨-, aa1, ca1, ea, -, -, hca⟩ := id HAO.out
                  cases ea
                  obtain ⟨ba, oa, rfl, hac⟩ := hca i' _ hv
                  have hbg := World.block_lt_of_cell? w7 _ hgc
                  have hba := World.block_lt_of_cell? w7 _ hac
                  have hcc : ∀ wx, Fr (fun _ => False) w7 wx → wx.cell? ⟨bg, og + i', none⟩ = some (.int .i64 g) ∧ wx.cell? ⟨ba, oa + i', none⟩ = some (.slice av Li cv) ∧ wx.cell? ⟨pb, 0, none⟩ = some (.int .i64 ep') ∧ wx.cell? ⟨pb, 1, none⟩ = some (.slice a' j c') := fun wx hf =>
                    ⟨by rw [World.cell?_of_block (w := w7) (hf.block bg hbg id)]; exact hgc, by rw [World.cell?_of_block (w := w7) (hf.block ba hba id)]; exact hac, (HM7.out.fr0 hf).c0, (HM7.out.fr0 hf).c1⟩
                  obtain ⟨t0, t1, t2, t3⟩ := hcc wr hf
                  have ii1 : (i' : Int) < (Ln : Int) := by omega
                  have ii0 : (0 : Int) ≤ (i' : Int) := by omega
                  have hn8b := HTOT.out
                  have HCC := hide hcc
                  have HRDv := hide hrd
                  have HG2v := hide hg2
                  have HTK := hide htk
                  have HLI := hide hLi
                  obtain ⟨T, hT⟩ : ∃ T, total (S.take i') = T := ⟨_, rfl⟩
                  rw [hT] at htk ⊢
                  have HT := hide hT
                  have hTl : T + Li ≤ 8 := by omega
                  clear hx hv hrd hg2 htk htl hLi hcv hcg hca hgc hac hcc hT hf
                  go_upto_region 32 with fail
                  go_loopw [18, 20] (fun cc kk wx => ∃ k' : Nat, cc = .int .i64 ((T + k' : Nat) : Int) ∧ kk = .int .i64 k' ∧ k' ≤ Li ∧ Fr (fun _ => False) w7 wx) (fun _ kk _ => Li - (intOf kk).toNat)
                  case atStart => exact ⟨0, rfl, rfl, Nat.zero_le _, HFi.out⟩
                  case round =>
                    obtain ⟨k', rfl, rfl, hk', hf⟩ := hrel
                    have HFk2 := hide hf
                    obtain ⟨t0, t1, t2, t3⟩ := HCC.out wr hf
                    by_cases hkl : k' < Li
                    · obtain ⟨y, hy⟩ : ∃ y, I[k']? = some y := ⟨_, List.getElem?_eq_getElem (by have := HLI.out; omega)⟩
                      obtain ⟨q, rfl, hq1, hq2⟩ := HG2v.out y (List.mem_of_getElem? hy)
                      obtain ⟨-, av1, cv1, ev, -, -, hcv⟩ := id HRDv.out
                      cases ev
                      obtain ⟨bv, ov, rfl, hvc⟩ := hcv k' (.int .i64 q) (by unfold ints; rw [List.getElem?_map, hy]; rfl)
                      have hbv := World.block_lt_of_cell? w7 _ hvc
                      obtain ⟨o4, ho4⟩ : ∃ x, ops8[q]? = some x := ⟨_, List.getElem?_eq_getElem (by have := HN8.out; omega)⟩
                      have hxs := HSZ8.out o4 (List.mem_of_getElem? ho4)
                      have hoa : ownF l' (hashF o4.2.1) = (g : Int) := by rw [← hq2]; unfold ownAt; rw [ho4]
                      obtain ⟨bo, oo, rfl, hlo, hco⟩ := row_cells oc_len (HRO.out w7 HF7.out) ho4 (by decide)
                      have hcc2 : ∀ wx, Fr (fun _ => False) w7 wx → wx.cell? ⟨bv, ov + k', none⟩ = some (.int .i64 q) ∧ wx.cell? ⟨bo, oo + q * 4 + 1, none⟩ = some (.string o4.2.1) := fun wx hf =>
                        ⟨by rw [World.cell?_of_block (w := w7) (hf.block bv hbv id)]; exact hvc, hco 1 (.string o4.2.1) rfl wx (hf.block bo hlo id)⟩
                      have how : ∀ wx, Fr (fun _ => False) w7 wx → Calls Try.prog 12 #[.agg #[.int .i64 ep', .slice a' j c'], .string o4.2.1] wx fun e w' => e = .returned (.tuple #[.int .i64 g, .bool true]) ∧ Fr (fun _ => False) wx w' := fun wx hf => by
                        have := ownerM wx ep' a' j c' l' (HM7.out.fr0 hf).2 HRk.out o4.2.1 hxs
                        rwa [hoa] at this
                      obtain ⟨t4, t5⟩ := hcc2 wr hf
                      generalize o4.2.1 = str at *
                      have HCC2 := hide hcc2
                      have HOW := hide how
                      have iq1 : (q : Int) < (n8 : Int) := by omega
                      have iq0 : (0 : Int) ≤ (q : Int) := by omega
                      have ik1 : (k' : Int) < (Li : Int) := by omega
                      have ik0 : (0 : Int) ≤ (k' : Int) := by omega
                      have FR0 := hide (hf.drew)
                      clear hy hcv hvc ho4 hxs hoa hco hcc2 how hf hq2
                      go_wp2_with fail
                      go_region_held3 (fun w' => w'.cell? ⟨pb, 0, none⟩ = some (.int .i64 ep') ∧ w'.cell? ⟨pb, 1, none⟩ = some (.slice a' j c') ∧ w'.cell? ⟨ba, oa + i', none⟩ = some (.slice (some ⟨bv, ov, none⟩) Li cv) ∧ w'.cell? ⟨bv, ov + k', none⟩ = some (.int .i64 q) ∧ w'.cell? ⟨bo, oo + q * 4 + 1, none⟩ = some (.string str)) (go_keep)
                        ((go_at_call 12; with_reducible refine (HOW.out _ FR0.out).mono ?_; rintro e y1 ⟨rfl, hfy⟩; have hfz := FR0.out.trans hfy (fun _ _ h => h); obtain ⟨p0, p1, p2, p3⟩ := HCC.out y1 hfz; obtain ⟨p4, p5⟩ := HCC2.out y1 hfz; have T1 := hide hfz; clear hfy hfz))
                      all_goals
                        go_wp2_with fail
                        go_roundw
                        case rel => exact ⟨k' + 1, by first | rfl | go_num | (congr 1; omega), by go_num, by omega, T1.out⟩
                        case measure => simp [intOf]; omega
                    · have hke : k' = Li := by omega
                      subst hke
                      have ik1 : ¬ (k' : Int) < (k' : Int) := by omega
                      clear hf
                      go_wp2_with fail
                      go_roundw
                      case rel => exact ⟨i' + 1, by rw [HTK.out, HT.out], by go_num, by omega, HFk2.out⟩
                      case measure => simp [intOf]; omega
                · have hie : i' = Ln := by omega
                  subst hie
                  have ii1 : ¬ (i' : Int) < (i' : Int) := by omega
                  have htt : total (S.take i') = n8 := by rw [List.take_of_length_le (by rw [HLn.out]; exact Nat.le_refl _)]; exact HTOT.out
                  rw [htt]
                  clear hf htt
                  go_wp2_with fail
                  refine (known_any _).mono ?_
                  rintro e yk ⟨rfl, hfk⟩
                  go_wp2_with fail
                  go_ret
                  exact ⟨rfl, (((HF6.out.trans HF7.out (fun _ _ h => h.elim)).trans HFi.out (fun _ _ h => h.elim)).trans hfk (fun _ _ h => h.elim)).toBelow (Nat.le_refl _) (fun j hj h => by omega)⟩
end Go.Proofs.Ytkaibekeokkpnaa.RangesWhole
