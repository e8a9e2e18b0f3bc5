/- Accept of the document's acceptor, where it takes. -/
import Derived.Test.YthekgecaeblbbaaRefBallot2
namespace Go.Proofs.Ythekgecaeblbbaa
open Go.RowKit Go.Maps Go.Cv Go.Shelf
set_option linter.unusedVariables false

/-- One vote seen: the new list, whether the new vote is in it. -/
def acS (x : Vt) (st : List Vt × Bool) (y : Vt) : List Vt × Bool :=
  let o := if st.2 = false ∧ x.1 ≤ y.1 then st.1 ++ [x] else st.1
  (if y.1 = x.1 then o else o ++ [y], st.2 || decide (x.1 ≤ y.1))
def acF (x : Vt) (st : List Vt × Bool) : List Vt := if st.2 then st.1 else st.1 ++ [x]

theorem acS_done (x : Vt) : ∀ (l o : List Vt), (∀ y ∈ l, x.1 < y.1) → l.foldl (acS x) (o, true) = (o ++ l, true)
  | [], o, _ => by simp
  | y :: r, o, h => by
    have h1 := h y List.mem_cons_self
    rw [List.foldl_cons]
    have e : acS x (o, true) y = (o ++ [y], true) := by
      unfold acS; simp only [Bool.true_eq_false, false_and, if_false, Bool.true_or]; rw [if_neg (by omega)]
    rw [e, acS_done x r _ (fun z hz => h z (List.mem_cons_of_mem _ hz))]
    simp
theorem filter_all {l : List Vt} {s : Int} (h : ∀ y ∈ l, s < y.1) : l.filter (fun y => decide (y.1 < s)) = [] ∧ l.filter (fun y => decide (s < y.1)) = l :=
  ⟨List.filter_eq_nil_iff.2 (fun y hy => by have := h y hy; simp; omega), List.filter_eq_self.2 (fun y hy => by simpa using h y hy)⟩
theorem acS_all (x : Vt) : ∀ (l o : List Vt), Sorted l → acF x (l.foldl (acS x) (o, false)) = o ++ putV l x
  | [], o, _ => by simp [acF, putV]
  | y :: r, o, h => by
    obtain ⟨h1, h2⟩ := List.pairwise_cons.1 h
    rw [List.foldl_cons]
    by_cases c1 : y.1 < x.1
    · have e : acS x (o, false) y = (o ++ [y], false) := by
        have q1 : ¬ x.1 ≤ y.1 := by omega
        have q2 : ¬ y.1 = x.1 := by omega
        simp [acS, q1, q2]
      rw [e, acS_all x r _ h2]
      unfold putV
      simp only [List.filter_cons, decide_eq_true c1, decide_eq_false (show ¬ x.1 < y.1 by omega), if_true, Bool.false_eq_true, if_false]
      simp
    · by_cases c2 : y.1 = x.1
      · have e : acS x (o, false) y = (o ++ [x], true) := by
          simp [acS, c2]
        have hr : ∀ z ∈ r, x.1 < z.1 := fun z hz => by have := h1 z hz; omega
        rw [e, acS_done x r _ hr]
        obtain ⟨f1, f2⟩ := filter_all hr
        unfold putV acF
        simp only [List.filter_cons, decide_eq_false c1, decide_eq_false (show ¬ x.1 < y.1 by omega), Bool.false_eq_true, if_false, f1, f2, if_true]
        simp
      · have e : acS x (o, false) y = (o ++ [x] ++ [y], true) := by
          have q1 : x.1 ≤ y.1 := by omega
          simp [acS, q1, c2]
        have hr : ∀ z ∈ r, x.1 < z.1 := fun z hz => by have := h1 z hz; omega
        rw [e, acS_done x r _ hr]
        obtain ⟨f1, f2⟩ := filter_all hr
        unfold putV acF
        simp only [List.filter_cons, decide_eq_false c1, decide_eq_true (show x.1 < y.1 by omega), Bool.false_eq_true, if_false, f1, f2, if_true]
        simp

theorem reads_vote (w : World) (x : Vt) (t : TypeId) : Reads (w.alloc (.cells #[.int .i64 x.1, .int .i64 x.2.1.1, .int .i64 x.2.1.2, .string x.2.2] t)) (.slice (some ⟨w.heap.size, 0, none⟩) 1 1) 1 4 (vcells x) :=
  ⟨rfl, _, _, rfl, (by intro h; cases h), Nat.le_refl _, fun i u hu => ⟨_, _, rfl, by rw [cell_of_block (block_alloc w _)]; simpa [vcells] using hu⟩⟩
theorem rowV_snoc (l : List Vt) (x : Vt) : rowV (l ++ [x]) = rowV l ++ vcells x := by simp [rowV]

set_option maxRecDepth 100000 in
set_option maxHeartbeats 6400000 in
theorem rAccept_yes (w : World) (rb : Nat) (u : Value) (p : Bt) (l : List Vt) (h : Ra w rb u p l) (hl : l.length ≤ 1000) (hst : Sorted l) (b : Bt) (s : Int) (v : ByteArray) (hb : less b p = false) (hz : b ≠ (0, 0)) (h0 : 0 ≤ s) (h1 : s < 512) :
    Calls Try.prog 23 #[.pointer (some ⟨rb, 0, none⟩), .agg (bcells b), .int .i64 s, .string v] w fun e w' => e = .returned (.bool true) ∧ RaT w w' rb u b (putV l (s, b, v)) := by
  obtain ⟨i0, hi0, hz0, hz1, hz2⟩ := info_parts infoVote
  obtain ⟨p1, p2⟩ := p
  obtain ⟨b1, b2⟩ := b
  have hL : ∀ w, Calls Try.prog 21 #[.agg #[.int .i64 b1, .int .i64 b2], .agg #[.int .i64 p1, .int .i64 p2]] w fun e w' => e = .returned (.bool false) ∧ Fr (fun _ => False) w w' := fun w => by
    have := rLess_any w (b1, b2) (p1, p2)
    rwa [hb] at this
  have hbe : (b1 == 0 && b2 == 0) = false := by
    rw [Bool.and_eq_false_iff]
    by_cases e : b1 = 0
    · right; rw [beq_eq_false_iff_ne]; intro e2; exact hz (by rw [e, e2])
    · left; rw [beq_eq_false_iff_ne]; exact e
  have hd0 : decide (s < 0) = false := by simpa using h0
  have hd1 : decide (512 ≤ s) = false := by simpa using h1
  have hEq : ∀ w, (binOp .eql 23 (.agg #[.int .i64 b1, .int .i64 b2]) (.agg #[.int .i64 0, .int .i64 0])).run Try.prog w = .ok (.bool false) w := fun w => by rw [run_eqB, hbe]
  obtain ⟨n, hn⟩ : ∃ n, l.length = n := ⟨_, rfl⟩
  have hrd := Reads.of_own h.own
  rw [hn] at hrd hl
  obtain ⟨-, a0, cp, rfl, -, -, -⟩ := id hrd
  have hn9 : (n : Int) ≤ 1000 := by omega
  have hab := lt_of_block h.blk
  obtain ⟨w0, hw0⟩ : ∃ w0, w.alloc (.cells #[.int .i64 b1, .int .i64 b2] 23) = w0 := ⟨_, rfl⟩
  have hF : Fr (fun _ => False) w w0 := by rw [← hw0]; exact Fr.alloc _ _ _
  have hxb : w0.heap[w.heap.size]? = some (.cells #[.int .i64 b1, .int .i64 b2] 23 (0, 0)) := by rw [← hw0]; exact block_alloc _ _
  have hA0 := h.fr0 hF
  have hC : ∀ wx, Fr (fun _ => False) w0 wx → wx.cell? ⟨rb, 0, none⟩ = some (.int .i64 p1) ∧ wx.cell? ⟨rb, 1, none⟩ = some (.int .i64 p2) ∧ wx.cell? ⟨w.heap.size, 0, none⟩ = some (.int .i64 b1) ∧ wx.cell? ⟨w.heap.size, 1, none⟩ = some (.int .i64 b2) ∧ wx.frozen? ⟨rb, 0, none⟩ = false ∧ wx.frozen? ⟨rb, 1, none⟩ = false := fun wx hf => by
    have e1 := (hA0.fr0 hf).blk
    have e2 := (hf.block _ (lt_of_block hxb) id).trans hxb
    exact ⟨by rw [cell_of_block e1]; rfl, by rw [cell_of_block e1]; rfl, by rw [cell_of_block e2]; rfl, by rw [cell_of_block e2]; rfl, free_of_block e1, free_of_block e1⟩
  obtain ⟨k0, k1, k2, k3, k4, k5⟩ := hC w0 (Fr.refl _ _)
  have HC := hide hC
  have HW0 := hide hw0
  have HF := hide hF
  have HL := hide hL
  have HA := hide hA0
  have HXB := hide hxb
  have HN := hide hn
  have HRD := hide hrd
  have HST := hide hst
  have hs0 : w.heap.size < w0.heap.size := lt_of_block hxb
  clear hC hw0 hF hL hA0 h hb hz hxb hbe hn hrd hst
  show Calls _ _ #[.pointer (some ⟨rb, 0, none⟩), .agg #[.int .i64 b1, .int .i64 b2], .int .i64 s, .string v] w _
  go_enter Try.func23, Try.ntmps23
  go_wp2_with fail
  rw [HW0.out]
  go_region_held3 (fun w' => w'.cell? ⟨rb, 0, none⟩ = some (.int .i64 p1) ∧ w'.cell? ⟨rb, 1, none⟩ = some (.int .i64 p2) ∧ w'.cell? ⟨w.heap.size, 0, none⟩ = some (.int .i64 b1) ∧ w'.cell? ⟨w.heap.size, 1, none⟩ = some (.int .i64 b2))
    (go_keep)
    ((go_at_call 21; refine (HL.out _).mono ?_; rintro e w1 ⟨rfl, hf1⟩; have hf2 := (Fr.refl (fun _ => False) w0).drew.trans hf1 (fun _ _ h => h); obtain ⟨g0, g1, g2, g3, g4, g5⟩ := HC.out w1 hf2; have HF2 := hide hf2; clear hf1 hf2))
  all_goals
    have HA1 := hide (HA.out.fr0 HF2.out)
    obtain ⟨w2, hw2⟩ : ∃ w2, (w1.setCell ⟨rb, 0, none⟩ (.int .i64 b1)).setCell ⟨rb, 1, none⟩ (.int .i64 b2) = w2 := ⟨_, rfl⟩
    have hf3 : Fr (fun k => k = rb) w1 w2 := by rw [← hw2]; exact (Fr.setCell (S := fun k => k = rb) _ _ _ rfl).trans (Fr.setCell (S := fun k => k = rb) _ _ _ rfl) (fun _ _ h => h)
    have hA2 : Ra w2 rb (.slice a0 n cp) (b1, b2) l := by rw [← hw2]; exact HA1.out.promise b1 b2
    have hfw := ((HF.out.trans HF2.out (fun _ _ h => h)).mono (S' := fun k => k = rb) (fun _ _ h => h.elim)).trans hf3 (fun _ _ h => h)
    have hxb2 := (hf3.block w.heap.size (lt_of_block ((HF2.out.block _ (lt_of_block HXB.out) id).trans HXB.out)) (by omega)).trans ((HF2.out.block _ (lt_of_block HXB.out) id).trans HXB.out)
    have hq2 : w.heap.size < w2.heap.size := lt_of_block hxb2
    obtain ⟨B, hB⟩ : ∃ B, w2.heap.size = B := ⟨_, rfl⟩
    have HRD2 : Hid (Reads w2 (.slice a0 n cp) n 4 (rowV l)) := by
      have := Reads.of_own hA2.own
      rw [HN.out] at this; exact this
    obtain ⟨xb, hxbe⟩ : ∃ xb, w.heap.size = xb := ⟨_, rfl⟩
    have HXE := hide hxbe
    have HW2 := hide hw2
    have HA2 := hide hA2
    have HFW := hide hfw
    have HX2 := hide hxb2
    have HBE := hide hB
    have hqB : w.heap.size < B := by omega
    have hrB : rb < B := by omega
    clear hw2 hf3 hA2 hfw hxb2 hB k0 k1 k2 k3 k4 k5 hxbe
    go_upto_region 4 with fail
    rw [HW2.out]
    clear g0 g1 g2 g3 g4 g5
    go_wp2_with fail
    go_loopw [9, 10, 11] (fun o d i wr => ∃ (k m : Nat) (ol : List Vt) (dn : Bool), i = .int .i64 k ∧ k ≤ n ∧ m ≤ k + k ∧ d = .bool dn ∧ ol.length = m ∧ Hid ((l.take k).foldl (acS (s, (b1, b2), v)) ([], false) = (ol, dn)) ∧ wr.ownsRow B 40 4 o m (rowV ol) ∧ Fr (fun _ => False) w2 wr) (fun _ _ i _ => n - (intOf i).toNat)
    case atStart => exact ⟨0, 0, [], false, rfl, Nat.zero_le _, Nat.zero_le _, rfl, rfl, rfl, World.ownsRow_nil _ _ _ _, Fr.refl _ _⟩
    case round =>
      obtain ⟨k, m, ol, dn, rfl, hk, hmk, rfl, hm, HFD, hown, hf⟩ := hrel
      obtain ⟨a9, c9, rfl⟩ := own_shape hown
      have hblk := (hf.block rb (by rw [HBE.out]; exact hrB) id).trans HA2.out.blk
      have c1 : wr.cell? ⟨rb, 2, none⟩ = some (.slice a0 n cp) := by rw [cell_of_block hblk]; rfl
      have hxbl := (hf.block w.heap.size (by rw [HBE.out]; exact hqB) id).trans HX2.out
      have x0 : wr.cell? ⟨w.heap.size, 0, none⟩ = some (.int .i64 b1) := by rw [cell_of_block hxbl]; rfl
      have x1 : wr.cell? ⟨w.heap.size, 1, none⟩ = some (.int .i64 b2) := by rw [cell_of_block hxbl]; rfl
      have HO := hide hown
      have HG := hide hf
      have HM := hide hm
      clear hown hf hblk hm hxbl
      by_cases hlt : k < n
      · obtain ⟨y, hy⟩ : ∃ y, l[k]? = some y := ⟨_, List.getElem?_eq_getElem (by have := HN.out; omega)⟩
        obtain ⟨b0, o0, rfl, hlt0, hcells⟩ := row_cells vcells_len HRD2.out hy (by decide)
        have ik0 : (0 : Int) ≤ (k : Int) := by omega
        have ik1 : (k : Int) < (n : Int) := by omega
        have hfd : (l.take (k + 1)).foldl (acS (s, (b1, b2), v)) ([], false) = acS (s, (b1, b2), v) (ol, dn) y := by
          rw [List.take_add_one, hy, Option.toList_some, List.foldl_append, HFD.out]; rfl
        obtain ⟨y1, ⟨y2, y3⟩, y4⟩ := y
        have HFD2 := hide hfd
        have HCL := hide hcells
        clear hfd hcells hy
        have e0 := HCL.out 0 (.int .i64 y1) rfl wr (HG.out.block _ hlt0 id)
        rw [Nat.add_zero] at e0
        have hin : (dn = false ∧ s ≤ y1) ∨ dn = true ∨ (dn = false ∧ y1 < s) := by
          cases dn <;> simp <;> omega
        rcases hin with ⟨rfl, hsy⟩ | rfl | ⟨rfl, hsy⟩
        case' inl =>
          have HOa := hide (HO.out.alloc (.cells #[.int .i64 s, .int .i64 b1, .int .i64 b2, .string v] 40))
          have HRd := hide (reads_vote wr (s, (b1, b2), v) 40)
          have HONE := hide (vone (s, (b1, b2), v))
          have hM : m + 1 ≤ maxLen := by unfold maxLen; omega
          have HM2 : Hid ((m + 1) * 40 ≤ 140737488355328) := hide (by omega)
          have HM3 : Hid (B ≤ (wr.alloc (.cells #[.int .i64 s, .int .i64 b1, .int .i64 b2, .string v] 40)).heap.size) := hide (by have := HG.out.size; have := HBE.out; simp; omega)
          go_upto_region 12 with (at_builtin; refine wpList_append_reads _ rfl _ _ _ rfl B 40 i0 _ 4 40 Try.underlying34 hi0 hz0 hz1 hz2 voteZero_size (by decide) (.slice a9 m c9) m (rowV ol) rfl HOa.out _ 1 (vcells (s, (b1, b2), v)) rfl HRd.out HONE.out hM HM2.out HM3.out ?_; intro v2 w4 hown2 hgrow hat; obtain ⟨a8, c8, rfl⟩ := own_shape hown2; have HO2 := hide hown2; have HG2 := hide hgrow; clear hown2 hgrow hat)
          obtain ⟨m', ol', a', c', wr', he, HO', HM', HG', hmk', HST'⟩ : ∃ (m' : Nat) (ol' : List Vt) (a' : Option Addr) (c' : Nat) (wr' : World), (Value.slice a8 (m + 1) c8 = .slice a' m' c' ∧ w4 = wr') ∧ Hid (wr'.ownsRow B 40 4 (.slice a' m' c') m' (rowV ol')) ∧ Hid (ol'.length = m') ∧ Hid (Fr (fun _ => False) w2 wr') ∧ m' ≤ k + k + 1 ∧ Hid ((l.take (k + 1)).foldl (acS (s, (b1, b2), v)) ([], false) = (if y1 = s then ol' else ol' ++ [(y1, (y2, y3), y4)], true)) := by
            have hgr : Fr (fun j => w2.heap.size ≤ j) wr w4 := ((Fr.alloc (fun _ => False) wr _).mono (fun _ _ h => h.elim)).trans (Fr.grown (S := fun j => w2.heap.size ≤ j) HG2.out (fun j hj => by rw [HBE.out]; exact (HO.out.lt j hj).1)) (fun _ _ h => h)
            refine ⟨m + 1, ol ++ [(s, (b1, b2), v)], a8, c8, w4, ⟨rfl, rfl⟩, ?_, ?_, ((HG.out.mono (S' := fun j => w2.heap.size ≤ j) (fun _ _ h => h.elim)).trans hgr (fun _ _ h => h)).fresh (fun _ h => h), by omega, ?_⟩
            · show World.ownsRow _ _ _ _ _ _ _
              rw [rowV_snoc]; exact HO2.out
            · show List.length _ = _
              rw [List.length_append, HM.out]; rfl
            · show _ = _
              rw [HFD2.out]; unfold acS; simp [hsy]
          rw [he.1, he.2]
          clear HO2 HG2 HOa HRd HM2 HM3 HONE hM he
        case' inr.inl =>
          go_upto_region 12 with fail
          obtain ⟨m', ol', a', c', wr', he, HO', HM', HG', hmk', HST'⟩ : ∃ (m' : Nat) (ol' : List Vt) (a' : Option Addr) (c' : Nat) (wr' : World), (Value.slice a9 m c9 = .slice a' m' c' ∧ wr = wr') ∧ Hid (wr'.ownsRow B 40 4 (.slice a' m' c') m' (rowV ol')) ∧ Hid (ol'.length = m') ∧ Hid (Fr (fun _ => False) w2 wr') ∧ m' ≤ k + k + 1 ∧ Hid ((l.take (k + 1)).foldl (acS (s, (b1, b2), v)) ([], false) = (if y1 = s then ol' else ol' ++ [(y1, (y2, y3), y4)], true)) := by
            refine ⟨m, ol, a9, c9, wr, ⟨rfl, rfl⟩, HO.out, HM.out, HG.out, by omega, ?_⟩
            show _ = _
            rw [HFD2.out]; unfold acS
            simp
          rw [he.1, he.2]
          clear he
        case' inr.inr =>
          go_upto_region 12 with fail
          obtain ⟨m', ol', a', c', wr', he, HO', HM', HG', hmk', HST'⟩ : ∃ (m' : Nat) (ol' : List Vt) (a' : Option Addr) (c' : Nat) (wr' : World), (Value.slice a9 m c9 = .slice a' m' c' ∧ wr = wr') ∧ Hid (wr'.ownsRow B 40 4 (.slice a' m' c') m' (rowV ol')) ∧ Hid (ol'.length = m') ∧ Hid (Fr (fun _ => False) w2 wr') ∧ m' ≤ k + k + 1 ∧ Hid ((l.take (k + 1)).foldl (acS (s, (b1, b2), v)) ([], false) = (if y1 = s then ol' else ol' ++ [(y1, (y2, y3), y4)], false)) := by
            refine ⟨m, ol, a9, c9, wr, ⟨rfl, rfl⟩, HO.out, HM.out, HG.out, by omega, ?_⟩
            show _ = _
            rw [HFD2.out]; unfold acS
            have q1 : ¬ s ≤ y1 := by omega
            simp [q1]
          rw [he.1, he.2]
          clear he
        all_goals
          have hblk' := (HG'.out.block rb (by rw [HBE.out]; exact hrB) id).trans HA2.out.blk
          have c1' : wr'.cell? ⟨rb, 2, none⟩ = some (.slice (some ⟨b0, o0, none⟩) n cp) := by rw [cell_of_block hblk']; rfl
          have hbl' := HG'.out.block _ hlt0 id
          have e0' := HCL.out 0 (.int .i64 y1) rfl wr' hbl'
          rw [Nat.add_zero] at e0'
          have e1' := HCL.out 1 (.int .i64 y2) rfl wr' hbl'
          have e2' := HCL.out 2 (.int .i64 y3) rfl wr' hbl'
          have e3' := HCL.out 3 (.string y4) rfl wr' hbl'
          clear hblk' hbl' c1 x0 x1 e0 HO HG HM HFD HFD2
          by_cases hys : y1 = s
          · have hyb : (y1 != s) = false := by simp [hys]
            have HST2 := HST'
            rw [if_pos hys] at HST2
            clear hys
            go_wp2_with fail
            go_roundw
            case rel => exact ⟨k + 1, m', ol', _, by go_num, by omega, by omega, rfl, HM'.out, HST2.out, HO'.out, HG'.out⟩
            case measure => simp [intOf]; omega
          · have hyb : (y1 != s) = true := by rw [bne_iff_ne]; exact hys
            have HST2 := HST'
            rw [if_neg hys] at HST2
            clear hys
            have HOa := hide (HO'.out.alloc (.cells #[.int .i64 y1, .int .i64 y2, .int .i64 y3, .string y4] 40))
            have HRd := hide (reads_vote wr' (y1, (y2, y3), y4) 40)
            have HONE := hide (vone (y1, (y2, y3), y4))
            have hM : m' + 1 ≤ maxLen := by unfold maxLen; omega
            have HM2 : Hid ((m' + 1) * 40 ≤ 140737488355328) := hide (by omega)
            have HM3 : Hid (B ≤ (wr'.alloc (.cells #[.int .i64 y1, .int .i64 y2, .int .i64 y3, .string y4] 40)).heap.size) := hide (by have := HG'.out.size; have := HBE.out; simp; omega)
            go_wp2_with (at_builtin; refine wpList_append_reads _ rfl _ _ _ rfl B 40 i0 _ 4 40 Try.underlying34 hi0 hz0 hz1 hz2 voteZero_size (by decide) (.slice a' m' c') m' (rowV ol') rfl HOa.out _ 1 (vcells (y1, (y2, y3), y4)) rfl HRd.out HONE.out hM HM2.out HM3.out ?_; intro v2 w4 hown2 hgrow hat; obtain ⟨a8, c8, rfl⟩ := own_shape hown2; have HO2 := hide hown2; have HG2 := hide hgrow; clear hown2 hgrow hat)
            go_roundw
            case rel =>
              have hgr : Fr (fun j => w2.heap.size ≤ j) wr' w4 := ((Fr.alloc (fun _ => False) wr' _).mono (fun _ _ h => h.elim)).trans (Fr.grown (S := fun j => w2.heap.size ≤ j) HG2.out (fun j hj => by rw [HBE.out]; exact (HO'.out.lt j hj).1)) (fun _ _ h => h)
              exact ⟨k + 1, m' + 1, ol' ++ [(y1, (y2, y3), y4)], _, by go_num, by omega, by omega, rfl, by rw [List.length_append, HM'.out]; rfl, HST2.out, by rw [rowV_snoc]; exact HO2.out, ((HG'.out.mono (S' := fun j => w2.heap.size ≤ j) (fun _ _ h => h.elim)).trans hgr (fun _ _ h => h)).fresh (fun _ h => h)⟩
            case measure => simp [intOf]; omega
      · have hkn : k = n := by omega
        subst hkn
        have ik1 : ¬ (k : Int) < (k : Int) := by omega
        have hall := acS_all (s, (b1, b2), v) l [] HST.out
        have hfd := HFD.out
        rw [List.take_of_length_le (by rw [HN.out]; exact Nat.le_refl _)] at hfd
        rw [hfd, List.nil_append] at hall
        have HALL := hide hall
        have hfr := (HFW.out.trans HG.out (fun _ _ h => h.elim))
        have HFR := hide hfr
        have hblk := (HG.out.block rb (by rw [HBE.out]; exact hrB) id).trans HA2.out.blk
        have f2 : wr.frozen? ⟨rb, 2, none⟩ = false := free_of_block hblk
        have HBL := hide hblk
        clear hall hfd hfr hblk
        cases dn with
        | true =>
          go_wp2_with fail
          go_ret
          rw [← HALL.out]
          unfold acF
          rw [if_pos rfl]
          refine ⟨rfl, _, ⟨block_setCell HBL.out _, ?_⟩, .inr (fun j hj => ?_), HFR.out.trans (Fr.setCell (S := fun j => j = rb) _ _ _ rfl) (fun _ _ h => h)⟩
          · rw [HM.out]; exact ownsRow_setCell_below (own_base HO.out hrB) (Nat.lt_succ_self rb) _
          · have := (HO.out.lt j hj).1; omega
        | false =>
          have HOa := hide (HO.out.alloc (.cells #[.int .i64 s, .int .i64 b1, .int .i64 b2, .string v] 40))
          have HRd := hide (reads_vote wr (s, (b1, b2), v) 40)
          have HONE := hide (vone (s, (b1, b2), v))
          have hM : m + 1 ≤ maxLen := by unfold maxLen; omega
          have HM2 : Hid ((m + 1) * 40 ≤ 140737488355328) := hide (by omega)
          have HM3 : Hid (B ≤ (wr.alloc (.cells #[.int .i64 s, .int .i64 b1, .int .i64 b2, .string v] 40)).heap.size) := hide (by have := HG.out.size; have := HBE.out; simp; omega)
          have HRW : Hid (rb < wr.heap.size) := lt_of_block HBL.out
          go_wp2_with (at_builtin; refine wpList_append_reads _ rfl _ _ _ rfl B 40 i0 _ 4 40 Try.underlying34 hi0 hz0 hz1 hz2 voteZero_size (by decide) (.slice a9 m c9) m (rowV ol) rfl HOa.out _ 1 (vcells (s, (b1, b2), v)) rfl HRd.out HONE.out hM HM2.out HM3.out ?_; intro v2 w4 hown2 hgrow hat; obtain ⟨a8, c8, rfl⟩ := own_shape hown2; have HO2 := hide hown2; have hgr : Fr (fun j => B ≤ j) wr w4 := ((Fr.alloc (fun _ => False) wr _).mono (fun _ _ h => h.elim)).trans (Fr.grown (S := fun j => B ≤ j) hgrow (fun j hj => (HO.out.lt j hj).1)) (fun _ _ h => h); have hb4 := (hgr.block rb HRW.out (by omega)).trans HBL.out; have c4 := cell_of_block (j := 2) hb4; have f4 := free_of_block (j := 2) hb4; have HB4 := hide hb4; have HGR := hide hgr; clear hown2 hgrow hat hgr hb4)
          go_ret
          rw [← HALL.out]
          unfold acF
          rw [if_neg (by simp)]
          refine ⟨rfl, _, ⟨block_setCell HB4.out _, ?_⟩, .inr (fun j hj => ?_), ?_⟩
          · rw [List.length_append, HM.out, rowV_snoc]; exact ownsRow_setCell_below (own_base HO2.out hrB) (Nat.lt_succ_self rb) _
          · have := (HO2.out.lt j hj).1; omega
          · refine (((HFR.out.mono (S' := fun j => j = rb ∨ B ≤ j) (fun _ _ h => .inl h)).trans HGR.out (fun _ _ h => .inr h)).trans (Fr.setCell (S := fun j => j = rb) _ _ _ rfl) (fun _ _ h => .inl h)).mono (fun j hj h => h.elim id (fun h => by omega))
end Go.Proofs.Ythekgecaeblbbaa
