/- Load of ranges; bytes.Equal. -/
import Derived.Test.YtkaibekeokkpnaaRgSave
import Derived.Test.YtkaibekeokkpnaaWireR
namespace Go.Proofs.Ytkaibekeokkpnaa
open Go.RowKit Go.Maps Go.Cv Go.Shelf
set_option linter.unusedVariables false

theorem equal_any (w : World) (v1 v2 : Value) (l1 l2 : List UInt8) (h1 : Reads w v1 l1.length 1 (bc l1)) (h2 : Reads w v2 l2.length 1 (bc l2)) :
    Calls Try.prog 35 #[v1, v2] w fun e w' => e = .returned (.bool (decide (l1 = l2))) ∧ w' = w := by
  have r1 := run_string_reads w 49 9 5 v1 l1 h1 Try.underlying49 Try.underlying5 Try.underlying9
  have r2 := run_string_reads w 49 9 5 v2 l2 h2 Try.underlying49 Try.underlying5 Try.underlying9
  obtain ⟨b1, hb1⟩ : ∃ b : ByteArray, (⟨l1.toArray⟩ : ByteArray) = b := ⟨_, rfl⟩
  obtain ⟨b2, hb2⟩ : ∃ b : ByteArray, (⟨l2.toArray⟩ : ByteArray) = b := ⟨_, rfl⟩
  have hd : (b1.toList == b2.toList) = decide (l1 = l2) := by
    by_cases e : l1 = l2
    · subst e; rw [hb1] at hb2; subst hb2; simp
    · rw [bytes_beq (fun h => e (by rw [← hb1, ← hb2] at h; simpa using congrArg (fun b : ByteArray => b.data.toList) h))]; simp [e]
  rw [hb1] at r1
  rw [hb2] at r2
  generalize decide (l1 = l2) = q at *
  clear hb1 hb2 h1 h2
  cases q
  all_goals
    go_enter Try.func35, Try.ntmps35
    go_wp2_with fail
    go_ret
    exact ⟨rfl, rfl⟩

/-- One part read. -/
def ldStep (bs : List UInt8) (s : RS × List P3) : RS × List P3 :=
  let a := s.1.get bs 4
  let b := a.2.get bs 4
  let c := b.2.get bs 4
  (c.2, s.2 ++ [((a.1 : Int), (b.1 : Int), (c.1 : Int))])
def ldK (bs : List UInt8) (s : RS × List P3) : Nat → RS × List P3
  | 0 => s
  | j + 1 => ldStep bs (ldK bs s j)
theorem ldK_len (bs : List UInt8) (s : RS × List P3) : ∀ j, (ldK bs s j).2.length = s.2.length + j
  | 0 => rfl
  | j + 1 => by rw [ldK, ldStep]; simp [ldK_len bs s j]; omega
/-- What Load answers. -/
def loadT (bs : List UInt8) : Option (Int × List P3) :=
  let g := (⟨0, 0, 0⟩ : RS).get bs 4
  let c := g.2.count bs 256
  let s := ldK bs (c.2, []) c.1
  if (s.1.end_ bs).1 ≠ 0 ∨ rightM g.1 s.2 = false ∨ sv g.1 s.2 ≠ bs then none else some ((g.1 : Int), s.2)
def Loaded (bs : List UInt8) (e : Ending) (w' : World) : Prop :=
  (loadT bs = none ∧ e = .returned (.tuple #[.agg #[.int .i64 0, .slice none 0 0], .int .i64 12])) ∨
  ∃ ep l a n c, loadT bs = some (ep, l) ∧ e = .returned (.tuple #[.agg #[.int .i64 ep, .slice a n c], .int .i64 0]) ∧ RD w' a n c l

/-- The same, with the parts in new memory. -/
def LoadedN (bs : List UInt8) (w : World) (e : Ending) (w' : World) : Prop :=
  (loadT bs = none ∧ e = .returned (.tuple #[.agg #[.int .i64 0, .slice none 0 0], .int .i64 12])) ∨
  ∃ ep l a n c, loadT bs = some (ep, l) ∧ e = .returned (.tuple #[.agg #[.int .i64 ep, .slice a n c], .int .i64 0]) ∧ RD w' a n c l ∧ ∀ p, a = some p → w.heap.size ≤ p.block

set_option maxRecDepth 100000 in
set_option maxHeartbeats 3200000 in
theorem load_new (w : World) (v : Value) (bs : List UInt8) (h : Reads w v bs.length 1 (bc bs)) (hlen : bs.length ≤ 140737488355328) :
    Calls Try.prog 16 #[v] w fun e w' => LoadedN bs w e w' ∧ Fr (fun _ => False) w w' := by
  obtain ⟨i0, hi0, hz0, hz1, hz2⟩ := info_parts infoPart
  obtain ⟨bn, hbn⟩ : ∃ n, bs.length = n := ⟨_, rfl⟩
  obtain ⟨wa, hwa⟩ : ∃ wa, w.alloc (.cells #[.int .i64 0, .slice none 0 0] 25) = wa := ⟨_, rfl⟩
  obtain ⟨qb, hqb⟩ : ∃ qb, w.heap.size = qb := ⟨_, rfl⟩
  have hfa : Fr (fun _ => False) w wa := by rw [← hwa]; exact Fr.alloc _ _ _
  have hba : wa.heap[qb]? = some (.cells #[.int .i64 0, .slice none 0 0] 25 (0, 0)) := by rw [← hwa, ← hqb]; exact block_alloc _ _
  have hqa := lt_of_block hba
  have hra := reads_old h hfa (fun _ _ => id)
  have hNR := newReader_any wa v bs hra hlen
  have h' := h
  rw [hbn] at h' hlen
  obtain ⟨_, a, cp, rfl, _, _, _⟩ := h'
  have HNR := hide hNR
  have HBN := hide hbn
  have HRA := hide hra
  have HWA := hide hwa
  have HQB := hide hqb
  have HFA := hide hfa
  have HBA := hide hba
  obtain ⟨⟨g, r1⟩, hg⟩ : ∃ p, (⟨0, 0, 0⟩ : RS).get bs 4 = p := ⟨_, rfl⟩
  have HG := hide hg
  obtain ⟨⟨cn, r2⟩, hc⟩ : ∃ p, r1.count bs 256 = p := ⟨_, rfl⟩
  have hcn : cn ≤ 256 := by
    have : (r1.count bs 256).1 = cn := by rw [hc]
    have h2 := count_most bs r1 256
    omega
  have hT : loadT bs = (if ((ldK bs (r2, []) cn).1.end_ bs).1 ≠ 0 ∨ rightM g (ldK bs (r2, []) cn).2 = false ∨ sv g (ldK bs (r2, []) cn).2 ≠ bs then none else some ((g : Int), (ldK bs (r2, []) cn).2)) := by
    unfold loadT; rw [HG.out]; simp only; rw [hc]
  have HT := hide hT
  have HC := hide hc
  clear hNR hbn hg hT hc hwa hqb hfa hba hra h
  go_enter Try.func16, Try.ntmps16
  go_upto_region 1 with fail
  rw [HWA.out, HQB.out]
  go_wp2_with fail
  refine HNR.out.mono ?_
  rintro e w1 ⟨rb, v1, rfl, hrb, hv1, hR1, hf1⟩
  have HR1 := hide hR1
  have HF1 := hide hf1
  have HV1 := hide hv1
  clear hR1 hf1 hv1
  go_wp2_with fail
  refine (rdFour_any w1 rb v1 bs _ HR1.out).mono ?_
  rw [HG.out]
  rintro e w2 ⟨rfl, hR2, hf2⟩
  obtain ⟨mb, hmb⟩ : ∃ mb, w2.heap.size = mb := ⟨_, rfl⟩
  obtain ⟨w3, hw3⟩ : ∃ w3, w2.alloc (.cells #[.int .i64 g, .slice none 0 0] 25) = w3 := ⟨_, rfl⟩
  have hf3 : Fr (fun _ => False) w2 w3 := by rw [← hw3]; exact Fr.alloc _ _ _
  have hrm : rb < mb := by rw [← hmb]; exact lt_of_block hR2.blk
  have hqr : qb < rb := by omega
  have hM3 : Mb w3 mb g (.slice none 0 0) [] := ⟨by rw [← hw3, ← hmb]; exact block_alloc _ _, World.ownsRow_nil _ _ _ _⟩
  have hR3 := hR2.fr hf3 id (fun _ _ => id)
  have hvb : ∀ k, v1.ownBlock = some k → qb < k ∧ k < mb := fun k hk => ⟨by have := HV1.out k hk; omega, by have := (hR2.own.lt k hk).2; omega⟩
  have hq3 : w3.heap[qb]? = some (.cells #[.int .i64 0, .slice none 0 0] 25 (0, 0)) := by
    have e1 := (HF1.out.block qb hqa id).trans HBA.out
    have e2 := (hf2.block qb (lt_of_block e1) (by omega)).trans e1
    exact (hf3.block qb (lt_of_block e2) id).trans e2
  have hF3 : Fr (fun k => qb < k) wa w3 := ((HF1.out.mono (S' := fun k => qb < k) (fun _ _ h => h.elim)).trans (hf2.mono (S' := fun k => qb < k) (fun k _ hk => by omega)) (fun _ _ h => h)).trans hf3 (fun _ _ h => h.elim)
  have HM3 := hide hM3
  have HR3 := hide hR3
  have HVB := hide hvb
  have HQ3 := hide hq3
  have HF3 := hide hF3
  have HW3 := hide hw3
  have HMB := hide hmb
  clear hf3 hM3 hR3 hvb hq3 hF3 hw3 hmb hR2 hf2
  go_upto_region 3 with fail
  rw [HW3.out, HMB.out]
  go_wp2_with fail
  refine (count_any w3 rb v1 bs r1 HR3.out 256).mono ?_
  rw [HC.out]
  rintro e w4 ⟨rfl, hR4, hf4⟩
  have hM4 : Mb w4 mb g (.slice none 0 0) [] := ⟨(hf4.block mb (lt_of_block HM3.out.blk) (by omega)).trans HM3.out.blk, World.ownsRow_nil _ _ _ _⟩
  have hq4 := (hf4.block qb (lt_of_block HQ3.out) (by omega)).trans HQ3.out
  have HR4 := hide hR4
  have HM4 := hide hM4
  have HQ4 := hide hq4
  have HF4 := hide (HF3.out.trans hf4 (fun k _ hk => by omega))
  clear hR4 hf4 hM4 hq4
  go_wp2_with fail
  go_loopw [6] (fun nn wr => ∃ (j q : Nat) (vt : Value), nn = .int .i64 q ∧ j + q = cn ∧ Rd wr rb v1 bs (ldK bs (r2, []) j).1 ∧ Mb wr mb g vt (ldK bs (r2, []) j).2 ∧ wr.heap[qb]? = some (.cells #[.int .i64 0, .slice none 0 0] 25 (0, 0)) ∧ Fr (fun k => qb < k) wa wr)
    (fun nn _ => (intOf nn).toNat)
  case atStart => exact ⟨0, cn, _, rfl, by omega, HR4.out, HM4.out, HQ4.out, HF4.out⟩
  case round =>
    obtain ⟨j, q, vt, rfl, hjq, hr, ht, hq0, hf⟩ := hrel
    have hll := ldK_len bs (r2, []) j
    have hst : ldK bs (r2, []) (j + 1) = ldStep bs (ldK bs (r2, []) j) := rfl
    obtain ⟨⟨rj, lj⟩, hs⟩ : ∃ s, ldK bs (r2, []) j = s := ⟨_, rfl⟩
    rw [hs] at hst hll hr ht
    have hlj : lj.length = j := by simpa using hll
    simp only at hr ht
    have HR := hide hr
    have HTj := hide ht
    have HQ := hide hq0
    have HF := hide hf
    have HS := hide hs
    have HLJ := hide hlj
    clear hll hr ht hf hs hlj hq0
    by_cases hq : q = 0
    · subst hq
      have hjc : j = cn := by omega
      subst hjc
      have hT := HT.out
      rw [HS.out] at hT
      simp only at hT
      obtain ⟨⟨wy, fin⟩, hE⟩ : ∃ p, rj.end_ bs = p := ⟨_, rfl⟩
      have cE := end_any wr rb v1 bs rj HR.out
      rw [hE] at cE hT
      simp only at cE hT
      have CE := hide cE
      have HT2 := hide hT
      clear hT cE hE hst
      obtain ⟨L, hL⟩ : ∃ L, lj.length = L := ⟨_, rfl⟩
      have hL4 : L ≤ 4096 := by have := HLJ.out; omega
      have hown := HTj.out.own
      rw [hL] at hown
      obtain ⟨a', c', rfl⟩ := own_shape hown
      have hrd0 : RD wr a' L c' lj := ⟨hL, by have := Reads.of_own hown; exact this, hL4⟩
      have HRD0 := hide hrd0
      have hcase : ((wy != 0) = true ∧ loadT bs = none) ∨ ((wy != 0) = false ∧ rightM g lj = false ∧ loadT bs = none) ∨ ((wy != 0) = false ∧ rightM g lj = true ∧ sv g lj ≠ bs ∧ loadT bs = none) ∨ ((wy != 0) = false ∧ rightM g lj = true ∧ sv g lj = bs ∧ loadT bs = some ((g : Int), lj)) := by
        have hT := HT2.out
        by_cases h1 : wy = 0
        · cases h2 : rightM g lj with
          | false => right; left; exact ⟨by simp [h1], rfl, by rw [hT, if_pos (.inr (.inl h2))]⟩
          | true =>
            by_cases h3 : sv g lj = bs
            · right; right; right; exact ⟨by simp [h1], rfl, h3, by rw [hT, if_neg (by simp [h1, h2, h3])]⟩
            · right; right; left; exact ⟨by simp [h1], rfl, h3, by rw [hT, if_pos (.inr (.inr h3))]⟩
        · left; exact ⟨by simp [h1], by rw [hT, if_pos (.inl h1)]⟩
      have hblk := HTj.out.blk
      have hcell : ∀ wx, Fr (fun k => k = rb) wr wx → wx.cell? ⟨mb, 0, none⟩ = some (.int .i64 g) ∧ wx.cell? ⟨mb, 1, none⟩ = some (.slice a' L c') ∧ wx.cell? ⟨qb, 0, none⟩ = some (.int .i64 0) ∧ wx.cell? ⟨qb, 1, none⟩ = some (.slice none 0 0) ∧ wx.frozen? ⟨qb, 0, none⟩ = false ∧ wx.frozen? ⟨qb, 1, none⟩ = false := fun wx hf => by
        have e1 := (hf.block mb (lt_of_block hblk) (by omega)).trans hblk
        have e2 := (hf.block qb (lt_of_block HQ.out) (by omega)).trans HQ.out
        exact ⟨by rw [cell_of_block e1]; rfl, by rw [cell_of_block e1]; rfl, by rw [cell_of_block e2]; rfl, by rw [cell_of_block e2]; rfl, free_of_block e2, free_of_block e2⟩
      have hfin : ∀ wx (x y : Value), Fr (fun k => k = rb) wr wx → Fr (fun _ => False) w ((wx.setCell ⟨qb, 0, none⟩ x).setCell ⟨qb, 1, none⟩ y) := fun wx x y hf => by
        have hs : Fr (fun k => k = qb) wx ((wx.setCell ⟨qb, 0, none⟩ x).setCell ⟨qb, 1, none⟩ y) := (Fr.setCell (S := fun k => k = qb) wx ⟨qb, 0, none⟩ x rfl).trans (Fr.setCell (S := fun k => k = qb) _ ⟨qb, 1, none⟩ y rfl) (fun _ _ h => h)
        refine (((HFA.out.mono (S' := fun k => qb ≤ k) (fun _ _ h => h.elim)).trans HF.out (fun k _ hk => by omega)).trans hf (fun k _ hk => by omega)).trans hs (fun k _ hk => by omega) |>.fresh (fun k hk => by have := HQB.out; omega)
      have hrdx : ∀ wx, Fr (fun k => k = rb) wr wx → RD wx a' L c' lj := fun wx hf => ⟨hrd0.1, hrd0.2.1.fr hf (fun a'' n'' c'' e => by have := (hown.lt a''.block (by rw [e]; rfl)).1; omega), hL4⟩
      have hbsx : ∀ wx, Fr (fun k => k = rb) wr wx → Reads wx (.slice a bn cp) bs.length 1 (bc bs) := fun wx hf => by
        have h9 := reads_old HRA.out (HF.out.trans (hf.mono (S' := fun k => qb < k) (fun k _ hk => by omega)) (fun _ _ h => h)) (fun k hk h => by have h1 : wa.heap.size = qb + 1 := by { rw [← HWA.out, ← HQB.out]; simp }; omega)
        rw [HBN.out] at h9 ⊢; exact h9
      have HCELL := hide hcell
      have HFIN := hide hfin
      have HRDX := hide hrdx
      have HBSX := hide hbsx
      clear hown hrd0 hblk hcell hfin hrdx hbsx hL
      rcases hcase with ⟨h1, hl⟩ | ⟨h1, h2, hl⟩ | ⟨h1, h2, h3, hl⟩ | ⟨h1, h2, h3, hl⟩
      · have HL := hide hl
        clear hl
        go_wp2_with fail
        refine CE.out.mono ?_
        rintro e y1 ⟨rfl, hr, hf⟩
        obtain ⟨x0, x1, x2, x3, x4, x5⟩ := HCELL.out y1 hf
        have HFy := hide hf
        clear hr hf
        go_wp2_with fail
        exact bodyPost_ret (v := .tuple #[.agg #[.int .i64 0, .slice none 0 0], .int .i64 12]) (by simp [results, Try.results16, go_sem, x2, x3]) rfl ⟨.inl ⟨HL.out, rfl⟩, HFIN.out _ _ _ HFy.out⟩
      · have HL := hide hl
        have HH2 := hide h2
        clear hl h2
        go_wp2_with fail
        refine CE.out.mono ?_
        rintro e y1 ⟨rfl, hr, hf⟩
        obtain ⟨x0, x1, x2, x3, x4, x5⟩ := HCELL.out y1 hf
        have HFy := hide hf
        clear hr hf
        go_wp2_with fail
        refine (rightC y1 g a' L c' lj (HRDX.out y1 HFy.out)).mono ?_
        rw [HH2.out]
        rintro e y2 ⟨rfl, hf⟩
        have hfy2 := HFy.out.trans hf (fun _ _ h => h.elim)
        obtain ⟨x0, x1, x2, x3, x4, x5⟩ := HCELL.out y2 hfy2
        have HFy2 := hide hfy2
        clear hf hfy2
        go_wp2_with fail
        exact bodyPost_ret (v := .tuple #[.agg #[.int .i64 0, .slice none 0 0], .int .i64 12]) (by simp [results, Try.results16, go_sem, x2, x3]) rfl ⟨.inl ⟨HL.out, rfl⟩, HFIN.out _ _ _ HFy2.out⟩
      all_goals
        have HL := hide hl
        have HH2 := hide h2
        have HH3 := hide h3
        clear hl h2 h3
        go_wp2_with fail
        refine CE.out.mono ?_
        rintro e y1 ⟨rfl, hr, hf⟩
        obtain ⟨x0, x1, x2, x3, x4, x5⟩ := HCELL.out y1 hf
        have HFy := hide hf
        clear hr hf
        go_wp2_with fail
        refine (rightC y1 g a' L c' lj (HRDX.out y1 HFy.out)).mono ?_
        rw [HH2.out]
        rintro e y2 ⟨rfl, hf⟩
        have hfy2 := HFy.out.trans hf (fun _ _ h => h.elim)
        obtain ⟨x0, x1, x2, x3, x4, x5⟩ := HCELL.out y2 hfy2
        have HFy2 := hide hfy2
        clear hf hfy2
        go_wp2_with fail
        refine (save_any y2 g a' L c' lj (HRDX.out y2 HFy2.out)).mono ?_
        rintro e y3 ⟨v', rfl, ho, hf⟩
        have hrs := Reads.of_own ho
        have hfy3 := HFy2.out.trans hf (fun _ _ h => h.elim)
        obtain ⟨x0, x1, x2, x3, x4, x5⟩ := HCELL.out y3 hfy3
        have heq := equal_any y3 _ _ _ _ hrs (HBSX.out y3 hfy3)
        have HEQ := hide heq
        have HFy3 := hide hfy3
        clear hf hfy3 ho hrs heq
        go_wp2_with fail
        refine HEQ.out.mono ?_
      · rw [show decide (sv g lj = bs) = false by simp [HH3.out]]
        rintro e y4 ⟨rfl, rfl⟩
        go_wp2_with fail
        exact bodyPost_ret (v := .tuple #[.agg #[.int .i64 0, .slice none 0 0], .int .i64 12]) (by simp [results, Try.results16, go_sem, x2, x3]) rfl ⟨.inl ⟨HL.out, rfl⟩, HFIN.out _ _ _ HFy3.out⟩
      · rw [show decide (sv g lj = bs) = true by simp [HH3.out]]
        rintro e y4 ⟨rfl, rfl⟩
        go_wp2_with fail
        refine bodyPost_ret (v := .tuple #[.agg #[.int .i64 g, .slice a' L c'], .int .i64 0]) (by simp [results, Try.results16, go_sem, x2, x3]) rfl ⟨.inr ⟨g, lj, a', L, c', HL.out, rfl, ?_⟩, HFIN.out _ _ _ HFy3.out⟩
        have hs : Fr (fun k => k = qb) y4 ((y4.setCell ⟨qb, 0, none⟩ (.int .i64 g)).setCell ⟨qb, 1, none⟩ (.slice a' L c')) := (Fr.setCell (S := fun k => k = qb) y4 ⟨qb, 0, none⟩ _ rfl).trans (Fr.setCell (S := fun k => k = qb) _ ⟨qb, 1, none⟩ _ rfl) (fun _ _ h => h)
        have hx := HRDX.out y4 HFy3.out
        refine ⟨⟨hx.1, hx.2.1.fr hs (fun a'' n'' c'' e => by have := (HTj.out.own.lt a''.block (by rw [e]; rfl)).1; show ¬ a''.block = qb; omega), hx.2.2⟩, fun p hp => ?_⟩
        have := (HTj.out.own.lt p.block (by rw [hp]; rfl)).1
        have := HQB.out
        omega
    · obtain ⟨⟨x1, ra⟩, hA⟩ : ∃ p, rj.get bs 4 = p := ⟨_, rfl⟩
      obtain ⟨⟨x2, rb2⟩, hB⟩ : ∃ p, ra.get bs 4 = p := ⟨_, rfl⟩
      obtain ⟨⟨x3, rc⟩, hC⟩ : ∃ p, rb2.get bs 4 = p := ⟨_, rfl⟩
      have hst2 : ldK bs (r2, []) (j + 1) = (rc, lj ++ [((x1 : Int), (x2 : Int), (x3 : Int))]) := by
        rw [hst]; unfold ldStep; simp only [hA, hB, hC]
      have HST := hide hst2
      have HA := hide hA
      have HB := hide hB
      have HCC := hide hC
      obtain ⟨L, hL⟩ : ∃ L, lj.length = L := ⟨_, rfl⟩
      have hown := HTj.out.own
      rw [hL] at hown
      obtain ⟨a', c', rfl⟩ := own_shape hown
      have hL4 : L ≤ 256 := by have := HLJ.out; omega
      have hq0' : (0 : Int) < (q : Int) := by omega
      have HL := hide hL
      clear hst hst2 hA hB hC hown hL
      go_wp2_with fail
      refine (rdFour_any wr rb v1 bs rj HR.out).mono ?_
      rw [HA.out]
      rintro e y1 ⟨rfl, hr1, hf1⟩
      have HR1y := hide hr1
      have HF1y := hide hf1
      clear hr1 hf1
      go_wp2_with fail
      refine (rdFour_any y1 rb v1 bs ra HR1y.out).mono ?_
      rw [HB.out]
      rintro e y2 ⟨rfl, hr2, hf2⟩
      obtain ⟨xb, hxb⟩ : ∃ xb, y2.heap.size = xb := ⟨_, rfl⟩
      obtain ⟨y3, hy3⟩ : ∃ y3, y2.alloc (.cells #[.int .i64 x1, .int .i64 x2, .int .i64 0] 41) = y3 := ⟨_, rfl⟩
      have hf3 : Fr (fun _ => False) y2 y3 := by rw [← hy3]; exact Fr.alloc _ _ _
      have hb3 : y3.heap[xb]? = some (.cells #[.int .i64 x1, .int .i64 x2, .int .i64 0] 41 (0, 0)) := by rw [← hy3, ← hxb]; exact block_alloc _ _
      have hr3 := hr2.fr hf3 id (fun _ _ => id)
      have hff : Fr (fun k => k = rb) wr y3 := (HF1y.out.trans hf2 (fun _ _ h => h)).trans hf3 (fun _ _ h => h.elim)
      have hmx : mb < xb := by rw [← hxb]; have := lt_of_block HTj.out.blk; have := (HF1y.out.trans hf2 (fun _ _ h => h)).size; omega
      have hox : ∀ k, (Value.slice a' L c').ownBlock = some k → mb < k ∧ k < xb := fun k hk => by
        have h9 := HTj.out.own.lt k (by exact hk)
        have := (HF1y.out.trans hf2 (fun _ _ h => h)).size
        exact ⟨by omega, by omega⟩
      have HFF := hide hff
      have HB3 := hide hb3
      have HR3y := hide hr3
      have HOX := hide hox
      have HY3 := hide hy3
      have HXB := hide hxb
      clear hr2 hf2 hf3 hb3 hr3 hff hox hy3 hxb
      go_upto_region 7 with fail
      rw [HY3.out, HXB.out]
      go_wp2_with fail
      refine (rdFour_any y3 rb v1 bs rb2 HR3y.out).mono ?_
      rw [HCC.out]
      rintro e y4 ⟨rfl, hr4, hf4⟩
      have hb4 := (hf4.block xb (lt_of_block HB3.out) (by omega)).trans HB3.out
      have z2 : y4.cell? ⟨xb, 2, none⟩ = some (.int .i64 0) := by rw [cell_of_block hb4]; rfl
      have z3 : y4.frozen? ⟨xb, 2, none⟩ = false := free_of_block hb4
      obtain ⟨y5, hy5⟩ : ∃ y5, y4.setCell ⟨xb, 2, none⟩ (.int .i64 x3) = y5 := ⟨_, rfl⟩
      have hf5 : Fr (fun k => k = xb) y4 y5 := by rw [← hy5]; exact Fr.setCell _ _ _ rfl
      have hb5 : y5.heap[xb]? = some (.cells #[.int .i64 x1, .int .i64 x2, .int .i64 x3] 41 (0, 0)) := by rw [← hy5]; exact block_setCell hb4 _
      have hff5 : Fr (fun k => k = rb ∨ k = xb) wr y5 := ((HFF.out.trans hf4 (fun _ _ h => h)).mono (S' := fun k => k = rb ∨ k = xb) (fun _ _ h => .inl h)).trans hf5 (fun _ _ h => .inr h)
      have hr5 : Rd y5 rb v1 bs rc := hr4.fr hf5 (by omega) (fun k hk => by have := (HVB.out k hk).2; omega)
      have hm5 : Mb y5 mb g (.slice a' L c') lj := ⟨(hff5.block mb (lt_of_block HTj.out.blk) (by omega)).trans HTj.out.blk, ownsRow_fr HTj.out.own hff5 (fun k hk => by have := HOX.out k hk; omega)⟩
      have hq5 := (hff5.block qb (lt_of_block HQ.out) (by omega)).trans HQ.out
      have HR5 := hide hr5
      have HM5 := hide hm5
      have HQ5 := hide hq5
      have HF5 := hide (HF.out.trans hff5 (fun k _ hk => by omega))
      have HY5 := hide hy5
      have m1 : y5.cell? ⟨mb, 1, none⟩ = some (.slice a' L c') := by rw [cell_of_block hm5.blk]; rfl
      have m2 : y5.frozen? ⟨mb, 1, none⟩ = false := free_of_block hm5.blk
      have p0 : y5.cell? ⟨xb, 0, none⟩ = some (.int .i64 x1) := by rw [cell_of_block hb5]; rfl
      have p1 : y5.cell? ⟨xb, 1, none⟩ = some (.int .i64 x2) := by rw [cell_of_block hb5]; rfl
      have p2 : y5.cell? ⟨xb, 2, none⟩ = some (.int .i64 x3) := by rw [cell_of_block hb5]; rfl
      have hown5 := hm5.own
      rw [HL.out] at hown5
      have hsm := lt_of_block hm5.blk
      clear hr4 hf4 hb4 hf5 hb5 hff5 hr5 hm5 hq5 hy5
      go_upto_region 8 with fail
      rw [HY5.out]
      have HOa := hide (hown5.alloc (.cells #[.int .i64 x1, .int .i64 x2, .int .i64 x3] 41))
      have HRd := hide (reads_part y5 ((x1 : Int), (x2 : Int), (x3 : Int)) 41)
      have HONE := hide (one_part ((x1 : Int), (x2 : Int), (x3 : Int)))
      have hM : L + 1 ≤ maxLen := by unfold maxLen; omega
      have HM2b : Hid ((L + 1) * 24 ≤ 140737488355328) := hide (by omega)
      have HM3b : Hid (mb + 1 ≤ (y5.alloc (.cells #[.int .i64 x1, .int .i64 x2, .int .i64 x3] 41)).heap.size) := hide (by simp; omega)
      have hblk : ∀ w4 : World, (y5.alloc (.cells #[.int .i64 x1, .int .i64 x2, .int .i64 x3] 41)).grownBy w4 (Value.slice a' L c').ownBlock → w4.heap[mb]? = some (.cells #[.int .i64 g, .slice a' L c'] 25 (0, 0)) := fun w4 hg =>
        (hg.block mb (by simp; omega) (fun e => by have := (HOX.out mb e.symm).1; omega)).trans ((Below.heap_alloc _ _ _ hsm).trans HM5.out.blk)
      have HBLK := hide hblk
      clear hblk hown5
      go_wp2_with (at_builtin; refine wpList_append_reads _ rfl _ _ _ rfl (mb + 1) 41 i0 _ 3 24 Try.underlying23 hi0 hz0 hz1 hz2 part_size (by decide) _ L (rowP lj) rfl HOa.out _ 1 (pc ((x1 : Int), (x2 : Int), (x3 : Int))) rfl HRd.out HONE.out hM HM2b.out HM3b.out ?_; intro v2 w5 hown2 hgrow hat; obtain ⟨a2, k2, rfl⟩ := own_shape hown2; have hc4 := cell_of_block (j := 1) (HBLK.out _ hgrow); have hf4 := free_of_block (j := 1) (HBLK.out _ hgrow); have HO2 := hide hown2; have HG2 := hide hgrow; clear hown2 hgrow hat)
      go_roundw
      case rel =>
        have z1 := HBLK.out _ HG2.out
        have hal : Fr (fun _ => False) y5 (y5.alloc (.cells #[.int .i64 x1, .int .i64 x2, .int .i64 x3] 41)) := Fr.alloc _ _ _
        have hgr : Fr (fun k' => (Value.slice a' L c').ownBlock = some k') (y5.alloc (.cells #[.int .i64 x1, .int .i64 x2, .int .i64 x3] 41)) w5 := Fr.grown HG2.out (fun k hk => hk)
        have hst : Fr (fun k => k = mb) w5 (w5.setCell ⟨mb, 1, none⟩ (.slice a2 (L + 1) k2)) := Fr.setCell _ _ _ rfl
        have hall : Fr (fun k => (Value.slice a' L c').ownBlock = some k ∨ k = mb) y5 (w5.setCell ⟨mb, 1, none⟩ (.slice a2 (L + 1) k2)) := ((hal.mono (S' := fun k => (Value.slice a' L c').ownBlock = some k ∨ k = mb) (fun _ _ h => h.elim)).trans hgr (fun _ _ h => .inl h)).trans hst (fun _ _ h => .inr h)
        refine ⟨j + 1, q - 1, .slice a2 (L + 1) k2, ?_, by omega, ?_, ⟨block_setCell z1 _, ?_⟩, ?_, ?_⟩
        · congr 1; omega
        · rw [HST.out]; exact HR5.out.fr hall (fun e => by rcases e with e | e; (have := HOX.out _ e; omega); omega) (fun k hk e => by have := HVB.out k hk; rcases e with e | e; (have := HOX.out _ e; omega); omega)
        · rw [HST.out]
          show (w5.setCell _ _).ownsRow _ _ _ _ (lj ++ [((x1 : Int), (x2 : Int), (x3 : Int))]).length (rowP (lj ++ [((x1 : Int), (x2 : Int), (x3 : Int))]))
          rw [List.length_append, HL.out, row_part]
          exact ownsRow_setCell_below HO2.out (by simp) _
        · exact (hall.block qb (lt_of_block HQ5.out) (fun e => by rcases e with e | e; (have := HOX.out _ e; omega); omega)).trans HQ5.out
        · exact HF5.out.trans hall (fun k _ e => by rcases e with e | e; (have := HOX.out _ e; omega); omega)
      case measure => simp [intOf]; omega
theorem load_any (w : World) (v : Value) (bs : List UInt8) (h : Reads w v bs.length 1 (bc bs)) (hlen : bs.length ≤ 140737488355328) :
    Calls Try.prog 16 #[v] w fun e w' => Loaded bs e w' ∧ Fr (fun _ => False) w w' := by
  refine (load_new w v bs h hlen).mono ?_
  rintro e w' ⟨h | ⟨ep, l, a, n, c, h1, h2, h3, -⟩, hf⟩
  · exact ⟨.inl h, hf⟩
  · exact ⟨.inr ⟨ep, l, a, n, c, h1, h2, h3⟩, hf⟩
end Go.Proofs.Ytkaibekeokkpnaa
