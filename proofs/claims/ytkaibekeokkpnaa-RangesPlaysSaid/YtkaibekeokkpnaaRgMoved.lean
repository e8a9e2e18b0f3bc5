/- moved, equal of the laws of ranges. -/
import Derived.Test.YtkaibekeokkpnaaRgMaps
namespace Go.Proofs.Ytkaibekeokkpnaa
open Go.RowKit Go.Maps Go.Cv Go.Shelf
set_option linter.unusedVariables false

theorem moveAny (w : World) (ep : Int) (a : Option Addr) (n c : Nat) (l : List P3) (h : RD w a n c l) (hr : rightM ep l = true) (lo hi g : Int) :
    Calls Try.prog 10 #[.agg #[.int .i64 ep, .slice a n c], .int .i64 lo, .int .i64 hi, .int .i64 g] w fun e w' => ∃ ep' a' n' c' l' er, e = .returned (.tuple #[.agg #[.int .i64 ep', .slice a' n' c'], .int .i64 er]) ∧ RD w' a' n' c' l' ∧ ((er = 0 ∧ rightM ep' l' = true) ∨ er ≠ 0) ∧ Fr (fun _ => False) w w' := by
  by_cases hne : moveE ep l lo hi g = 0
  · have hh : 0 ≤ lo ∧ lo < hi ∧ hi ≤ 256 ∧ 0 ≤ g ∧ g < 3 ∧ ep ≠ 1073741824 := by
      unfold moveE at hne
      split at hne
      · cases hne
      · rename_i h1
        split at hne
        · cases hne
        · rename_i h2; rw [hr] at h1; simp at h1; omega
    obtain ⟨h1, h2, h3, h4, h5, h6⟩ := hh
    refine (moveM w ep a n c l h lo hi g hr h6 h1 h2 h3 h4 h5).mono ?_
    rintro e w' ⟨a', n', c', rfl, hd, hf⟩
    exact ⟨_, a', n', c', _, 0, rfl, hd, .inl ⟨rfl, move_right hr (by have := (right_chk hr).2.1; omega) _ _ _ ⟨h4, h5⟩⟩, hf⟩
  · refine (moveNo w ep a n c l h lo hi g hne).mono ?_
    rintro e w' ⟨rfl, hf⟩
    exact ⟨0, none, 0, 0, [], _, rfl, ⟨rfl, Reads.nil _ _, by omega⟩, .inr hne, hf⟩

theorem RD.set {w w' : World} {a : Option Addr} {n c : Nat} {l : List P3} (h : RD w a n c l) {b : Nat} {cs : Array Value} {t : TypeId} {fr : Nat × Nat} (hb : w.heap[b]? = some (.cells cs t fr)) (hs : cs.size < 3) (g : Fr (fun k => k = b) w w') : RD w' a n c l := by
  refine ⟨h.1, ?_, h.2.2⟩
  cases l with
  | nil =>
    obtain ⟨h1, a0, c0, e, h2, h3, h4⟩ := h.2.1
    exact ⟨h1, a0, c0, e, h2, h3, fun i u hu => by simp [rowP] at hu⟩
  | cons x r =>
    obtain ⟨b0, o0, rfl, hl, hc⟩ := row_cells pc_len h.2.1 (show (x :: r)[0]? = some x from rfl) (by decide)
    refine h.2.1.fr g (fun a' n' c' e hk => ?_)
    cases e
    subst hk
    have h2 := hc 2 (.int .i64 x.2.2) rfl w rfl
    rw [cell_of_block hb] at h2
    have := (Array.getElem?_eq_some_iff.1 h2).1
    omega

theorem MV.stored {y : World} {b : Nat} {u0 u1 : Value} (hb : y.heap[b]? = some (.cells #[u0, u1] 25 (0, 0))) {a : Option Addr} {n c : Nat} {l : List P3} (hd : RD y a n c l) (ep : Int) :
    MV ((y.setCell ⟨b, 0, none⟩ (.int .i64 ep)).setCell ⟨b, 1, none⟩ (.slice a n c)) b ep a n c l ∧ Fr (fun k => k = b) y ((y.setCell ⟨b, 0, none⟩ (.int .i64 ep)).setCell ⟨b, 1, none⟩ (.slice a n c)) := by
  have hs : Fr (fun k => k = b) y ((y.setCell ⟨b, 0, none⟩ (.int .i64 ep)).setCell ⟨b, 1, none⟩ (.slice a n c)) := (Fr.setCell (S := fun k => k = b) y ⟨b, 0, none⟩ _ rfl).trans (Fr.setCell (S := fun k => k = b) _ ⟨b, 1, none⟩ _ rfl) (fun _ _ h => h)
  exact ⟨⟨block_setCell (block_setCell hb _) _, hd.set hb (show 2 < 3 by decide) hs⟩, hs⟩

set_option maxRecDepth 100000 in
set_option maxHeartbeats 3200000 in
theorem movedM (w : World) (ep : Int) (a : Option Addr) (n c : Nat) (l : List P3) (h : RD w a n c l) (hr : rightM ep l = true) (s3 : Option Addr) (n3 c3 : Nat) (l3 : List P3) (h3 : Reads w (.slice s3 n3 c3) n3 3 (rowP l3)) (hl3 : l3.length = n3) (hn3 : n3 ≤ maxLen) :
    Calls Try.prog 17 #[.agg #[.int .i64 ep, .slice a n c], .slice s3 n3 c3] w fun e w' => ∃ (ep' : Int) (a' : Option Addr) (n' c' : Nat) (l' : List P3), e = .returned (.agg #[.int .i64 ep', .slice a' n' c']) ∧ RD w' a' n' c' l' ∧ rightM ep' l' = true ∧ Fr (fun _ => False) w w' := by
  have hM := MV.made ep h
  obtain ⟨wa, hwa⟩ : ∃ wa, w.alloc (.cells #[.int .i64 ep, .slice a n c] 25) = wa := ⟨_, rfl⟩
  have hfa : Fr (fun _ => False) w wa := by rw [← hwa]; exact Fr.alloc _ _ _
  rw [hwa] at hM
  obtain ⟨wb, hwb⟩ : ∃ wb, wa.alloc (.cells #[.int .i64 0, .slice none 0 0] 25) = wb := ⟨_, rfl⟩
  have hfb : Fr (fun _ => False) wa wb := by rw [← hwb]; exact Fr.alloc _ _ _
  obtain ⟨rb, hrb⟩ : ∃ rb, w.heap.size + 1 = rb := ⟨_, rfl⟩
  have hra : wa.heap.size = rb := by rw [← hrb, ← hwa]; simp
  have hbb : wb.heap[rb]? = some (.cells #[.int .i64 0, .slice none 0 0] 25 (0, 0)) := by rw [← hwb, ← hra]; exact block_alloc _ _
  obtain ⟨pb, hpb⟩ : ∃ pb, w.heap.size = pb := ⟨_, rfl⟩
  rw [hpb] at hM
  have hM2 := hM.fr0 hfb
  have hf0 := hfa.trans hfb (fun _ _ h => h)
  unfold maxLen at hn3
  have hn9 : (n3 : Int) ≤ 9223372036854775807 := by omega
  have HM := hide hM2
  have HBB := hide hbb
  have HF0 := hide hf0
  have HR := hide hr
  have H3 := hide h3
  have HL3 := hide hl3
  have HWA := hide hwa
  have HWB := hide hwb
  have HRB := hide hrb
  have HPB := hide hpb
  have hpr : pb < rb := by omega
  clear hM hM2 hbb hf0 hfa hfb hr h3 hl3 hwa hwb hrb hpb hra h hn3
  go_enter Try.func17, Try.ntmps17
  go_upto_region 1 with fail
  rw [HWA.out, HRB.out, HPB.out, HWB.out]
  go_wp2_with fail
  go_loopw [5] (fun i wr => ∃ (k : Nat) (ep' : Int) (a' : Option Addr) (n' c' : Nat) (l' : List P3), i = .int .i64 k ∧ k ≤ n3 ∧ k ≤ 8 ∧ MV wr pb ep' a' n' c' l' ∧ rightM ep' l' = true ∧ wr.heap[rb]? = some (.cells #[.int .i64 0, .slice none 0 0] 25 (0, 0)) ∧ Fr (fun _ => False) w wr)
    (fun i _ => n3 - (intOf i).toNat)
  case atStart => exact ⟨0, ep, a, n, c, l, rfl, Nat.zero_le _, by omega, HM.out, HR.out, HBB.out, HF0.out⟩
  case round =>
    obtain ⟨k, ep', a', n', c', l', rfl, hk1, hk2, hm, hr', hb, hf⟩ := hrel
    have HMk := hide hm
    have HRk := hide hr'
    have HBk := hide hb
    have HFk := hide hf
    have m0 := hm.c0
    have m1 := hm.c1
    clear hm hr' hb hf
    by_cases hlt : k < n3 ∧ k < 8
    · obtain ⟨hlt1, hlt2⟩ := hlt
      have ik1 : (k : Int) < (n3 : Int) := by omega
      have ik2 : (k : Int) < 8 := by omega
      have ik0 : (0 : Int) ≤ (k : Int) := by omega
      obtain ⟨x, hx⟩ : ∃ x, l3[k]? = some x := ⟨_, List.getElem?_eq_getElem (by have := HL3.out; omega)⟩
      obtain ⟨bs, os, rfl, hls, hcs⟩ := row_cells pc_len H3.out hx (by decide)
      obtain ⟨x1, x2, x3⟩ := x
      have hw0 := HFk.out.block bs hls id
      have e0 := hcs 0 (.int .i64 x1) rfl wr hw0
      have e1 := hcs 1 (.int .i64 x2) rfl wr hw0
      have e2 := hcs 2 (.int .i64 x3) rfl wr hw0
      rw [Nat.add_zero] at e0
      have hmv : ∀ wx, Fr (fun _ => False) wr wx → Calls Try.prog 10 #[.agg #[.int .i64 ep', .slice a' n' c'], .int .i64 x1, .int .i64 x2, .int .i64 x3] wx _ := fun wx hf => moveAny wx ep' a' n' c' l' (HMk.out.2.fr0 hf) HRk.out x1 x2 x3
      have HMV := hide hmv
      have hfr0 : Fr (fun _ => False) wr wr.drew := (Fr.refl (fun _ => False) wr).drew
      have hfr1 : Fr (fun _ => False) wr (wr.alloc (.cells #[.int .i64 0, .slice none 0 0] 25)).drew := (Fr.alloc (fun _ => False) wr _).drew
      have hnb1 : (wr.alloc (.cells #[.int .i64 0, .slice none 0 0] 25)).drew.heap[wr.heap.size]? = some (.cells #[.int .i64 0, .slice none 0 0] 25 (0, 0)) := block_alloc wr _
      have hn1 : pb ≠ wr.heap.size := by have := HMk.out.lt; omega
      have hn2 : bs ≠ wr.heap.size := by have := HFk.out.size; omega
      have hn3 : wr.heap.size ≠ pb := fun e => hn1 e.symm
      have hn4 : wr.heap.size ≠ bs := fun e => hn2 e.symm
      have FR0 := hide hfr0
      have FR1 := hide hfr1
      have HNB1 := hide hnb1
      have hcl : ∀ wx, Fr (fun _ => False) wr wx → wx.cell? ⟨pb, 0, none⟩ = some (.int .i64 ep') ∧ wx.cell? ⟨pb, 1, none⟩ = some (.slice a' n' c') ∧ wx.cell? ⟨bs, os + k * 3, none⟩ = some (.int .i64 x1) ∧ wx.cell? ⟨bs, os + k * 3 + 1, none⟩ = some (.int .i64 x2) ∧ wx.cell? ⟨bs, os + k * 3 + 2, none⟩ = some (.int .i64 x3) := fun wx hf => by
        have hm := HMk.out.fr0 hf
        have hw1 := (hf.block bs (by have := HFk.out.size; omega) id).trans hw0
        exact ⟨hm.c0, hm.c1, by have := hcs 0 (.int .i64 x1) rfl wx hw1; simpa using this, hcs 1 (.int .i64 x2) rfl wx hw1, hcs 2 (.int .i64 x3) rfl wx hw1⟩
      have HCL := hide hcl
      clear hcs hx hmv hw0 hcl hfr0 hfr1 hnb1
      go_wp2_with fail
      go_region_held3 (fun w' => w'.cell? ⟨pb, 0, none⟩ = some (.int .i64 ep') ∧ w'.cell? ⟨pb, 1, none⟩ = some (.slice a' n' c') ∧ w'.cell? ⟨bs, os + k * 3, none⟩ = some (.int .i64 x1) ∧ w'.cell? ⟨bs, os + k * 3 + 1, none⟩ = some (.int .i64 x2) ∧ w'.cell? ⟨bs, os + k * 3 + 2, none⟩ = some (.int .i64 x3)) (go_keep)
        (first
          | (go_at_call 10; with_reducible refine (HMV.out _ FR0.out).mono ?_; rintro e y ⟨ep2, a2, n2, c2, l2, er, rfl, hd, hq, hfy⟩; have hfz := FR0.out.trans hfy (fun _ _ h => h); obtain ⟨t0, t1, t2, t3, t4⟩ := HCL.out y hfz; have HPOST : Hid (∃ W nb, y.alloc (.cells #[.int .i64 ep2, .slice a2 n2 c2] 25) = W ∧ y.heap.size = nb ∧ Fr (fun _ => False) wr W ∧ MV W nb ep2 a2 n2 c2 l2) := hide ⟨_, _, rfl, rfl, hfz.trans (Fr.alloc (fun _ => False) _ _) (fun _ _ h => h), MV.made ep2 hd⟩; have HQ := hide hq; clear hd hq hfy hfz)
          | (go_at_call 10; with_reducible refine (HMV.out _ FR1.out).mono ?_; rintro e y ⟨ep2, a2, n2, c2, l2, er, rfl, hd, hq, hfy⟩; have hfz := FR1.out.trans hfy (fun _ _ h => h); obtain ⟨t0, t1, t2, t3, t4⟩ := HCL.out y hfz; have hby := (hfy.block wr.heap.size (lt_of_block HNB1.out) id).trans HNB1.out; have u0 := cell_of_block (j := 0) hby; have u1 := cell_of_block (j := 1) hby; have u2 := free_of_block (j := 0) hby; have u3 := free_of_block (j := 1) hby; have HPOST : Hid (∃ W nb, (y.setCell ⟨wr.heap.size, 0, none⟩ (.int .i64 ep2)).setCell ⟨wr.heap.size, 1, none⟩ (.slice a2 n2 c2) = W ∧ wr.heap.size = nb ∧ Fr (fun _ => False) wr W ∧ MV W nb ep2 a2 n2 c2 l2) := hide ⟨_, _, rfl, rfl, ((hfz.mono (S' := fun k => k = wr.heap.size) (fun _ _ h => h.elim)).trans (MV.stored hby hd ep2).2 (fun _ _ h => h)).fresh (fun k hk => by omega), (MV.stored hby hd ep2).1⟩; have HQ := hide hq; clear hd hq hfy hfz hby))
      all_goals
        obtain ⟨W, nb, hW, hnb, hfW, hMW⟩ := HPOST.out
        rw [hW, hnb]
        have n0 := hMW.c0
        have n1 := hMW.c1
        have hp2 := HMk.out.fr0 hfW
        have p0 := hp2.c0
        have p1 := hp2.c1
        have p2 := free_of_block (j := 0) hp2.1
        have p3 := free_of_block (j := 1) hp2.1
        have hb2 := (hfW.block rb (lt_of_block HBk.out) id).trans HBk.out
        have HBW := hide hb2
        have HP2 := hide hp2
        have HFW := hide (HFk.out.trans hfW (fun _ _ h => h))
        have HMW := hide hMW
        clear hp2 hb2 hMW hfW hW hnb
        rcases HQ.out with ⟨rfl, hright⟩ | hner
        · have HRT := hide hright
          clear hright
          go_wp2_with fail
          go_roundw
          case rel =>
            obtain ⟨s1, s2⟩ := MV.stored HP2.out.1 HMW.out.2 ep2
            refine ⟨k + 1, ep2, a2, n2, c2, l2, by go_num, by omega, by omega, s1, HRT.out, (s2.block rb (lt_of_block HBW.out) (by omega)).trans HBW.out, ((HFW.out.mono (S' := fun k => k = pb) (fun _ _ h => h.elim)).trans s2 (fun _ _ h => h)).fresh (fun k' hk' => by have := HPB.out; omega)⟩
          case measure => simp [intOf]; omega
        · have her : (er == 0) = false := by simp [hner]
          clear hner
          go_wp2_with fail
          go_roundw
          case rel => exact ⟨k + 1, ep', a', n', c', l', by go_num, by omega, by omega, HP2.out, HRk.out, HBW.out, HFW.out⟩
          case measure => simp [intOf]; omega
    · have hcc : ((k : Int) < (n3 : Int) ∧ ¬ (k : Int) < 8) ∨ ¬ (k : Int) < (n3 : Int) := by omega
      clear hlt
      have y0 := cell_of_block (j := 0) HBk.out
      have y1 := cell_of_block (j := 1) HBk.out
      have y2 := free_of_block (j := 0) HBk.out
      have y3 := free_of_block (j := 1) HBk.out
      rcases hcc with ⟨ik1, ik2⟩ | ik1
      all_goals
        go_wp2_with fail
        obtain ⟨s1, s2⟩ := MV.stored HBk.out HMk.out.2 ep'
        exact bodyPost_ret (v := .agg #[.int .i64 ep', .slice a' n' c']) (by simp [results, Try.results17, go_sem, y0, y1]) rfl ⟨ep', a', n', c', rfl, l', s1.2, HRk.out, ((HFk.out.mono (S' := fun k => k = rb) (fun _ _ h => h.elim)).trans s2 (fun _ _ h => h)).fresh (fun k' hk' => by have := HRB.out; omega)⟩
end Go.Proofs.Ytkaibekeokkpnaa
