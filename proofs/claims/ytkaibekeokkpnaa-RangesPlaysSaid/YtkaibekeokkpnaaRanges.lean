/- The parts of a Map: right, of. -/
import Derived.Test.YtkaibekeokkpnaaRows
import Derived.Test.YtkaibekeokkpnaaCells2
import Derived.Deep.RegionLaw
import Derived.WalkLawsBesides
import Derived.WalkSpells
import Derived.BigQuiet
import Derived.Outline
import Derived.Deep.RegionHeld3
import Derived.Deep.CutBlock
import Derived.Shelf.Abstract
import Derived.JoinedCond
import Derived.Test.YtkaibekeokkpnaaRows2
import Derived.Test.YtkaibekeokkpnaaRgPlain
namespace Go.Proofs.Ytkaibekeokkpnaa
open Go.RowKit Go.Maps Go.Cv Go.Shelf
set_option linter.unusedVariables false

def pc (x : P3) : List Value := [.int .i64 x.1, .int .i64 x.2.1, .int .i64 x.2.2]
theorem pc_len (x : P3) : (pc x).length = 3 := rfl
def rowP (l : List P3) : List Value := l.flatMap pc
theorem rowP_len (l : List P3) : (rowP l).length = l.length * 3 := flat_len pc 3 pc_len l
/-- A Map as a value. -/
def mv (ep : Int) (v : Value) : Value := .agg #[.int .i64 ep, v]

theorem clos_any (w : World) (x : P3) (B : Nat) (h : Int) (hB : w.cell? ⟨B, 0, none⟩ = some (.int .i64 h)) :
    Calls Try.prog 41 #[.agg (pc x).toArray, .pointer (some ⟨B, 0, none⟩)] w fun e w' => e = .returned (.bool (holds h x)) ∧ Fr (fun _ => False) w w' := by
  have hlt := World.block_lt_of_cell? w _ hB
  have hne : B ≠ w.heap.size := by simp at hlt; omega
  obtain ⟨a, b, c⟩ := x
  unfold holds
  show Calls _ _ #[.agg #[.int .i64 a, .int .i64 b, .int .i64 c], .pointer (some ⟨B, 0, none⟩)] w _
  by_cases h1 : a ≤ h <;> by_cases h2 : h < b
  all_goals
    simp only [h1, h2, decide_true, decide_false, Bool.and_true, Bool.and_false]
    go_enter Try.func41, Try.ntmps41
    go_wp2
    go_ret
    exact ⟨rfl, Fr.alloc _ _ _⟩

set_option maxRecDepth 100000 in
set_option maxHeartbeats 800000 in
theorem seek_any (w : World) (v : Value) (l : List P3) (hh : Reads w v l.length 3 (rowP l)) (hl : l.length ≤ maxLen) (B : Nat) (h : Int) (hB : w.cell? ⟨B, 0, none⟩ = some (.int .i64 h)) (K : Nat) (X : P3) (hK : l[K]? = some X) (hX : holds h X = true) (hmin : ∀ (j : Nat) y, j < K → l[j]? = some y → holds h y = false) :
    Calls Try.prog 40 #[v, .func (.func 41) #[] #[.pointer (some ⟨B, 0, none⟩)]] w fun e w' => e = .returned (.int .i64 K) ∧ Fr (fun _ => False) w w' := by
  have eg : ∀ args w, (callFunc 41 args).run Try.prog w = .ok (.enter 41 args) w := enters_of Try.func41 (by kernel_rfl) rfl
  obtain ⟨n, hn⟩ : ∃ n, l.length = n := ⟨_, rfl⟩
  have h' := hh
  rw [hn] at h'
  obtain ⟨_, a, cp, rfl, h0, _, hc⟩ := h'
  have hlB := World.block_lt_of_cell? w _ hB
  unfold maxLen at hl
  have hn' : n ≤ 9223372036854775807 := by omega
  have hKn : K < n := by have := (List.getElem?_eq_some_iff.1 hK).1; omega
  have HB := hide hB
  have H := hide hh
  have HN := hide hn
  have HK := hide hK
  have HX := hide hX
  have HM := hide hmin
  clear hh hn h0 hc hB hK hX hmin hl
  go_enter Try.func40, Try.ntmps40
  go_wp2_with fail
  go_loopw [5, 8] (fun _ i wr => ∃ k : Nat, i = .int .i64 k ∧ k ≤ K ∧ Fr (fun _ => False) w wr)
    (fun _ i _ => n - (intOf i).toNat)
  case atStart => exact ⟨0, rfl, Nat.zero_le _, Fr.refl _ _⟩
  case round =>
    obtain ⟨k, rfl, hk, hf⟩ := hrel
    have HF := hide hf
    clear hf
    have hlt : k < n := by omega
    obtain ⟨x, hx⟩ : ∃ x, l[k]? = some x := ⟨_, List.getElem?_eq_getElem (by have := HN.out; omega)⟩
    have h' := H.out
    rw [HN.out] at h'
    obtain ⟨b0, o0, rfl, hlt0, hcells⟩ := row_cells pc_len h' hx (by decide)
    obtain ⟨c0, i0, r0⟩ := x
    have e0 := hcells 0 (.int .i64 c0) rfl wr (HF.out.block _ hlt0 id)
    rw [Nat.add_zero] at e0
    have e1 := hcells 1 (.int .i64 i0) rfl wr (HF.out.block _ hlt0 id)
    have e2 := hcells 2 (.int .i64 r0) rfl wr (HF.out.block _ hlt0 id)
    have ik1 : (k : Int) < (n : Int) := by omega
    have eB : wr.cell? ⟨B, 0, none⟩ = some (.int .i64 h) := by
      rw [World.cell?_of_block (w := w) (HF.out.block B (by simpa using hlB) id)]; exact HB.out
    have HXK := hide hx
    have hcl : ∀ q, holds h (c0, i0, r0) = q → Calls Try.prog 41 #[.agg #[.int .i64 c0, .int .i64 i0, .int .i64 r0], .pointer (some ⟨B, 0, none⟩)] wr fun e w' => e = .returned (.bool q) ∧ Fr (fun _ => False) wr w' := fun q hq => by subst hq; exact clos_any wr (c0, i0, r0) B h eB
    have HCL := hide hcl
    clear hcells hx h' eB hcl
    by_cases hs : k = K
    · subst hs
      have hq : holds h (c0, i0, r0) = true := by
        have := HK.out; rw [HXK.out] at this; cases this; exact HX.out
      have HQ := hide hq
      clear hq
      go_wp2_with (go_at_fn 41; refine (HCL.out true HQ.out).mono ?_; rintro e w' ⟨rfl, hf'⟩)
      go_ret
      exact ⟨rfl, HF.out.trans hf' (fun _ _ h => h)⟩
    · have hkK : k < K := by omega
      have HQ := hide (HM.out k _ hkK HXK.out)
      clear hs
      go_wp2_with (go_at_fn 41; refine (HCL.out false HQ.out).mono ?_; rintro e w' ⟨rfl, hf'⟩)
      go_roundw
      case rel => exact ⟨k + 1, by go_num, by omega, HF.out.trans hf' (fun _ _ h => h)⟩
      case measure => simp [intOf]; omega

theorem find_first {α : Type} (p : α → Bool) : ∀ (l : List α) (x : α), l.find? p = some x → ∃ K : Nat, l[K]? = some x ∧ p x = true ∧ ∀ (j : Nat) y, j < K → l[j]? = some y → p y = false
  | [], x, h => by simp at h
  | a :: t, x, h => by
    rw [List.find?_cons] at h
    cases hp : p a with
    | true =>
      rw [hp] at h; cases h
      exact ⟨0, rfl, hp, fun j y hj => absurd hj (Nat.not_lt_zero _)⟩
    | false =>
      rw [hp] at h
      obtain ⟨K, h1, h2, h3⟩ := find_first p t x h
      refine ⟨K + 1, by simpa using h1, h2, fun j y hj hy => ?_⟩
      cases j with
      | zero => simp at hy; subst hy; exact hp
      | succ j => exact h3 j y (by omega) (by simpa using hy)

set_option maxRecDepth 100000 in
set_option maxHeartbeats 1600000 in
theorem of_any (w : World) (ep : Int) (v : Value) (l : List P3) (hh : Reads w v l.length 3 (rowP l)) (hl : l.length ≤ maxLen) (h : Int) (hs : (l.find? (holds h)).isSome = true) :
    Calls Try.prog 26 #[mv ep v, .int .i64 h] w fun e w' => e = .returned (.int .i64 (ownF l h)) ∧ Fr (fun _ => False) w w' := by
  obtain ⟨x, hx⟩ := Option.isSome_iff_exists.1 hs
  have ho : ownF l h = x.2.2 := by unfold ownF own?; rw [hx]; rfl
  rw [ho]
  obtain ⟨K, h1, h2, h3⟩ := find_first _ l x hx
  unfold mv
  have hkl := (List.getElem?_eq_some_iff.1 h1).1
  obtain ⟨wa, hwa⟩ : ∃ wa, w.alloc (.cells #[.int .i64 ep, v] 25) = wa := ⟨_, rfl⟩
  have hfa : Fr (fun _ => False) w wa := by rw [← hwa]; exact Fr.alloc _ _ _
  have hba : wa.heap[w.heap.size]? = some (.cells #[.int .i64 ep, v] 25 (0, 0)) := by rw [← hwa]; exact block_alloc _ _
  obtain ⟨wb, hwb⟩ : ∃ wb, wa.alloc (.cells #[.int .i64 h] 3) = wb := ⟨_, rfl⟩
  have hfb : Fr (fun _ => False) wa wb := by rw [← hwb]; exact Fr.alloc _ _ _
  obtain ⟨hb, hhb⟩ : ∃ hb, w.heap.size + 1 = hb := ⟨_, rfl⟩
  have hha : wa.heap.size = hb := by rw [← hhb, ← hwa]; simp
  have hbb : wb.heap[hb]? = some (.cells #[.int .i64 h] 3 (0, 0)) := by rw [← hwb, ← hha]; exact block_alloc _ _
  have hf0 : Fr (fun _ => False) w wb := hfa.trans hfb (fun _ _ h => h)
  have hsa := lt_of_block hba
  have hbm : ∀ wx, Fr (fun _ => False) wb wx → wx.cell? ⟨w.heap.size, 1, none⟩ = some v := fun wx hf => by
    have := (hf.block _ (Nat.lt_of_lt_of_le hsa hfb.size) id).trans ((hfb.block _ hsa id).trans hba)
    rw [cell_of_block this]; rfl
  have hr0 := reads_old hh hf0 (fun _ _ => id)
  have hsk := seek_any _ v l hr0 hl hb h (by rw [cell_of_block hbb]; rfl) K x h1 h2 h3
  obtain ⟨n, hn⟩ : ∃ n, l.length = n := ⟨_, rfl⟩
  have hrn := hh
  rw [hn] at hrn hkl
  obtain ⟨b0, o0, hv, hlt0, hcells⟩ : ∃ b0 o0, (∃ c, v = .slice (some ⟨b0, o0, none⟩) n c) ∧ b0 < w.heap.size ∧ ∀ (j : Nat) (u : Value), (pc x)[j]? = some u → ∀ wx : World, wx.heap[b0]? = w.heap[b0]? → wx.cell? ⟨b0, o0 + K * 3 + j, none⟩ = some u := by
    obtain ⟨-, a, c, rfl, -, -, -⟩ := id hrn
    obtain ⟨b0, o0, rfl, g1, g2⟩ := row_cells pc_len hrn h1 (by decide)
    exact ⟨b0, o0, ⟨c, rfl⟩, g1, g2⟩
  obtain ⟨c, rfl⟩ := hv
  have ik : (K : Int) < (n : Int) := by omega
  obtain ⟨xl, xh, xg⟩ := x
  have HC := hide hcells
  have HS := hide hsk
  have c0 := hbm wb (Fr.refl _ _)
  have HBM := hide hbm
  have HWA := hide hwa
  have HWB := hide hwb
  have HHB := hide hhb
  have hsb := lt_of_block hbb
  clear hsk hh hr0 hs hx h1 h2 h3 hrn hcells ho hba hbb hbm hwa hwb hhb hha
  go_enter Try.func26, Try.ntmps26
  go_upto_region 1 with fail
  rw [HWA.out, HHB.out, HWB.out]
  go_wp2_with fail
  refine HS.out.mono ?_
  rintro e w1 ⟨rfl, hf⟩
  have hf2 := hf0.trans hf (fun _ _ h => h)
  have c1 := HBM.out w1 hf
  have e0 := HC.out 0 (.int .i64 xl) rfl w1 (hf2.block _ hlt0 id)
  rw [Nat.add_zero] at e0
  have e1 := HC.out 1 (.int .i64 xh) rfl w1 (hf2.block _ hlt0 id)
  have e2 := HC.out 2 (.int .i64 xg) rfl w1 (hf2.block _ hlt0 id)
  go_wp2_with fail
  go_ret
  exact ⟨rfl, hf2⟩

set_option maxRecDepth 100000 in
set_option maxHeartbeats 1600000 in
theorem right_any (w : World) (ep : Int) (v : Value) (l : List P3) (hh : Reads w v l.length 3 (rowP l)) (hl : l.length ≤ maxLen) :
    Calls Try.prog 11 #[mv ep v] w fun e w' => e = .returned (.bool (rightM ep l)) ∧ Fr (fun _ => False) w w' := by
  obtain ⟨n, hn⟩ : ∃ n, l.length = n := ⟨_, rfl⟩
  have h' := hh
  rw [hn] at h'
  obtain ⟨-, a, cp, rfl, -, -, -⟩ := id h'
  unfold maxLen at hl
  have hn' : n ≤ 9223372036854775807 := by omega
  have hc : ep < 1 ∨ (¬ ep < 1 ∧ 1073741824 < ep) ∨ (¬ ep < 1 ∧ ¬ 1073741824 < ep) := by omega
  unfold mv
  rcases hc with h1 | ⟨h1, h2⟩ | ⟨h1, h2⟩
  · have : rightM ep l = false := by unfold rightM; rw [if_pos (.inl h1)]
    rw [this]
    clear this hh h'
    go_enter Try.func11, Try.ntmps11
    go_wp2_with fail
    go_ret
    exact ⟨rfl, Fr.alloc _ _ _⟩
  · have : rightM ep l = false := by unfold rightM; rw [if_pos (.inr h2)]
    rw [this]
    clear this hh h'
    go_enter Try.func11, Try.ntmps11
    go_wp2_with fail
    go_ret
    exact ⟨rfl, Fr.alloc _ _ _⟩
  · have hr : rightM ep l = rightT l 0 (-1) := by unfold rightM; rw [if_neg (by omega)]
    obtain ⟨q, hq⟩ : ∃ q, rightM ep l = q := ⟨_, rfl⟩
    rw [hq]
    rw [hq] at hr
    have HR := hide hr
    have HN := hide hn
    have H := hide h'
    clear hr hq hn h' hh
    go_enter Try.func11, Try.ntmps11
    go_wp2_with fail
    have hF1 : Fr (fun _ => False) w (w.alloc (.cells #[.int .i64 ep, .slice a n cp] 25)) := Fr.alloc _ _ _
    generalize w.alloc (.cells #[.int .i64 ep, .slice a n cp] 25) = w1 at *
    go_loopw [3, 4, 18] (fun at_ last i wr => ∃ (k : Nat) (A L : Int), at_ = .int .i64 A ∧ last = .int .i64 L ∧ i = .int .i64 k ∧ k ≤ n ∧ rightT (l.drop k) A L = q ∧ Fr (fun _ => False) w wr)
      (fun _ _ i _ => n - (intOf i).toNat)
    case atStart => exact ⟨0, 0, -1, rfl, rfl, rfl, Nat.zero_le _, by rw [List.drop_zero]; exact HR.out.symm, hF1⟩
    case round =>
      obtain ⟨k, A, L, rfl, rfl, rfl, hk, hrt, hf⟩ := hrel
      have HF := hide hf
      clear hf
      by_cases hlt : k < n
      · obtain ⟨x, hx⟩ : ∃ x, l[k]? = some x := ⟨_, List.getElem?_eq_getElem (by have := HN.out; omega)⟩
        have hdr : l.drop k = x :: l.drop (k + 1) := by
          obtain ⟨h3, h4⟩ := List.getElem?_eq_some_iff.1 hx
          rw [← h4]; exact List.drop_eq_getElem_cons h3
        rw [hdr] at hrt
        obtain ⟨b0, o0, rfl, hlt0, hcells⟩ := row_cells pc_len H.out hx (by decide)
        obtain ⟨xl, xh, xg⟩ := x
        have e0 := hcells 0 (.int .i64 xl) rfl wr (HF.out.block _ hlt0 id)
        rw [Nat.add_zero] at e0
        have e1 := hcells 1 (.int .i64 xh) rfl wr (HF.out.block _ hlt0 id)
        have e2 := hcells 2 (.int .i64 xg) rfl wr (HF.out.block _ hlt0 id)
        have ik1 : (k : Int) < (n : Int) := by omega
        have hfa : ∀ o, Fr (fun _ => False) w (wr.alloc o) := fun o => HF.out.trans (Fr.alloc (fun _ => False) wr o) (fun _ _ h => h)
        have HFA := hide hfa
        by_cases hb : bad (A, L) (xl, xh, xg)
        · have hq : q = false := by rw [← hrt]; exact rightT_bad _ _ _ _ hb
          subst hq
          have hcc : (xl != A) = true ∨ ((xl != A) = false ∧ xh ≤ xl) ∨ ((xl != A) = false ∧ ¬ xh ≤ xl ∧ 256 < xh) ∨ ((xl != A) = false ∧ ¬ xh ≤ xl ∧ ¬ 256 < xh ∧ xg < 0) ∨ ((xl != A) = false ∧ ¬ xh ≤ xl ∧ ¬ 256 < xh ∧ ¬ xg < 0 ∧ 3 ≤ xg) ∨ ((xl != A) = false ∧ ¬ xh ≤ xl ∧ ¬ 256 < xh ∧ ¬ xg < 0 ∧ ¬ 3 ≤ xg ∧ (xg == L) = true) := by
            unfold bad at hb
            simp only [bne_iff_ne, ne_eq, beq_iff_eq, bne_eq_false_iff_eq] at hb ⊢
            omega
          clear hrt hdr hcells hfa hb hx
          rcases hcc with h1 | ⟨h1, h2⟩ | ⟨h1, h2, h3⟩ | ⟨h1, h2, h3, h4⟩ | ⟨h1, h2, h3, h4, h5⟩ | ⟨h1, h2, h3, h4, h5, h6⟩
          all_goals
            go_wp2_with fail
            go_ret
            exact ⟨rfl, HFA.out _⟩
        · have hq := hrt
          rw [rightT_ok _ _ _ _ hb] at hq
          have HQ := hide hq
          obtain ⟨h1, h2, h3, h4, h5, h6⟩ : (xl != A) = false ∧ ¬ xh ≤ xl ∧ ¬ 256 < xh ∧ ¬ xg < 0 ∧ ¬ 3 ≤ xg ∧ (xg == L) = false := by
            unfold bad at hb
            refine ⟨?_, ?_, ?_, ?_, ?_, ?_⟩
            · rw [bne_eq_false_iff_eq]; simp only at hb; omega
            · simp only at hb; omega
            · simp only at hb; omega
            · simp only at hb; omega
            · simp only at hb; omega
            · rw [beq_eq_false_iff_ne]; simp only at hb; omega
          clear hrt hdr hcells hfa hb hx hq
          go_wp2_with fail
          go_quiet (fail)
          go_wp2_with fail
          go_roundw
          case rel => exact ⟨k + 1, xh, xg, rfl, rfl, by go_num, by omega, HQ.out, (HFA.out _).drewN _⟩
          case measure => simp [intOf]; omega
      · have hkn : k = n := by omega
        subst hkn
        have hq : decide (A = 256) = q := by
          rw [← hrt, List.drop_eq_nil_of_le (by have := HN.out; omega)]; rfl
        have ik1 : ¬ (k : Int) < (k : Int) := by omega
        by_cases hA : A = 256
        · have hA2 : (A == 256) = true := by simp [hA]
          have hq2 : q = true := by rw [← hq]; simp [hA]
          subst hq2
          clear hrt hq
          go_wp2_with fail
          go_ret
          exact ⟨rfl, HF.out⟩
        · have hA2 : (A == 256) = false := by simp [hA]
          have hq2 : q = false := by rw [← hq]; simp [hA]
          subst hq2
          clear hrt hq
          go_wp2_with fail
          go_ret
          exact ⟨rfl, HF.out⟩
end Go.Proofs.Ytkaibekeokkpnaa
