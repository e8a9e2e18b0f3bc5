/- known of transactions: the walk. -/
import Derived.Test.YtehneddmamnmiaaTxKnown
namespace Go.Proofs.Ytehneddmamnmiaa
open Go.RowKit Go.Maps Go.Cv Go.Shelf
set_option linter.unusedVariables false

set_option maxRecDepth 100000 in
set_option maxHeartbeats 3200000 in
theorem known_any (w : World) : Calls Try.prog 11 #[] w fun e w' => e = .returned (.bool true) ∧ Fr (fun _ => False) w w' := by
  have HNEW := hide (newM w 1 (by omega))
  go_enter Try.func11, Try.ntmps11
  go_wp2_with fail
  refine HNEW.out.mono ?_
  rintro e w1 ⟨a, m, c, rfl, hr1, hf1⟩
  have hr1 : RD w1 a m c (newP 1 1) := hr1
  have hm1 : m = 1 := by rw [← hr1.1]; rfl
  subst hm1
  have hM := MV.made 1 hr1
  obtain ⟨w2, hw2⟩ : ∃ w2, w1.alloc (.cells #[.int .i64 1, .slice a 1 c] 30) = w2 := ⟨_, rfl⟩
  obtain ⟨mb, hmb⟩ : ∃ mb, w1.heap.size = mb := ⟨_, rfl⟩
  have hf2 : Fr (fun _ => False) w w2 := hf1.trans (by rw [← hw2]; exact Fr.alloc (fun _ => False) _ _) (fun _ _ h => h)
  rw [hw2, hmb] at hM
  have hmv : ∀ wx, Fr (fun _ => False) w2 wx → MV wx mb 1 a 1 c (newP 1 1) := fun wx hx => hM.fr0 hx
  have HMV := hide hmv
  have HF2 := hide hf2
  have HW2 := hide hw2
  have HMB := hide hmb
  clear hf1 hr1 hM hw2 hmb hf2 hmv
  go_upto_region 2 with fail
  rw [HW2.out, HMB.out]
  refine wp_region_news [Lft.is (.agg #[.int .i64 5, .string ⟨#[97]⟩, .string ⟨#[]⟩, .int .i64 0]), Lft.stay (fun v w' => ∃ b, v = .slice (some ⟨b, 0, none⟩) 1 1 ∧ Reads w' v 1 4 (rowO [rdO ⟨#[97]⟩])) (fun u w1 w2 h g => by obtain ⟨b, e, h⟩ := h; exact ⟨b, e, reads_old h g (fun _ _ => id)⟩),
    Lft.is (.agg #[.int .i64 1, .slice a 1 c]), Lft.stay (fun v w' => ∃ tb, v = .tuple #[.pointer (some ⟨tb, 0, none⟩), .int .i64 0] ∧ TX w' (fun k => k < w2.heap.size) w2.heap.size tb (rK ⟨#[116]⟩)) (fun u w1 w2 h g => by obtain ⟨tb, e, h⟩ := h; exact ⟨tb, e, h.fr0 g⟩),
    ⟨[3], fun vs v _ => v = vs 3 ∧ ∃ tb : Nat, v = .tuple #[.pointer (some ⟨tb, 0, none⟩), .int .i64 0], fun vs vs' u w h hp => by rw [← h 3 (by simp)]; exact hp, fun vs u w1 w2 h g => h, false⟩, ⟨[4], fun vs v _ => vs 4 = .tuple #[v, .int .i64 0], fun vs vs' u w h hp => by rw [← h 4 (by simp)]; exact hp, fun vs u w1 w2 h g => h, false⟩, Lft.is (.int .i64 0), Lft.of [5] (fun vs => vs 5) (fun vs vs' h => h 5 (by simp)), Lft.is (.int .i64 0)] _ (by kernel_rfl) (by kernel_rfl) (fun vs => by simp only [putAll, Act.put, List.setIfInBounds_toArray, List.set_cons_succ, List.set_cons_zero, Nat.zero_add, Nat.reduceAdd]; exact rfl) ⟨?_, ?_, ?_, ?_, ?_, ?_, ?_, ?_, ?_, trivial⟩ ?_
  · refine StepN.call rfl 8 (fun _ => #[.string ⟨#[97]⟩]) (fun vs w2 hf hp => by go_simp) (fun vs w2 hf hp => ?_)
    refine (keepRead_any w2 ⟨#[97]⟩).mono ?_
    rintro e w3 ⟨rfl, hf3⟩
    exact ⟨_, rfl, rfl, hf3, by intro h; cases h⟩
  · refine StepN.run rfl (fun vs w2 hf hp => ?_)
    obtain ⟨h1, -⟩ := hp
    have h1 : vs 0 = .agg #[.int .i64 5, .string ⟨#[97]⟩, .string ⟨#[]⟩, .int .i64 0] := h1
    exact ⟨.slice (some ⟨w2.heap.size, 0, none⟩) 1 1, w2.alloc (.cells #[.int .i64 5, .string ⟨#[97]⟩, .string ⟨#[]⟩, .int .i64 0] 26), by go_simp, ⟨_, rfl, reads_ops1 w2 (rdO ⟨#[97]⟩) _⟩, Fr.alloc _ _ _, by intro h; cases h⟩
  · refine StepN.quiet rfl _ rfl (fun vs w2 hf hp => ?_)
    have hm := HMV.out w2 hf
    have c0 := hm.c0
    have c1 := hm.c1
    go_simp
  · refine StepN.call rfl 10 (fun vs => #[.string ⟨#[116]⟩, vs 1, vs 2]) (fun vs w2 hf hp => by go_simp) (fun vs w2 hf hp => ?_)
    obtain ⟨h1, h2, -⟩ := hp
    obtain ⟨b, h1, hrd⟩ := h1
    have h1 : vs 1 = .slice (some ⟨b, 0, none⟩) 1 1 := h1
    have h2 : vs 2 = .agg #[.int .i64 1, .slice a 1 c] := h2
    have hrd : Reads w2 (vs 1) 1 4 (rowO [rdO ⟨#[97]⟩]) := hrd
    rw [h1] at hrd
    simp only [h1, h2]
    refine (newTx_any w2 ⟨#[116]⟩ (by intro e; cases e) _ 1 1 [rdO ⟨#[97]⟩] hrd rfl (by decide) (by decide) (by intro x hx; simp at hx; subst hx; unfold maxLen rdO; decide) 1 a 1 c (newP 1 1) (HMV.out w2 hf).2 new_right.1).mono ?_
    rintro e w3 ⟨tb, rfl, ht, hf3⟩
    rw [newR_one] at ht
    have hs := hf.size
    exact ⟨_, rfl, ⟨tb, rfl, (ht.low hs).less (fun k hk => Nat.lt_of_lt_of_le hk hs)⟩, hf3, by intro h; cases h⟩
  · refine StepN.run rfl (fun vs w2 hf hp => ?_)
    obtain ⟨h1, -⟩ := hp
    obtain ⟨tb, h1, -⟩ := h1
    have h1 : vs 3 = .tuple #[.pointer (some ⟨tb, 0, none⟩), .int .i64 0] := h1
    exact ⟨vs 3, w2, by go_simp, ⟨rfl, tb, h1⟩, Fr.refl _ _, by intro h; cases h⟩
  · refine StepN.run rfl (fun vs w2 hf hp => ?_)
    obtain ⟨h1, -⟩ := hp
    obtain ⟨-, tb, h1⟩ := h1
    have h1 : vs 4 = .tuple #[.pointer (some ⟨tb, 0, none⟩), .int .i64 0] := h1
    exact ⟨.pointer (some ⟨tb, 0, none⟩), w2, by go_simp, h1, Fr.refl _ _, by intro h; cases h⟩
  · refine StepN.quiet rfl _ rfl (fun vs w2 hf hp => ?_)
    obtain ⟨h1, -⟩ := hp
    obtain ⟨-, tb, h1⟩ := h1
    have h1 : vs 4 = .tuple #[.pointer (some ⟨tb, 0, none⟩), .int .i64 0] := h1
    go_simp
  · refine StepN.run rfl (fun vs w2 hf hp => ⟨vs 5, w2, by go_simp, rfl, Fr.refl _ _, by intro h; cases h⟩)
  · refine StepN.quiet rfl _ rfl (fun vs w2 hf hp => ?_)
    obtain ⟨h1, -⟩ := hp
    have h1 : vs 6 = .int .i64 0 := h1
    go_simp
  intro vs w3 hf3 he _
  obtain ⟨⟨tb, h3, ht⟩, -⟩ := he.get 3 (by decide)
  obtain ⟨⟨h4, -⟩, -⟩ := he.get 4 (by decide)
  have h5 := (he.get 5 (by decide)).1
  have h7 : vs 7 = vs 5 := (he.get 7 (by decide)).1
  have h8 : vs 8 = .int .i64 0 := (he.get 8 (by decide)).1
  have h5 : vs 5 = .pointer (some ⟨tb, 0, none⟩) := by
    have h5 : vs 4 = .tuple #[vs 5, .int .i64 0] := h5
    rw [show vs 4 = vs 3 from h4, show vs 3 = _ from h3] at h5
    injection h5 with h5; have := Array.mk.inj h5; simp at this; exact this.symm
  rw [h5] at h7
  rw [h7, h8]
  clear he h3 h4 h5 h7 h8
  have HT := hide ht
  have HF3 := hide hf3
  clear ht hf3
  generalize vs 0 = x0, vs 1 = x1, vs 2 = x2, vs 3 = x3, vs 4 = x4, vs 5 = x5, vs 6 = x6, vs 7 = x7, vs 8 = x8
  go_upto_region 3 with fail
  refine wp_region_news [Lft.is (.agg #[.int .i64 5, .string ⟨#[97]⟩, .string ⟨#[]⟩, .int .i64 0]), Lft.stay (fun v w' => ∃ b, v = .slice (some ⟨b, 0, none⟩) 1 1 ∧ Reads w' v 1 4 (rowO [rdO ⟨#[97]⟩])) (fun u w1 w2 h g => by obtain ⟨b, e, h⟩ := h; exact ⟨b, e, reads_old h g (fun _ _ => id)⟩),
    Lft.is (.agg #[.int .i64 1, .slice a 1 c]), Lft.stay (fun v w' => ∃ tb, v = .tuple #[.pointer (some ⟨tb, 0, none⟩), .int .i64 0] ∧ TX w' (fun k => k < w3.heap.size) w3.heap.size tb (rK ⟨#[117]⟩)) (fun u w1 w2 h g => by obtain ⟨tb, e, h⟩ := h; exact ⟨tb, e, h.fr0 g⟩),
    ⟨[3], fun vs v _ => v = vs 3 ∧ ∃ tb : Nat, v = .tuple #[.pointer (some ⟨tb, 0, none⟩), .int .i64 0], fun vs vs' u w h hp => by rw [← h 3 (by simp)]; exact hp, fun vs u w1 w2 h g => h, false⟩, ⟨[4], fun vs v _ => vs 4 = .tuple #[v, .int .i64 0], fun vs vs' u w h hp => by rw [← h 4 (by simp)]; exact hp, fun vs u w1 w2 h g => h, false⟩, Lft.is (.int .i64 0), Lft.of [5] (fun vs => vs 5) (fun vs vs' h => h 5 (by simp)), Lft.is (.int .i64 0)] _ (by kernel_rfl) (by kernel_rfl) (fun vs => by simp only [putAll, Act.put, List.setIfInBounds_toArray, List.set_cons_succ, List.set_cons_zero, Nat.zero_add, Nat.reduceAdd]; exact rfl) ⟨?_, ?_, ?_, ?_, ?_, ?_, ?_, ?_, ?_, trivial⟩ ?_
  · refine StepN.call rfl 8 (fun _ => #[.string ⟨#[97]⟩]) (fun vs w2 hf hp => by go_simp) (fun vs w2 hf hp => ?_)
    refine (keepRead_any w2 ⟨#[97]⟩).mono ?_
    rintro e w3 ⟨rfl, hf3⟩
    exact ⟨_, rfl, rfl, hf3, by intro h; cases h⟩
  · refine StepN.run rfl (fun vs w2 hf hp => ?_)
    obtain ⟨h1, -⟩ := hp
    have h1 : vs 0 = .agg #[.int .i64 5, .string ⟨#[97]⟩, .string ⟨#[]⟩, .int .i64 0] := h1
    exact ⟨.slice (some ⟨w2.heap.size, 0, none⟩) 1 1, w2.alloc (.cells #[.int .i64 5, .string ⟨#[97]⟩, .string ⟨#[]⟩, .int .i64 0] 26), by go_simp, ⟨_, rfl, reads_ops1 w2 (rdO ⟨#[97]⟩) _⟩, Fr.alloc _ _ _, by intro h; cases h⟩
  · refine StepN.quiet rfl _ rfl (fun vs w2 hf hp => ?_)
    have hm := HMV.out w2 (HF3.out.trans hf (fun _ _ h => h))
    have c0 := hm.c0
    have c1 := hm.c1
    go_simp
  · refine StepN.call rfl 10 (fun vs => #[.string ⟨#[117]⟩, vs 1, vs 2]) (fun vs w2 hf hp => by go_simp) (fun vs w2 hf hp => ?_)
    obtain ⟨h1, h2, -⟩ := hp
    obtain ⟨b, h1, hrd⟩ := h1
    have h1 : vs 1 = .slice (some ⟨b, 0, none⟩) 1 1 := h1
    have h2 : vs 2 = .agg #[.int .i64 1, .slice a 1 c] := h2
    have hrd : Reads w2 (vs 1) 1 4 (rowO [rdO ⟨#[97]⟩]) := hrd
    rw [h1] at hrd
    simp only [h1, h2]
    refine (newTx_any w2 ⟨#[117]⟩ (by intro e; cases e) _ 1 1 [rdO ⟨#[97]⟩] hrd rfl (by decide) (by decide) (by intro x hx; simp at hx; subst hx; unfold maxLen rdO; decide) 1 a 1 c (newP 1 1) (HMV.out w2 (HF3.out.trans hf (fun _ _ h => h))).2 new_right.1).mono ?_
    rintro e w3 ⟨tb, rfl, ht, hf3⟩
    rw [newR_one] at ht
    have hs := hf.size
    exact ⟨_, rfl, ⟨tb, rfl, (ht.low hs).less (fun k hk => Nat.lt_of_lt_of_le hk hs)⟩, hf3, by intro h; cases h⟩
  · refine StepN.run rfl (fun vs w2 hf hp => ?_)
    obtain ⟨h1, -⟩ := hp
    obtain ⟨tb, h1, -⟩ := h1
    have h1 : vs 3 = .tuple #[.pointer (some ⟨tb, 0, none⟩), .int .i64 0] := h1
    exact ⟨vs 3, w2, by go_simp, ⟨rfl, tb, h1⟩, Fr.refl _ _, by intro h; cases h⟩
  · refine StepN.run rfl (fun vs w2 hf hp => ?_)
    obtain ⟨h1, -⟩ := hp
    obtain ⟨-, tb, h1⟩ := h1
    have h1 : vs 4 = .tuple #[.pointer (some ⟨tb, 0, none⟩), .int .i64 0] := h1
    exact ⟨.pointer (some ⟨tb, 0, none⟩), w2, by go_simp, h1, Fr.refl _ _, by intro h; cases h⟩
  · refine StepN.quiet rfl _ rfl (fun vs w2 hf hp => ?_)
    obtain ⟨h1, -⟩ := hp
    obtain ⟨-, tb, h1⟩ := h1
    have h1 : vs 4 = .tuple #[.pointer (some ⟨tb, 0, none⟩), .int .i64 0] := h1
    go_simp
  · refine StepN.run rfl (fun vs w2 hf hp => ⟨vs 5, w2, by go_simp, rfl, Fr.refl _ _, by intro h; cases h⟩)
  · refine StepN.quiet rfl _ rfl (fun vs w2 hf hp => ?_)
    obtain ⟨h1, -⟩ := hp
    have h1 : vs 6 = .int .i64 0 := h1
    go_simp
  intro vs w4 hf4 he _
  obtain ⟨⟨ub, h3, hu⟩, -⟩ := he.get 3 (by decide)
  obtain ⟨⟨h4, -⟩, -⟩ := he.get 4 (by decide)
  have h5 := (he.get 5 (by decide)).1
  have h7 : vs 7 = vs 5 := (he.get 7 (by decide)).1
  have h8 : vs 8 = .int .i64 0 := (he.get 8 (by decide)).1
  have h5 : vs 5 = .pointer (some ⟨ub, 0, none⟩) := by
    have h5 : vs 4 = .tuple #[vs 5, .int .i64 0] := h5
    rw [show vs 4 = vs 3 from h4, show vs 3 = _ from h3] at h5
    injection h5 with h5; have := Array.mk.inj h5; simp at this; exact this.symm
  rw [h5] at h7
  rw [h7, h8]
  have hN2 := HF2.out.size
  have h2 : Two w.heap.size w4 tb ub (rK ⟨#[116]⟩) (rK ⟨#[117]⟩) (fun k => k < w2.heap.size ∨ (w3.heap.size ≤ k ∧ k < w4.heap.size)) (fun k => k < w3.heap.size) w2.heap.size w3.heap.size :=
    ⟨HT.out.more hf4, hu, hN2, Nat.le_trans hN2 HF3.out.size, Nat.le_trans HF3.out.size hf4.size, hf4.size,
      fun k hk ho => by
        have : ¬ (k < w2.heap.size ∨ (w3.heap.size ≤ k ∧ k < w4.heap.size)) := ho.2
        show k < w3.heap.size
        omega,
      fun k hk ho => by
        have h1 : w3.heap.size ≤ k := ho.1
        exact .inr ⟨h1, hk⟩⟩
  have hf4' : Fr (fun _ => False) w w4 := (HF2.out.trans HF3.out (fun _ _ h => h)).trans hf4 (fun _ _ h => h)
  clear he h3 h4 h5 h7 h8 hu hf4 hN2
  generalize vs 0 = y0, vs 1 = y1, vs 2 = y2, vs 3 = y3, vs 4 = y4, vs 5 = y5, vs 6 = y6, vs 7 = y7, vs 8 = y8
  generalize (fun k => k < w2.heap.size ∨ (w3.heap.size ≤ k ∧ k < w4.heap.size)) = Xt at h2
  generalize (fun k => k < w3.heap.size) = Xu at h2
  generalize w2.heap.size = bt at h2
  generalize w3.heap.size = bu at h2
  have H2 := hide h2
  have HF4 := hide hf4'
  clear h2 hf4' HT HF3 HF2
  have hread : ∀ wx : World, Reads (wx.alloc (.cells #[.string ⟨#[120]⟩] 9)) (.slice (some ⟨wx.heap.size, 0, none⟩) 1 1) 1 1 ([⟨#[120]⟩].map .string) := fun wx => Reads.built wx [.string ⟨#[120]⟩] _
  have HRD := hide hread
  clear hread
  go_wp2_with fail
  have h5 := H2.out.fr0 (Fr.alloc (fun _ => False) w4 (.cells #[.string ⟨#[120]⟩] 9))
  refine (vote_any _ _ _ tb _ h5.t (by decide) (by decide) h5.lt 0 (by decide) true _ [⟨#[120]⟩] (HRD.out w4) (by decide) 0 0).mono ?_
  rintro e w5 ⟨rfl, ht5, hf5⟩
  rw [voteK] at ht5
  have h6 := h5.left ht5 hf5
  have hF5 : Fr (fun _ => False) w w5 := (HF4.out.trans (Fr.alloc (fun _ => False) _ _) (fun _ _ h => h)).trans hf5 (fun k hk ho => by have := h5.nt; have := ho.1; omega)
  have H6 := hide h6
  have HF5 := hide hF5
  clear h5 ht5 hf5 h6 hF5
  go_wp2_with fail
  refine (late_any _ _ _ ub _ H6.out.u).mono ?_
  rintro e w6 ⟨rfl, ht6, hf6⟩
  rw [lateK] at ht6
  have h7 := (H6.out.swap.left ht6 hf6).swap
  have hF6 : Fr (fun _ => False) w w6 := HF5.out.trans hf6 (fun k hk ho => by have := H6.out.nu; have := ho.1; omega)
  have H7 := hide h7
  have HF6 := hide hF6
  clear ht6 hf6 h7 hF6
  go_wp2_with fail
  have h8 := H7.out.fr0 (Fr.alloc (fun _ => False) w6 (.cells #[.string ⟨#[120]⟩] 9))
  refine (vote_any _ _ _ ub _ h8.u (by decide) (by decide) h8.lu 0 (by decide) true _ [⟨#[120]⟩] (HRD.out w6) (by decide) 0 0).mono ?_
  rintro e w7 ⟨rfl, ht7, hf7⟩
  rw [voteK2] at ht7
  have h9 := (h8.swap.left ht7 hf7).swap
  have hF7 : Fr (fun _ => False) w w7 := (HF6.out.trans (Fr.alloc (fun _ => False) _ _) (fun _ _ h => h)).trans hf7 (fun k hk ho => by have := h8.nu; have := ho.1; omega)
  have H9 := hide h9
  have HF7 := hide hF7
  clear h8 ht7 hf7 h9 hF7
  go_wp2_with fail
  refine (outcome_any _ _ _ tb _ H9.out.t).mono ?_
  rintro e w8 ⟨rfl, rfl⟩
  unfold rK1
  go_wp2_with fail
  refine (reply_any _ _ _ tb _ H9.out.t (okK _)).mono ?_
  rintro e w9 ⟨a9, n9, c9, rfl, hr9, hf9, -⟩
  unfold rK1
  rw [textsK] at hr9
  have HR9 := hide hr9
  have HF9 := hide hf9
  clear hr9 hf9
  go_wp2_with fail
  refine (keepReply_any _ 1 0 0 a9 n9 c9 [⟨#[120]⟩] (reads_old HR9.out (Fr.alloc (fun _ => False) w9 (.cells #[.string ⟨#[120]⟩] 9)) (fun _ _ => id)) 1 0 0 _ 1 1 [⟨#[120]⟩] (HRD.out w9) (by decide)).mono ?_
  rintro e w10 ⟨rfl, hf10⟩
  have hF10 : Fr (fun _ => False) w8 w10 := (HF9.out.trans (Fr.alloc (fun _ => False) _ _) (fun _ _ h => h)).trans hf10 (fun _ _ h => h)
  have HF10 := hide hF10
  clear hF10 hf10
  go_wp2_with fail
  refine (outcome_any _ _ _ ub _ (H9.out.u.fr0 HF10.out)).mono ?_
  rintro e w11 ⟨rfl, rfl⟩
  unfold rK2
  go_wp2_with fail
  go_ret
  exact ⟨rfl, HF7.out.trans HF10.out (fun _ _ h => h)⟩
end Go.Proofs.Ytehneddmamnmiaa
