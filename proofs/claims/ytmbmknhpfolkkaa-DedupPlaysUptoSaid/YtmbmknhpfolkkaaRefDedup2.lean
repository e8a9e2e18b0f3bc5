/- Done of the document's table. -/
import Derived.Test.YtmbmknhpfolkkaaRefDedup
import Derived.Deep.RegionLaw
namespace Go.Proofs.Ytmbmknhpfolkkaa
open Go.RowKit Go.Maps Go.Cv Go.Shelf
set_option linter.unusedVariables false

/-- append(v, x...) within a drawn region, v the call's own, x whatever slice. -/
theorem step_append_reads {P : Program} {w : World} {ops : Array Oper} {o : Oper} {a : Act} {K : Act → World → Prop} {Q : Exit → Act → World → Prop} {E : Prop} (hgd : o.guard = none) (s x : Operand) (t : TypeId)
    (ho : o.op = .call { callee := .builtin .append, args := #[s, x], argTypes := #[t, t] })
    (base : Nat) (e : TypeId) (i : TypeInfo) (z : Value) (size bytes : Nat) (ht : P.underlying t = some (.slice e)) (hi : P.info? e = some i) (hz : i.zero = some z)
    (hsize : i.size = size) (hby : i.bytes = bytes) (hzs : z.cells.size = size) (hsz : 0 < size) (v : Value) (n : Nat) (xs : List Value) (hs : a.eval s = v) (hown : w.ownsRow base e size v n xs)
    (xv : Value) (m : Nat) (news : List Value) (hx : a.eval x = xv) (hr : Reads w xv m size news) (h1 : ∀ u ∈ news, u.oneCell' = true)
    (h63 : n + m ≤ maxLen) (hbytes : (n + m) * bytes ≤ 140737488355328) (hbase : base ≤ w.heap.size) (N : Nat) (hN : n + m = N)
    (h : ∀ a' c' w', w'.ownsRow base e size (.slice a' N c') N (xs ++ news) → w.grownBy w' v.ownBlock → ((Value.slice a' N c').ownBlock = v.ownBlock ∨ (Value.slice a' N c').ownBlock = some w.heap.size) → K (a.put o.dst (.slice a' N c')) w') :
    if Region.wanted o (yielded ops a.tmps) = true then Oper.wp P o a w K Q else E := by
  have hw : Region.wanted o (yielded ops a.tmps) = true := by simp [Region.wanted, hgd]
  rw [if_pos hw]
  subst hN
  refine wp_append_reads w s x t ho base e i z size bytes ht hi hz hsize hby hzs hsz v n xs hs hown xv m news hx hr h1 h63 hbytes hbase fun v' w' h2 h3 h4 => ?_
  obtain ⟨a', c', rfl⟩ := own_shape h2
  exact h a' c' w' h2 h3 h4

theorem infoOne : (Try.prog.info? 72).map (fun i => (i.zero, i.size, i.bytes)) = some (some (.agg #[.string ⟨#[]⟩, .string ⟨#[]⟩, .int .i64 0]), 3, 40) := by kernel_rfl
theorem one_size : (Value.agg #[.string ⟨#[]⟩, .string ⟨#[]⟩, .int .i64 0]).cells.size = 3 := by simp [Value.cells]

def RTurned (w w' : World) (rb : Nat) (u : Value) (most : Int) (l : List L3) : Prop :=
  ∃ u', Rt w' rb u' most l ∧ (u'.ownBlock = u.ownBlock ∨ ∀ k, u'.ownBlock = some k → w.heap.size ≤ k) ∧ Fr (fun k => k = rb ∨ u.ownBlock = some k) w w'

theorem rDone_no (w : World) (rb : Nat) (u : Value) (most : Int) (l : List L3) (h : Rt w rb u most l) (hl : l.length ≤ 1000000) (c : ByteArray) (i : Int) (r : ByteArray) (hask : (askT l c i).1 ≠ 1) :
    Calls Try.prog 18 #[.pointer (some ⟨rb, 0, none⟩), .string c, .int .i64 i, .string r] w fun e w' => e = .returned (.int .i64 1) ∧ Fr (fun _ => False) w w' := by
  have hA := rAsk_any w rb u most l h hl c i
  obtain ⟨⟨q, s⟩, hq⟩ : ∃ p, askT l c i = p := ⟨_, rfl⟩
  rw [hq] at hA hask
  have hne : (q != 1) = true := by rw [bne_iff_ne]; exact hask
  have HA := hide hA
  clear hA h hq hask
  go_enter Try.func18, Try.ntmps18
  go_wp2_with fail
  refine HA.out.mono ?_
  rintro e w1 ⟨rfl, hf1⟩
  go_wp2_with fail
  go_ret
  exact ⟨rfl, hf1⟩

theorem own_empty (w : World) (base : Nat) (hb : base ≤ w.heap.size) (e : TypeId) (s : Nat) : (w.alloc (.cells #[] e)).ownsRow base e s (.slice (some ⟨w.heap.size, 0, none⟩) 0 0) 0 [] :=
  ⟨by simp, .inr ⟨w.heap.size, 0, #[], rfl, hb, block_alloc _ _, Nat.le_refl _, by unfold maxLen; omega, by simp, by simp⟩⟩

theorem reads_pre {w : World} {a : Option Addr} {n c s : Nat} {xs : List Value} (h : Reads w (.slice a n c) n s xs) {m : Nat} (hm : m ≤ n) : Reads w (.slice a m c) m s (xs.take (m * s)) := by
  obtain ⟨h1, a0, c0, e, h2, h3, h4⟩ := h
  cases e
  have hms : m * s ≤ n * s := Nat.mul_le_mul_right _ hm
  refine ⟨by rw [List.length_take, h1]; omega, _, _, rfl, (fun e => by obtain ⟨e1, e2⟩ := h2 e; exact ⟨by omega, e2⟩), by omega, fun i u hu => h4 i u ?_⟩
  have hi : i < m * s := by have := (List.getElem?_eq_some_iff.1 hu).1; rw [List.length_take] at this; omega
  rwa [List.getElem?_take, if_pos hi] at hu
theorem reads_one (w : World) (x : L3) (t : TypeId) : Reads (w.alloc (.cells #[.string x.1, .string x.2.2, .int .i64 x.2.1] t)) (.slice (some ⟨w.heap.size, 0, none⟩) 1 1) 1 3 (rc x) :=
  ⟨rfl, _, _, rfl, (by intro h; cases h), Nat.le_refl _, fun i u hu => ⟨_, _, rfl, by rw [cell_of_block (block_alloc w _)]; simpa [rc] using hu⟩⟩

set_option maxRecDepth 100000 in
set_option maxHeartbeats 6400000 in
theorem rDone_yes (w : World) (rb : Nat) (u : Value) (most : Int) (l : List L3) (h : Rt w rb u most l) (hl : l.length ≤ 1000) (c : ByteArray) (i : Int) (r : ByteArray) (hask : (askT l c i).1 = 1) :
    Calls Try.prog 18 #[.pointer (some ⟨rb, 0, none⟩), .string c, .int .i64 i, .string r] w fun e w' => e = .returned (.int .i64 0) ∧ RTurned w w' rb u most (doneT most l c i r) := by
  have hA := rAsk_any w rb u most l h (by omega) c i
  obtain ⟨⟨q, s⟩, hq⟩ : ∃ p, askT l c i = p := ⟨_, rfl⟩
  rw [hq] at hA hask
  have hask' : q = 1 := hask
  subst hask'
  obtain ⟨i0, hi0, hz0, hz1, hz2⟩ := info_parts infoOne
  obtain ⟨p, hp⟩ := found_ex l c
  have hF : ∀ w1, Fr (fun _ => False) w w1 → Calls Try.prog 33 #[.pointer (some ⟨rb, 0, none⟩), .string c] w1 fun e w' => e = .returned (.int .i64 p) ∧ w' = w1 := fun w1 hf => rFind_any w1 rb u most l (h.fr0 hf) (by omega) c p hp
  obtain ⟨n, hn⟩ : ∃ n, l.length = n := ⟨_, rfl⟩
  have hown := h.own
  have hblk := h.blk
  rw [hn] at hown hl
  obtain ⟨a, cp, rfl⟩ := own_shape hown
  have hn9 : (n : Int) ≤ 1000 := by omega
  have hcase : (p = -1 ∧ l.eraseP (is c) = l) ∨ ∃ k : Nat, p = k ∧ k < n ∧ l.eraseP (is c) = l.take k ++ l.drop (k + 1) := by
    rcases found_is hp with ⟨h1, h2⟩ | ⟨k, x, h1, h2, h3, h4⟩
    · left; refine ⟨h1, List.eraseP_of_forall_not (fun y hy hh => ?_)⟩
      rw [List.find?_eq_none] at h2; exact h2 y hy hh
    · right; exact ⟨k, h1, by have := (List.getElem?_eq_some_iff.1 h2).1; omega, by rw [h4, List.eraseIdx_eq_take_drop_succ]⟩
  have HA := hide hA
  have HF := hide hF
  have HH := hide h
  have HN := hide hn
  clear hA hF hq hask hp h hn
  rcases hcase with ⟨rfl, hl1⟩ | ⟨k, rfl, hk, hl1⟩
  case' inr =>
    have HO := hide hown
    have HB := hide hblk
    have HL1 := hide hl1
    have ik0 : ¬ (k : Int) < 0 := by omega
    have ik1 : (0 : Int) ≤ (k : Int) := by omega
    have ik2 : (k : Int) < (n : Int) := by omega
    clear hown hblk hl1
    go_enter Try.func18, Try.ntmps18
    go_wp2_with fail
    refine HA.out.mono ?_
    rintro e w1 ⟨rfl, hf1⟩
    have HF1 := hide hf1
    have hfd := HF.out w1 hf1
    have HFD := hide hfd
    clear hf1 hfd
    go_wp2_with fail
    refine HFD.out.mono ?_
    rintro e w1' ⟨rfl, rfl⟩
    have hb1 := (HF1.out.block rb (lt_of_block HB.out) id).trans HB.out
    have c0 : w1'.cell? ⟨rb, 0, none⟩ = some (.int .i64 most) := by rw [cell_of_block hb1]; rfl
    have c1 : w1'.cell? ⟨rb, 1, none⟩ = some (.slice a n cp) := by rw [cell_of_block hb1]; rfl
    have c2 : w1'.frozen? ⟨rb, 1, none⟩ = false := free_of_block hb1
    have hrl : rb < w1'.heap.size := lt_of_block hb1
    have hcap := (Reads.of_own HO.out)
    obtain ⟨-, a1, c1', e1, -, hcap, -⟩ := hcap
    cases e1
    have ik3 : (k : Int) ≤ (cp : Int) := by omega
    have ik4 : (k : Int) + 1 ≤ (n : Int) := by omega
    have ik5 : k ≤ cp := by omega
    have ik6 : k + 1 ≤ n := by omega
    have ik7 : n ≤ cp := by omega
    obtain ⟨k1, hk1⟩ : ∃ k1, k + 1 = k1 := ⟨_, rfl⟩
    have hw1 : IntKind.i64.wrap ((k : Int) + 1) = (k1 : Int) := by rw [← hk1]; exact IntWalk.i64_in _ (by omega)
    have jk1 : k1 ≤ n := by omega
    have jk2 : k1 ≤ cp := by omega
    have jk3 : (k1 : Int) ≤ (n : Int) := by omega
    have jk4 : (k1 : Int) ≤ (cp : Int) := by omega
    have hq0 : ∀ w, w = w1' → True := fun _ _ => trivial
    have hE := own_empty w1' (rb + 1) (by omega) 72 3
    have hrd1 : Reads w1' (.slice a n cp) n 3 (rowR l) := reads_old (Reads.of_own HO.out) HF1.out (fun _ _ => id)
    have hs1 := reads_pre hrd1 (show k ≤ n by omega)
    have hs2 := reads_cut hrd1 (lo := k1) (hi := n) jk1 (Nat.le_refl _)
    unfold sliced at hs2
    have hone1 : ∀ u ∈ (rowR l).take (k * 3), u.oneCell' = true := fun u hu => rowR_one l u (List.mem_of_mem_take hu)
    have hone2 : ∀ u ∈ ((rowR l).drop (k1 * 3)).take ((n - k1) * 3), u.oneCell' = true := fun u hu => rowR_one l u (List.mem_of_mem_drop (List.mem_of_mem_take hu))
    have HON1 := hide hone1
    have HON2 := hide hone2
    have HS1 := hide hs1
    have HS2 := hide hs2
    have HE := hide hE
    have HK1 := hide hk1
    clear hE hs1 hs2 hrd1 hq0 hk1 ik6 hone1 hone2
    have hfe : Fr (fun _ => False) w1' (w1'.alloc (.cells #[] 72)).drew := (Fr.alloc (fun _ => False) w1' _).drew
    have HFE := hide hfe
    have HB1 := hide hb1
    clear hfe
    go_wp2_with fail
    go_region_law
      ((first
        | (refine step_append_reads (by rfl) _ _ 68 (by rfl) (rb + 1) 72 i0 _ 3 40 Try.underlying68 hi0 hz0 hz1 hz2 one_size (by omega) (.slice (some ⟨w1'.heap.size, 0, none⟩) 0 0) 0 [] (by rfl) (HE.out.drew) (.slice a k cp) k ((rowR l).take (k * 3)) (by rfl) (reads_old HS1.out HFE.out (fun _ _ => id)) HON1.out (by unfold maxLen; omega) (by omega) (by have := HFE.out.size; omega) k (by omega) ?_; intro a2 c2' W1 hown1 hgrow1 hat1; have hfg := Fr.grown (S := fun j => w1'.heap.size ≤ j) hgrow1 (fun j hj => by cases hj; exact Nat.le_refl _); have hfW1 := (HFE.out.mono (S' := fun j => w1'.heap.size ≤ j) (fun _ _ h => h.elim)).trans hfg (fun _ _ h => h); have hbW1 : W1.heap[rb]? = some (.cells #[.int .i64 most, .slice a n cp] 70 (0, 0)) := (hfW1.block rb hrl (by omega)).trans HB1.out; have g0 := cell_of_block (j := 0) hbW1; have g1 := cell_of_block (j := 1) hbW1; have g2 := free_of_block (j := 1) hbW1; have HFW1 := hide hfW1; have HBW1 := hide hbW1; have HOW1 := hide hown1; have HAT1 := hide hat1; clear hown1 hgrow1 hat1 hfg hfW1 hbW1)
        | (refine step_append_reads (by rfl) _ _ 68 (by rfl) (rb + 1) 72 i0 _ 3 40 Try.underlying68 hi0 hz0 hz1 hz2 one_size (by omega) (.slice a2 k c2') k ([] ++ (rowR l).take (k * 3)) (by rfl) HOW1.out (.slice (if cp = k1 then a else Option.map (fun x => x.add (k1 * 3)) a) (n - k1) (cp - k1)) (n - k1) (((rowR l).drop (k1 * 3)).take ((n - k1) * 3)) (by rfl) (reads_old HS2.out HFW1.out (fun j hj hj2 => by omega)) HON2.out (by unfold maxLen; omega) (by omega) (by have := HFW1.out.size; omega) (n - 1) (by have := HK1.out; omega) ?_; intro a3 c3 W2 hown2 hgrow2 hat2; have hap : ∀ j, (Value.slice a2 k c2').ownBlock = some j → w1'.heap.size ≤ j := (fun j hj => by
              rcases HAT1.out with e | e
              · rw [e] at hj; cases hj; exact Nat.le_refl _
              · rw [e] at hj; cases hj; have := HFE.out.size; omega); have hfW2 := HFW1.out.trans (Fr.grown (S := fun j => w1'.heap.size ≤ j) hgrow2 hap) (fun _ _ h => h); have hbW2 : W2.heap[rb]? = some (.cells #[.int .i64 most, .slice a n cp] 70 (0, 0)) := (hfW2.block rb hrl (by omega)).trans HB1.out; have k0' := cell_of_block (j := 0) hbW2; have k1' := cell_of_block (j := 1) hbW2; have k2' := free_of_block (j := 1) hbW2; have HFW2 := hide hfW2; have HBW2 := hide hbW2; have HOW2 := hide hown2; have hat3 : Hid (∀ j, (Value.slice a3 (n - 1) c3).ownBlock = some j → w1'.heap.size ≤ j) := (hide (fun j hj => by
              rcases hat2 with e | e
              · rw [e] at hj; exact hap j hj
              · rw [e] at hj; cases hj; have := HFW1.out.size; omega)); clear hown2 hgrow2 hat2 hap hfW2 hbW2)))
    all_goals
      obtain ⟨AA, hAA⟩ : ∃ x, (if cp = k1 then a else Option.map (fun x : Addr => x.add (k1 * 3)) a) = x := ⟨_, rfl⟩
      rw [hAA]
      clear hAA
      have ht : ∃ u5, Rt (W2.setCell ⟨rb, 1, none⟩ (.slice a3 (n - 1) c3)) rb u5 most (l.eraseP (is c)) ∧ (u5.ownBlock = (Value.slice a n cp).ownBlock ∨ ∀ j, u5.ownBlock = some j → w.heap.size ≤ j) ∧ Fr (fun j => j = rb ∨ (Value.slice a n cp).ownBlock = some j) w (W2.setCell ⟨rb, 1, none⟩ (.slice a3 (n - 1) c3)) := by
        have hsz := HF1.out.size
        refine ⟨.slice a3 (n - 1) c3, ⟨block_setCell HBW2.out _, ?_⟩, .inr (fun j hj => by have := hat3.out j hj; omega), ?_⟩
        · rw [HL1.out]
          have e1 : (l.take k ++ l.drop (k + 1)).length = n - 1 := by rw [List.length_append, List.length_take, List.length_drop, HN.out]; omega
          have e2 : rowR (l.take k ++ l.drop (k + 1)) = ([] ++ (rowR l).take (k * 3)) ++ ((rowR l).drop (k1 * 3)).take ((n - k1) * 3) := by
            rw [rowR_append, rowR_take, rowR_drop, HK1.out, List.nil_append]
            rw [List.take_of_length_le (l := (rowR l).drop (k1 * 3)) (by rw [List.length_drop, rowR_len, HN.out, Nat.sub_mul]; exact Nat.le_refl _)]
          rw [e1, e2]
          exact ownsRow_setCell_below HOW2.out (by simp) _
        · refine (((HF1.out.mono (S' := fun j => w.heap.size ≤ j ∨ j = rb) (fun _ _ h => h.elim)).trans HFW2.out (fun j _ hj => .inl (by omega))).trans (Fr.setCell (S := fun j => j = rb) _ _ _ rfl) (fun _ _ h => .inr h)).mono (fun j hj h => ?_)
          rcases h with h | h
          · omega
          · exact .inl h
      clear HOW1 HAT1 HFW1 HBW1 HFW2 HBW2 HOW2 hat3 g0 g1 g2 k0' k1' k2' HS1 HS2 HE HFE HB1 HON1 HON2 c0 c1 c2 ik0 ik1 ik2 ik3 ik4 ik5 hw1 jk1 jk2 jk3 jk4 hrl hcap HK1 HB HO
      go_upto_region 7 with fail
      generalize W2.setCell ⟨rb, 1, none⟩ (.slice a3 (n - 1) c3) = w2 at *
  case' inl =>
    have ik0 : ¬ (0 : Int) ≤ (-1 : Int) := by decide
    clear hown hblk
    go_enter Try.func18, Try.ntmps18
    go_wp2_with fail
    refine HA.out.mono ?_
    rintro e w1 ⟨rfl, hf1⟩
    have hfd := HF.out w1 hf1
    have HFD := hide hfd
    have ht : ∃ u5, Rt w1 rb u5 most (l.eraseP (is c)) ∧ (u5.ownBlock = (Value.slice a n cp).ownBlock ∨ ∀ j, u5.ownBlock = some j → w.heap.size ≤ j) ∧ Fr (fun j => j = rb ∨ (Value.slice a n cp).ownBlock = some j) w w1 := by
      rw [hl1]; exact ⟨_, HH.out.fr0 hf1, .inl rfl, hf1.mono (fun _ _ h => h.elim)⟩
    clear hfd hf1
    go_wp2_with fail
    refine HFD.out.mono ?_
    rintro e w2 ⟨rfl, rfl⟩
    go_upto_region 7 with fail
    generalize w2 = w2 at *
  all_goals
    obtain ⟨l1, hl1e⟩ : ∃ l1, l.eraseP (is c) = l1 := ⟨_, rfl⟩
    have hl1n : l1.length ≤ n := by rw [← hl1e, ← HN.out]; exact List.length_eraseP_le
    have hdone : doneT most l c i r = lose most (l1 ++ [(c, i, r)]) := by unfold doneT; rw [hl1e]
    rw [hl1e] at ht
    obtain ⟨u1, ht1, hv1, hf3⟩ := ht
    have c0 := ht1.c0
    have c1 := ht1.c1
    have hb : rb < w2.heap.size := lt_of_block ht1.blk
    obtain ⟨n1, hn1⟩ : ∃ n, l1.length = n := ⟨_, rfl⟩
    have hown := ht1.own
    rw [hn1] at hown hl1n
    obtain ⟨a1, k1, rfl⟩ := own_shape hown
    have HT2 := hide ht1
    have HV1 := hide hv1
    have HF3 := hide hf3
    have HOa := hide (hown.alloc (.cells #[.string c, .string r, .int .i64 i] 72))
    have HRd := hide (reads_one w2 (c, i, r) 72)
    have HONE : Hid (∀ u ∈ rc (c, i, r), u.oneCell' = true) := hide (by have := rowR_one [(c, i, r)]; simpa [rowR] using this)
    have hM : n1 + 1 ≤ maxLen := by unfold maxLen; omega
    have HM2 : Hid ((n1 + 1) * 40 ≤ 140737488355328) := hide (by omega)
    have HM3 : Hid (rb + 1 ≤ (w2.alloc (.cells #[.string c, .string r, .int .i64 i] 72)).heap.size) := hide (by simp; omega)
    have hblk2 : ∀ w4 : World, (w2.alloc (.cells #[.string c, .string r, .int .i64 i] 72)).grownBy w4 (Value.slice a1 n1 k1).ownBlock → w4.heap[rb]? = some (.cells #[.int .i64 most, .slice a1 n1 k1] 70 (0, 0)) := fun w4 hg =>
      (hg.block rb (by simp; omega) (fun e => by have := (HT2.out.own.lt rb e.symm).1; omega)).trans ((Below.heap_alloc _ _ _ hb).trans HT2.out.blk)
    have HBLK := hide hblk2
    have HL1 := hide hn1
    clear ht1 hv1 hf3 hown hblk2 hn1 hl1e
    go_upto_region 8 with (at_builtin; refine wpList_append_reads _ rfl _ _ _ rfl (rb + 1) 72 i0 _ 3 40 Try.underlying68 hi0 hz0 hz1 hz2 one_size (by decide) (.slice a1 n1 k1) n1 (rowR l1) rfl HOa.out _ 1 (rc (c, i, r)) rfl HRd.out HONE.out hM HM2.out HM3.out ?_; intro v2 w4 hown2 hgrow hat; obtain ⟨a2, k2, rfl⟩ := own_shape hown2; have hc4 := cell_of_block (j := 1) (HBLK.out _ hgrow); have hf4 := free_of_block (j := 1) (HBLK.out _ hgrow); have HO2 := hide hown2; have HG2 := hide hgrow; have HAT := hide hat; clear hown2 hgrow hat)
    have hb5 : (w4.setCell ⟨rb, 1, none⟩ (.slice a2 (n1 + 1) k2)).heap[rb]? = some (.cells #[.int .i64 most, .slice a2 (n1 + 1) k2] 70 (0, 0)) := block_setCell (HBLK.out _ HG2.out) _
    have ht : RTurned w (w4.setCell ⟨rb, 1, none⟩ (.slice a2 (n1 + 1) k2)) rb (.slice a n cp) most (l1 ++ [(c, i, r)]) := by
      refine ⟨.slice a2 (n1 + 1) k2, ⟨hb5, ?_⟩, ?_, ?_⟩
      · have h5 : w4.ownsRow (rb + 1) 72 3 (.slice a2 (n1 + 1) k2) (l1 ++ [(c, i, r)]).length (rowR (l1 ++ [(c, i, r)])) := by
          rw [List.length_append, HL1.out, rowR_append]; simpa [rowR] using HO2.out
        exact ownsRow_setCell_below h5 (by simp) _
      · rcases HAT.out with hat | hat
        · rcases HV1.out with hv | hv
          · left; rw [← hv]; exact hat
          · right; intro k hk; rw [hat] at hk; exact hv k hk
        · right; intro k hk; rw [hat] at hk; cases hk; have := HF3.out.size; simp; omega
      · refine HF3.out.trans (((Fr.alloc (fun k => k = rb ∨ (Value.slice a1 n1 k1).ownBlock = some k) w2 _).trans (Fr.grown (S := fun k => k = rb ∨ (Value.slice a1 n1 k1).ownBlock = some k) HG2.out (fun k hk => .inr hk)) (fun _ _ h => h)).trans (Fr.setCell (S := fun k => k = rb ∨ (Value.slice a1 n1 k1).ownBlock = some k) _ _ _ (.inl rfl)) (fun _ _ h => h)) ?_
        intro k hk h2
        rcases h2 with h2 | h2
        · exact .inl h2
        · rcases HV1.out with hv | hv
          · right; rw [← hv, h2]
          · have := hv _ h2; omega
    have hl2 : (l1 ++ [(c, i, r)]).length = n1 + 1 := by rw [List.length_append, HL1.out]; rfl
    obtain ⟨l2, hl2e⟩ : ∃ l2, l1 ++ [(c, i, r)] = l2 := ⟨_, rfl⟩
    rw [hl2e] at ht hl2 hdone
    have HDONE := hide hdone
    clear hl2e hdone
    generalize w4.setCell ⟨rb, 1, none⟩ (.slice a2 (n1 + 1) k2) = w5 at *
    clear HT2 HV1 HF3 HOa HRd HBLK HO2 HG2 HAT hc4 hf4 c0 c1 hb hb5
    obtain ⟨u5, ht5, hv5, hf5⟩ := ht
    have d0 := ht5.c1
    have d1 := ht5.c0
    have hown5 := ht5.own
    rw [hl2] at hown5
    obtain ⟨a5, k5, rfl⟩ := own_shape hown5
    have HT5 := hide ht5
    have HV5 := hide hv5
    have HF5 := hide hf5
    have HOWN := hide hown5
    have HL2 := hide hl2
    have hrl5 : rb < w5.heap.size := lt_of_block ht5.blk
    clear ht5 hv5 hf5 hown5 hl2
    have hn1b : (n1 : Int) ≤ 1000 := by omega
    by_cases hm : most < (n1 : Int) + 1
    · have hlose : lose most l2 = l2.drop 1 := by unfold lose; rw [if_pos (by rw [HL2.out]; omega)]; cases l2 <;> rfl
      have HLOSE := hide hlose
      clear hlose
      obtain ⟨g5, rfl⟩ : ∃ g, a5 = some ⟨g, 0, none⟩ := by
        rcases HOWN.out.2 with ⟨e, e0⟩ | ⟨g, cap', cs, e, _⟩
        · omega
        · cases e; exact ⟨g, rfl⟩
      have hcap5 : n1 + 1 ≤ k5 := by obtain ⟨-, x1, x2, e1, -, h9, -⟩ := Reads.of_own HOWN.out; cases e1; exact h9
      have ic1 : (1 : Int) ≤ (k5 : Int) := by omega
      have ic2 : 1 ≤ k5 := by omega
      have ic3 : (1 : Int) ≤ (n1 : Int) + 1 := by omega
      have ic4 : 1 ≤ n1 + 1 := by omega
      go_wp2_with fail
      go_quiet (fail)
      obtain ⟨w6, hw6⟩ : ∃ w6, w5.drewN nq = w6 := ⟨_, rfl⟩
      have hq6 : Fr (fun _ => False) w5 (w5.drewN nq) := (Fr.refl (fun _ => False) w5).drewN nq
      rw [hw6] at hq6 ⊢
      have ht6 := HT5.out.fr0 hq6
      have own6 := ht6.own
      rw [HL2.out] at own6
      have hE := own_empty w6 (rb + 1) (by have := lt_of_block ht6.blk; omega) 72 3
      have hs := reads_cut (Reads.of_own own6) (lo := 1) (hi := n1 + 1) (by omega) (Nat.le_refl _)
      unfold sliced at hs
      have en1 : n1 + 1 - 1 = n1 := by omega
      rw [en1] at hs
      have hone : ∀ u ∈ ((rowR l2).drop (1 * 3)).take (n1 * 3), u.oneCell' = true := fun u hu => rowR_one l2 u (List.mem_of_mem_drop (List.mem_of_mem_take hu))
      obtain ⟨A5, hA5⟩ : ∃ A, (if k5 = 1 then some ⟨g5, 0, none⟩ else Option.map (fun x : Addr => x.add (1 * 3)) (some ⟨g5, 0, none⟩)) = A := ⟨_, rfl⟩
      have hA5' : (if k5 = 1 then some (⟨g5, 0, none⟩ : Addr) else some ⟨g5, 3, none⟩) = A5 := by rw [← hA5]; rfl
      rw [hA5] at hs
      have d2 := ht6.c1
      have d3 := free_of_block (j := 1) ht6.blk
      have hr6 := lt_of_block ht6.blk
      have hfe6 : Fr (fun _ => False) w6 (w6.alloc (.cells #[] 72)) := Fr.alloc _ _ _
      have HE6 := hide hE
      have HS6 := hide (reads_old hs hfe6 (fun _ _ => id))
      have HON6 := hide hone
      have HFE6 := hide hfe6
      have HT6 := hide ht6
      have HQ6 := hide hq6
      have hM6 : 0 + n1 ≤ maxLen := by unfold maxLen; omega
      have HM62 : Hid ((0 + n1) * 40 ≤ 140737488355328) := hide (by omega)
      have HM63 : Hid (rb + 1 ≤ (w6.alloc (.cells #[] 72)).heap.size) := hide (by simp; omega)
      clear hE hs hone hfe6 ht6 hq6 hA5 own6 d0 d1 hw6
      go_wp2_with (at_builtin; refine wpList_append_reads _ rfl _ _ _ rfl (rb + 1) 72 i0 _ 3 40 Try.underlying68 hi0 hz0 hz1 hz2 one_size (by decide) (.slice (some ⟨w6.heap.size, 0, none⟩) 0 0) 0 [] rfl HE6.out (.slice A5 n1 (k5 - 1)) n1 (((rowR l2).drop (1 * 3)).take (n1 * 3)) rfl HS6.out HON6.out hM6 HM62.out HM63.out ?_; intro v7 w7 hown7 hgrow7 hat7; obtain ⟨a7, c7, rfl⟩ := own_shape hown7; rw [Nat.zero_add] at hown7 hat7 ⊢; have hfg7 := Fr.grown (S := fun j => w6.heap.size ≤ j) hgrow7 (fun j hj => by cases hj; exact Nat.le_refl _); have hfW7 := (HFE6.out.mono (S' := fun j => w6.heap.size ≤ j) (fun _ _ h => h.elim)).trans hfg7 (fun _ _ h => h); have hb7 := (hfW7.block rb hr6 (by omega)).trans HT6.out.blk; have x0 := cell_of_block (j := 0) hb7; have x1 := cell_of_block (j := 1) hb7; have x2 := free_of_block (j := 1) hb7; have HO7 := hide hown7; have HB7 := hide hb7; have HF7 := hide hfW7; have HAT7 := hide hat7; clear hown7 hgrow7 hat7 hfg7 hfW7 hb7)
      go_ret
      rw [HDONE.out, HLOSE.out]
      have hsz5 := HF5.out.size
      have hsz6 := HQ6.out.size
      refine ⟨rfl, .slice a7 n1 c7, ⟨block_setCell HB7.out _, ?_⟩, .inr (fun j hj => ?_), ?_⟩
      · have e1 : (l2.drop 1).length = n1 := by rw [List.length_drop, HL2.out]; omega
        have e2 : rowR (l2.drop 1) = [] ++ ((rowR l2).drop (1 * 3)).take (n1 * 3) := by
          rw [rowR_drop, List.nil_append, List.take_of_length_le (l := (rowR l2).drop (1 * 3)) (by rw [List.length_drop, rowR_len, HL2.out]; omega)]
        rw [e1, e2]
        exact ownsRow_setCell_below HO7.out (by simp) _
      · rcases HAT7.out with e | e
        · rw [e] at hj; cases hj; show w.heap.size ≤ w6.heap.size; omega
        · rw [e] at hj; cases hj; simp; omega
      · refine (((HF5.out.trans HQ6.out (fun _ _ h => h.elim)).mono (S' := fun j => (j = rb ∨ (Value.slice a n cp).ownBlock = some j) ∨ w6.heap.size ≤ j) (fun _ _ h => .inl h)).trans HF7.out (fun _ _ h => .inr h)).trans (Fr.setCell (S := fun j => j = rb) _ _ _ rfl) (fun _ _ h => .inl (.inl h)) |>.mono (fun j hj h => h.elim id (fun h => by omega))
    · have hlose : lose most l2 = l2 := by unfold lose; rw [if_neg (by rw [HL2.out]; omega)]
      have HLOSE := hide hlose
      clear hlose
      go_wp2_with fail
      go_quiet (fail)
      go_wp2_with fail
      go_ret
      rw [HDONE.out, HLOSE.out]
      exact ⟨rfl, _, HT5.out.fr0 ((Fr.refl _ _).drewN _), HV5.out, HF5.out.drewN _⟩
end Go.Proofs.Ytmbmknhpfolkkaa
