/- The document's Map: an epoch and an array of 256 numbers, as one row of 257 cells; its New. -/
import Derived.Test.YtkaibekeokkpnaaRanges4
import Derived.Deep.WholeRow
namespace Go.Proofs.Ytkaibekeokkpnaa
open Go.RowKit Go.Maps Go.Cv Go.Shelf
set_option linter.unusedVariables false

/-- The cells of the document's Map. -/
def RC (cs : Array Value) (ep : Int) (f : Int → Int) : Prop :=
  cs.size = 257 ∧ cs[0]? = some (.int .i64 ep) ∧ ∀ i : Nat, i < 256 → cs[1 + i]? = some (.int .i64 (f i))
def RB (w : World) (b : Nat) (ep : Int) (f : Int → Int) : Prop := ∃ cs, w.heap[b]? = some (.cells cs 58 (0, 0)) ∧ RC cs ep f
theorem RC.one {cs : Array Value} {ep : Int} {f : Int → Int} (h : RC cs ep f) : cs.all (·.oneCell') = true := by
  rw [Array.all_eq_true]
  intro i hi
  obtain ⟨h1, h2, h3⟩ := h
  have e : cs[i]? = some cs[i] := Array.getElem?_eq_getElem hi
  cases i with
  | zero => rw [h2] at e; rw [← Option.some.inj e]; rfl
  | succ i =>
    have h9 := h3 i (by omega)
    rw [show 1 + i = i + 1 by omega] at h9
    rw [h9] at e; rw [← Option.some.inj e]; rfl
theorem RB.lt {w : World} {b : Nat} {ep : Int} {f : Int → Int} (h : RB w b ep f) : b < w.heap.size := by obtain ⟨cs, h1, _⟩ := h; exact lt_of_block h1
theorem RB.fr {w w' : World} {b : Nat} {ep : Int} {f : Int → Int} (h : RB w b ep f) {S : Nat → Prop} (g : Fr S w w') (hS : ¬ S b) : RB w' b ep f := by
  obtain ⟨cs, h1, h2⟩ := h; exact ⟨cs, (g.block b (lt_of_block h1) hS).trans h1, h2⟩
theorem RB.ep0 {w : World} {b : Nat} {ep : Int} {f : Int → Int} (h : RB w b ep f) : w.cell? ⟨b, 0, none⟩ = some (.int .i64 ep) := by
  obtain ⟨cs, h1, h2⟩ := h; rw [cell_of_block h1]; exact h2.2.1
theorem RB.of {w : World} {b : Nat} {ep : Int} {f : Int → Int} (h : RB w b ep f) (i : Nat) (hi : i < 256) : w.cell? ⟨b, 1 + i, none⟩ = some (.int .i64 (f i)) := by
  obtain ⟨cs, h1, h2⟩ := h; rw [cell_of_block h1]; exact h2.2.2 i hi
theorem RB.free {w : World} {b : Nat} {ep : Int} {f : Int → Int} (h : RB w b ep f) (i : Nat) : w.frozen? ⟨b, i, none⟩ = false := by
  obtain ⟨cs, h1, h2⟩ := h; exact free_of_block h1
theorem RB.congr {w : World} {b : Nat} {ep : Int} {f f' : Int → Int} (h : RB w b ep f) (e : ∀ i : Int, 0 ≤ i → i < 256 → f' i = f i) : RB w b ep f' := by
  obtain ⟨cs, h1, h2, h3, h4⟩ := h
  exact ⟨cs, h1, h2, h3, fun i hi => by rw [e _ (by omega) (by omega)]; exact h4 i hi⟩
theorem RB.set {w : World} {b : Nat} {ep : Int} {f : Int → Int} (h : RB w b ep f) (i : Nat) (hi : i < 256) (v : Int) : RB (w.setCell ⟨b, 1 + i, none⟩ (.int .i64 v)) b ep (fun x => if x = (i : Int) then v else f x) := by
  obtain ⟨cs, h1, h2, h3, h4⟩ := h
  refine ⟨_, block_setCell h1 _, by simpa using h2, ?_, fun j hj => ?_⟩
  · rw [Array.getElem?_setIfInBounds_ne (by omega)]; exact h3
  · rw [Array.getElem?_setIfInBounds]
    by_cases e : i = j
    · subst e; simp [h2]; omega
    · have e2 : ¬ (j : Int) = (i : Int) := by omega
      rw [if_neg (by omega)]; simp only [if_neg e2]; exact h4 j hj

theorem infoRef : (Try.prog.info? 58).map (fun i => (i.zero, i.size)) = some (some (.agg (Array.replicate 257 (.int .i64 0))), 257) := by kernel_rfl
theorem refSize {cs : Array Value} {ep : Int} {f : Int → Int} (h : RC cs ep f) : (Try.prog.info? 58).map (·.size) = some cs.size := by
  rw [h.1]; exact (zero_of_info infoRef).2
theorem rc_zero : RC (Array.replicate 257 (.int .i64 0)) 0 (fun _ => 0) :=
  ⟨by simp, by simp, fun i hi => by rw [Array.getElem?_replicate, if_pos (by omega)]⟩
theorem builtRef (ep : Int) : ∃ cs, Try.prog.built 58 [(0, .int .i64 ep)] = some cs ∧ RC cs ep (fun _ => 0) := by
  refine ⟨(Array.replicate 257 (.int .i64 0)).setIfInBounds 0 (.int .i64 ep), ?_, by simp, by simp, fun i hi => ?_⟩
  · have hu := Try.underlying58
    have h := infoRef
    cases hq : Try.prog.info? 58 with
    | none => rw [hq] at h; cases h
    | some it =>
      rw [hq] at h
      simp only [Option.map_some, Option.some.injEq, Prod.mk.injEq] at h
      unfold Program.built
      rw [hq, hu]
      simp only [h.1]
      have h3 : (Try.prog.info? 3).map (fun i => i.size) = some 1 := by kernel_rfl
      have h39 : (Try.prog.info? 39).map (fun i => i.size) = some 256 := by kernel_rfl
      simp only [List.mapM_cons, List.mapM_nil]
      cases h3q : Try.prog.info? 3 with
      | none => rw [h3q] at h3; cases h3
      | some i3 =>
        cases h9q : Try.prog.info? 39 with
        | none => rw [h9q] at h39; cases h39
        | some i9 =>
          rw [h3q] at h3; rw [h9q] at h39
          simp at h3 h39
          simp [Instr.fill, Value.cells, h3, h39]
  · rw [Array.getElem?_setIfInBounds_ne (by omega), Array.getElem?_replicate, if_pos (by omega)]

section
variable {ops : Array Oper} {rest : List Oper} {o : Oper} {a : Act} {w : World} {Q : Exit → Act → World → Prop}
theorem wpList_alloc_ref (hg : o.guard = none) (ho : o.op = .alloc 58)
    (h : ∀ cs, RC cs 0 (fun _ => 0) → wpList Try.prog ops Q rest (a.put o.dst (.pointer (some ⟨w.heap.size, 0, none⟩))) (w.alloc (.cells cs 58))) : wpList Try.prog ops Q (o :: rest) a w := by
  refine wpList_plain hg fun K hK => ?_
  have hz := (zero_of_info infoRef).1
  have hk := hK _ _ (h _ rc_zero)
  generalize Array.replicate 257 (Value.int IntKind.i64 0) = zc at *
  unfold Oper.wp execOp
  simp only [ho, Instr.alloc, Sem.run_bind, hz, Result.andThen_ok, newVar, newRow, Value.cells]
  exact hk
theorem wpList_build_ref (hg : o.guard = none) (x : Operand) (ho : o.op = .build 58 #[(0, x)]) (ep : Int) (hx : a.eval x = .int .i64 ep)
    (h : ∀ cs, RC cs ep (fun _ => 0) → wpList Try.prog ops Q rest (a.put o.dst (.agg cs)) w) : wpList Try.prog ops Q (o :: rest) a w := by
  obtain ⟨cs, h1, h2⟩ := builtRef ep
  have h1' : Try.prog.built 58 ((#[(0, x)] : Array (Nat × Operand)).map fun (i, x) => (i, a.eval x)).toList = some cs := by
    rw [← h1]; simp [hx]
  refine wpList_build hg _ _ ho (by rw [h1']; rfl) ?_
  rw [h1']; exact h cs h2
theorem wpList_load_ref (hg : o.guard = none) (x : Operand) (ho : o.op = .load 58 x) (b : Nat) (hx : a.eval x = .pointer (some ⟨b, 0, none⟩)) (ep : Int) (f : Int → Int) (hb : RB w b ep f)
    (h : ∀ cs, RC cs ep f → wpList Try.prog ops Q rest (a.put o.dst (.agg cs)) w) : wpList Try.prog ops Q (o :: rest) a w := by
  obtain ⟨cs, h1, h2⟩ := hb
  exact wpList_load_row hg _ x ho b hx _ cs _ _ h1 Try.underlying58 rfl (refSize h2) (h cs h2)
theorem wpList_store_ref (hg : o.guard = none) (x y : Operand) (ho : o.op = .store 58 x y) (b : Nat) (cs : Array Value) (hx : a.eval x = .pointer (some ⟨b, 0, none⟩)) (hy : a.eval y = .agg cs) (ep ep' : Int) (f f' : Int → Int)
    (hb : RB w b ep' f') (hc : RC cs ep f) (h : ∀ w', RB w' b ep f → Fr (fun k => k = b) w w' → wpList Try.prog ops Q rest (a.put o.dst undef) w') : wpList Try.prog ops Q (o :: rest) a w := by
  obtain ⟨old, h1, h2⟩ := hb
  refine wpList_store_row hg _ x y ho b cs hx hy _ old h1 (refSize hc) (by rw [h2.1, hc.1]) hc.one (h _ ⟨cs, ?_, hc⟩ ?_)
  · simp [World.setRow, Array.getElem?_modify, h1]
  · refine ⟨rfl, rfl, rfl, by simp [World.setRow], fun k _ hk => ?_⟩
    have : ¬ b = k := fun e => hk e.symm
    simp [World.setRow, Array.getElem?_modify, this]
end
theorem RB.made {cs : Array Value} {ep : Int} {f : Int → Int} (h : RC cs ep f) (w : World) : RB (w.alloc (.cells cs 58)) w.heap.size ep f := ⟨cs, block_alloc _ _, h⟩

theorem new_q2 (n k : Nat) (h : n ≤ 3) (hk : k < n) : ∃ Q : Nat, (256 * (k : Int)).tdiv n = (Q : Int) ∧ Q ≤ 256 := by
  have hall : ∀ n ∈ [0, 1, 2, 3], ∀ k ∈ [0, 1, 2], ((256 * ((k : Nat) : Int)).tdiv ((n : Nat) : Int)) = ((256 * (k : Int)).tdiv n).toNat ∧ (k < n → ((256 * (k : Int)).tdiv n).toNat ≤ 256) := by decide
  have := hall n (by simp; omega) k (by simp; omega)
  exact ⟨_, this.1, this.2 hk⟩

set_option maxRecDepth 100000 in
set_option maxHeartbeats 1600000 in
theorem refNew_any (w : World) (n : Nat) (h : 1 ≤ n ∧ n ≤ 3) :
    Calls Try.prog 20 #[.int .i64 n] w fun e w' => ∃ cs, e = .returned (.agg cs) ∧ RC cs 1 (newF n n) ∧ Fr (fun _ => False) w w' := by
  obtain ⟨h1, h2⟩ := h
  go_enter Try.func20, Try.ntmps20
  go_upto_region 1 with (refine wpList_alloc_ref rfl rfl ?_; intro c0 hc0; have R0 := RB.made hc0 w; have F0 : Fr (fun _ => False) w _ := Fr.alloc (fun _ => False) w (.cells c0 58); generalize w.alloc (.cells c0 58) = wa at *)
  go_upto_region 2 with (first
    | (refine wpList_build_ref rfl _ rfl _ rfl ?_; intro c1 hc1)
    | (refine wpList_alloc_ref rfl rfl ?_; intro c2 hc2; have R1 := RB.made hc2 wa; have F1 : Fr (fun _ => False) wa _ := Fr.alloc (fun _ => False) wa (.cells c2 58); have L1 := R0.lt; generalize wa.alloc (.cells c2 58) = wb at *; generalize wa.heap.size = mb at *)
    | (refine wpList_store_ref rfl _ _ rfl mb c1 rfl rfl 1 0 (fun _ => 0) (fun _ => 0) R1 hc1 ?_; intro wc hR1 hF1))
  obtain ⟨rb, hrb⟩ : ∃ rb, w.heap.size = rb := ⟨_, rfl⟩
  rw [hrb] at R0 L1 ⊢
  have hR0 := (R0.fr F1 id).fr hF1 (by omega)
  have hF : Fr (fun k => rb ≤ k) w wc := (((F0.trans F1 (fun _ _ h => h)).mono (fun _ _ h => h.elim)).trans hF1 (fun _ _ h => by omega))
  have HR0 := hide hR0
  have HR1 := hide hR1
  have HF := hide hF
  have HRB := hide hrb
  clear R0 F0 R1 F1 hR0 hR1 hF hF1 hc0 hc1 hc2 hrb
  go_wp2_with fail
  go_loopw [4] (fun i wr => ∃ (k : Nat), i = .int .i64 k ∧ k ≤ n ∧ RB wr mb 1 (newF n k) ∧ RB wr rb 0 (fun _ => 0) ∧ Fr (fun k => rb ≤ k) w wr)
    (fun i _ => n - (intOf i).toNat)
  case atStart => exact ⟨0, rfl, Nat.zero_le _, HR1.out, HR0.out, HF.out⟩
  case round =>
    obtain ⟨k, rfl, hk, hm, hr, hf⟩ := hrel
    have HM := hide hm
    have HR := hide hr
    have HFr := hide hf
    clear hm hr hf
    by_cases hlt : k < n
    · have ik1 : (k : Int) < (n : Int) := by omega
      have ik2 : (k : Int) < 3 := by omega
      have in0 : ¬ n = 0 := by omega
      obtain ⟨Q, hQ, hQ2⟩ := new_q2 n k h2 hlt
      have HQ := hide hQ
      clear hQ
      have hQ3 := HQ.out
      go_upto_region 6 with fail
      go_loopw [5] (fun i wx => ∃ (H : Nat), i = .int .i64 H ∧ Q ≤ H ∧ H ≤ 256 ∧ RB wx mb 1 (fun x => if (Q : Int) ≤ x ∧ x < (H : Int) then (k : Int) else newF n k x) ∧ RB wx rb 0 (fun _ => 0) ∧ Fr (fun k => rb ≤ k) w wx)
        (fun i _ => 256 - (intOf i).toNat)
      case atStart => exact ⟨Q, rfl, Nat.le_refl _, hQ2, HM.out.congr (fun i h0 h1 => by rw [if_neg (by omega)]), HR.out, HFr.out⟩
      case round =>
        obtain ⟨H, rfl, hH1, hH2, hm, hr, hf⟩ := hrel
        have HMx := hide hm
        have HRx := hide hr
        have HFx := hide hf
        clear hm hr hf
        by_cases hlt2 : H < 256
        · have ik3 : (H : Int) < 256 := by omega
          have ik4 : (0 : Int) ≤ (H : Int) := by omega
          obtain ⟨d, hd⟩ : ∃ d, wr.cell? ⟨mb, 1 + H, none⟩ = some (.int .i64 d) := ⟨_, HMx.out.of H hlt2⟩
          have d1 : wr.frozen? ⟨mb, 1 + H, none⟩ = false := HMx.out.free (1 + H)
          go_wp2_with fail
          go_roundw
          case rel =>
            have hs : Fr (fun k => k = mb) wr (wr.setCell ⟨mb, 1 + H, none⟩ (.int .i64 k)) := Fr.setCell _ _ _ rfl
            refine ⟨H + 1, by go_num, by omega, by omega, (HMx.out.set H hlt2 k).congr (fun i h0 h1 => ?_), HRx.out.fr hs (by omega), HFx.out.trans hs (fun _ _ h => by omega)⟩
            by_cases e : i = (H : Int)
            · rw [if_pos (by omega), if_pos e]
            · rw [if_neg e]
              by_cases e2 : (Q : Int) ≤ i ∧ i < (H : Int)
              · rw [if_pos (by omega), if_pos e2]
              · rw [if_neg (by omega), if_neg e2]
          case measure => simp [intOf]; omega
        · have hH : H = 256 := by omega
          subst hH
          go_wp2_with fail
          go_roundw
          case rel =>
            refine ⟨k + 1, by go_num, by omega, HMx.out.congr (fun i h0 h1 => ?_), HRx.out, HFx.out⟩
            rw [newF, HQ.out]
            show (if (Q : Int) ≤ i then (k : Int) else newF n k i) = _
            by_cases e : (Q : Int) ≤ i
            · rw [if_pos e, if_pos (by omega)]
            · rw [if_neg e, if_neg (by omega)]
          case measure => simp [intOf]; omega
    · have hkn : k = n := by omega
      subst hkn
      have ik1 : ¬ (k : Int) < (k : Int) := by omega
      go_wp2_with (first
        | (refine wpList_load_ref rfl _ rfl mb rfl 1 _ HM.out ?_; intro c3 hc3)
        | (refine wpList_store_ref rfl _ _ rfl rb c3 rfl rfl 1 0 _ _ HR.out hc3 ?_; intro wc2 hR2 hF2))
      have hR2' := hR2
      obtain ⟨cs, hcs1, hcs2⟩ := hR2'
      refine bodyPost_ret (results_cell_row rfl _ _ rb _ cs _ _ rfl hcs1 Try.underlying58 rfl (refSize hcs2)) rfl ⟨_, rfl, hcs2, ?_⟩
      exact (HFr.out.trans hF2 (fun _ _ h => by omega)).fresh (fun j hj => by have := HRB.out; omega)
end Go.Proofs.Ytkaibekeokkpnaa
