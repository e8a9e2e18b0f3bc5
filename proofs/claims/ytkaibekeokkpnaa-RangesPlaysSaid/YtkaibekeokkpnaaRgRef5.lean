/- The document's Move, whole; the Map's blocks within drawn regions. -/
import Derived.Test.YtkaibekeokkpnaaRgRef3
import Derived.Test.YtkaibekeokkpnaaRgRef4
import Derived.Test.YtkaibekeokkpnaaRgMoved
namespace Go.Proofs.Ytkaibekeokkpnaa
open Go.RowKit Go.Maps Go.Cv Go.Shelf
set_option linter.unusedVariables false

set_option maxRecDepth 100000 in
set_option maxHeartbeats 3200000 in
theorem refMove_no (w : World) (cs : Array Value) (ep : Int) (f : Int → Int) (h : RC cs ep f) (lo hi g : Int) (hne : refMoveE ep lo hi g ≠ 0) :
    Calls Try.prog 21 #[.agg cs, .int .i64 lo, .int .i64 hi, .int .i64 g] w fun e w' => ∃ cs', e = .returned (.tuple #[.agg cs', .int .i64 (refMoveE ep lo hi g)]) ∧ RC cs' 0 (fun _ => 0) ∧ Fr (fun _ => False) w w' := by
  have R0 := RB.made h w
  have F0 : Fr (fun _ => False) w _ := Fr.alloc (fun _ => False) w (.cells cs 58)
  obtain ⟨wa, hwa⟩ : ∃ wa, w.alloc (.cells cs 58) = wa := ⟨_, rfl⟩
  rw [hwa] at R0 F0
  obtain ⟨pb, hpb⟩ : ∃ pb, w.heap.size = pb := ⟨_, rfl⟩
  rw [hpb] at R0
  obtain ⟨E, hE⟩ : ∃ E, refMoveE ep lo hi g = E := ⟨_, rfl⟩
  rw [hE] at hne ⊢
  have hcase : (E = 1 ∧ lo < 0) ∨ (E = 1 ∧ ¬ lo < 0 ∧ hi ≤ lo) ∨ (E = 1 ∧ ¬ lo < 0 ∧ ¬ hi ≤ lo ∧ 256 < hi) ∨ (E = 1 ∧ ¬ lo < 0 ∧ ¬ hi ≤ lo ∧ ¬ 256 < hi ∧ g < 0) ∨ (E = 1 ∧ ¬ lo < 0 ∧ ¬ hi ≤ lo ∧ ¬ 256 < hi ∧ ¬ g < 0 ∧ 3 ≤ g) ∨
      (E = 23 ∧ ¬ lo < 0 ∧ ¬ hi ≤ lo ∧ ¬ 256 < hi ∧ ¬ g < 0 ∧ ¬ 3 ≤ g ∧ 1073741824 ≤ ep) := by
    unfold refMoveE at hE
    split at hE
    · omega
    · split at hE <;> omega
  clear hE hne
  have HWA := hide hwa
  have HPB := hide hpb
  have HR0 := hide R0
  have HF0 := hide F0
  clear hwa hpb R0 F0 h
  go_enter Try.func21, Try.ntmps21
  go_upto_region 1 with (refine wpList_alloc_ref rfl rfl ?_; intro c0 hc0)
  rw [HWA.out, HPB.out]
  have R1 := RB.made hc0 wa
  have F1 : Fr (fun _ => False) wa _ := Fr.alloc (fun _ => False) wa (.cells c0 58)
  obtain ⟨wb, hwb⟩ : ∃ wb, wa.alloc (.cells c0 58) = wb := ⟨_, rfl⟩
  have hsz : wa.heap.size = pb + 1 := by rw [← HWA.out, ← HPB.out]; simp
  obtain ⟨qb, hqb⟩ : ∃ qb, pb + 1 = qb := ⟨_, rfl⟩
  rw [hwb] at R1 F1
  rw [hsz, hqb] at R1
  have hr0 := HR0.out.fr F1 id
  have HR1 := hide R1
  have HF1 := hide (HF0.out.trans F1 (fun _ _ h => h))
  have HWB := hide hwb
  have HQB := hide hqb
  have e0 := hr0.ep0
  clear R1 F1 hr0 hwb hqb hc0 hsz
  rw [HWB.out, HQB.out]
  rcases hcase with ⟨rfl, i1⟩ | ⟨rfl, i1, i2⟩ | ⟨rfl, i1, i2, i3⟩ | ⟨rfl, i1, i2, i3, i4⟩ | ⟨rfl, i1, i2, i3, i4, i5⟩ | ⟨rfl, i1, i2, i3, i4, i5, i6⟩
  all_goals
    go_wp2_with (first
      | (refine wpList_build_ref0 rfl rfl ?_; intro c3 hc3)
      | (refine wpList_store_ref rfl _ _ rfl qb c3 rfl rfl 0 0 _ _ HR1.out hc3 ?_; intro wc2 hR2 hF2))
    obtain ⟨cs', hcs1, hcs2⟩ := id hR2
    refine bodyPost_ret (results_cell_row2 rfl _ _ qb _ cs' _ _ rfl hcs1 Try.underlying58 rfl (refSize hcs2) (.int .i64 _) rfl) rfl ⟨cs', rfl, hcs2, ?_⟩
    exact ((HF1.out.mono (S' := fun k => k = qb) (fun _ _ h => h.elim)).trans hF2 (fun _ _ h => h)).fresh (fun j hj => by have := HPB.out; have := HQB.out; omega)

/-- What the document's Move answers, whatever is asked. -/
def RefMv (ep lo hi g : Int) (f : Int → Int) (e : Ending) : Prop :=
  ∃ cs' e' f', e = .returned (.tuple #[.agg cs', .int .i64 (refMoveE ep lo hi g)]) ∧ RC cs' e' f' ∧ (refMoveE ep lo hi g = 0 → e' = ep + 1 ∧ f' = fun x => if lo ≤ x ∧ x < hi then g else f x)
theorem refMoveX (w : World) (cs : Array Value) (ep : Int) (f : Int → Int) (h : RC cs ep f) (lo hi g : Int) (hep0 : 0 ≤ ep) :
    Calls Try.prog 21 #[.agg cs, .int .i64 lo, .int .i64 hi, .int .i64 g] w fun e w' => RefMv ep lo hi g f e ∧ Fr (fun _ => False) w w' := by
  by_cases hne : refMoveE ep lo hi g = 0
  · have hh : 0 ≤ lo ∧ lo < hi ∧ hi ≤ 256 ∧ 0 ≤ g ∧ g < 3 ∧ ep < 1073741824 := by
      unfold refMoveE at hne
      split at hne
      · cases hne
      · split at hne
        · cases hne
        · omega
    obtain ⟨h1, h2, h3, h4, h5, h6⟩ := hh
    refine (refMove_any w cs ep f h lo hi g h1 h2 h3 h4 h5 hep0 h6).mono ?_
    rintro e w' ⟨cs', rfl, h9, hf⟩
    exact ⟨⟨cs', _, _, by rw [hne], h9, fun _ => ⟨rfl, rfl⟩⟩, hf⟩
  · refine (refMove_no w cs ep f h lo hi g hne).mono ?_
    rintro e w' ⟨cs', rfl, h9, hf⟩
    exact ⟨⟨cs', _, _, rfl, h9, fun h => absurd h hne⟩, hf⟩

theorem moveE_ref {ep : Int} {l : List P3} (h : rightM ep l = true) (lo hi g : Int) : moveE ep l lo hi g = refMoveE ep lo hi g := by
  obtain ⟨h1, h2, -⟩ := right_chk h
  unfold moveE refMoveE
  rw [h]
  by_cases hc : lo < 0 ∨ hi ≤ lo ∨ 256 < hi ∨ g < 0 ∨ 3 ≤ g
  · rw [if_pos (.inr hc), if_pos hc]
  · rw [if_neg (by simp; omega), if_neg hc]
    by_cases e : ep = 1073741824
    · rw [if_pos e, if_pos (by omega)]
    · rw [if_neg e, if_neg (by omega)]

/-- Move of a right Map: the answer, and parts in new memory. -/
def Moved (ep : Int) (l : List P3) (lo hi g : Int) (w : World) (e : Ending) (w' : World) : Prop :=
  ∃ ep' a' n' c' l', e = .returned (.tuple #[.agg #[.int .i64 ep', .slice a' n' c'], .int .i64 (refMoveE ep lo hi g)]) ∧ RD w' a' n' c' l' ∧ (∀ b, a' = some b → w.heap.size ≤ b.block) ∧ (refMoveE ep lo hi g = 0 → ep' = ep + 1 ∧ l' = moveP l lo hi g ∧ rightM ep' l' = true ∧ 0 ≤ g ∧ g < 3)
theorem moveX (w : World) (ep : Int) (a : Option Addr) (n c : Nat) (l : List P3) (h : RD w a n c l) (hr : rightM ep l = true) (lo hi g : Int) :
    Calls Try.prog 10 #[.agg #[.int .i64 ep, .slice a n c], .int .i64 lo, .int .i64 hi, .int .i64 g] w fun e w' => Moved ep l lo hi g w e w' ∧ Fr (fun _ => False) w w' := by
  have ht := moveE_ref hr lo hi g
  by_cases hne : refMoveE ep lo hi g = 0
  · have hh : 0 ≤ lo ∧ lo < hi ∧ hi ≤ 256 ∧ 0 ≤ g ∧ g < 3 ∧ ep < 1073741824 := by
      unfold refMoveE at hne
      split at hne
      · cases hne
      · split at hne
        · cases hne
        · omega
    obtain ⟨h1, h2, h3, h4, h5, h6⟩ := hh
    refine (move_new w ep _ l h.rd h.len lo hi g hr (by omega) h1 h2 h3 h4 h5).mono ?_
    rintro e w' ⟨v, rfl, hr2, hnew, hf⟩
    obtain ⟨a', m, c', rfl, h9⟩ := RD.of hr2 (Nat.le_trans (pz_len _ _) (by decide))
    exact ⟨⟨_, a', m, c', _, by rw [hne]; rfl, h9, fun b hb => hnew _ (by rw [hb]; rfl), fun _ => ⟨rfl, rfl, move_right hr h6 _ _ _ ⟨h4, h5⟩, h4, h5⟩⟩, hf⟩
  · refine (moveNo w ep a n c l h lo hi g (by rw [ht]; exact hne)).mono ?_
    rintro e w' ⟨rfl, hf⟩
    exact ⟨⟨0, none, 0, 0, [], by rw [ht], ⟨rfl, Reads.nil _ _, by omega⟩, (fun b hb => by cases hb), fun h => absurd h hne⟩, hf⟩
theorem newX (w : World) (n : Int) (h : 1 ≤ n ∧ n ≤ 3) : Calls Try.prog 8 #[.int .i64 n] w fun e w' => ∃ a m c, e = .returned (.tuple #[.agg #[.int .i64 1, .slice a m c], .int .i64 0]) ∧ RD w' a m c (newP n n.toNat) ∧ (∀ b, a = some b → w.heap.size ≤ b.block) ∧ Fr (fun _ => False) w w' := by
  obtain ⟨k, rfl⟩ : ∃ k : Nat, n = (k : Int) := ⟨n.toNat, by omega⟩
  refine (new_new w k (by omega)).mono ?_
  rintro e w' ⟨v, rfl, hr, hnew, hf⟩
  obtain ⟨a, m, c, rfl, h9⟩ := RD.of hr (newP_few k (by omega))
  exact ⟨a, m, c, rfl, by rw [Int.toNat_natCast]; exact h9, fun b hb => hnew _ (by rw [hb]; rfl), hf⟩

/-- The zero Map's cells. -/
def zeroRef : Array Value := Array.replicate 257 (.int .i64 0)
theorem rc_zeroRef : RC zeroRef 0 (fun _ => 0) := rc_zero
theorem exec_alloc_ref {o : Oper} {ev : Operand → Value} {w : World} (ho : o.op = .alloc 58) :
    (execOp ev o).run Try.prog w = .ok (.value (.pointer (some ⟨w.heap.size, 0, none⟩))) (w.alloc (.cells zeroRef 58)) := by
  have hz : ∀ w, (zeroValue 58).run Try.prog w = .ok (.agg zeroRef) w := (zero_of_info infoRef).1
  generalize zeroRef = zc at *
  unfold execOp
  simp only [ho, Instr.alloc, Sem.run_bind, hz, Result.andThen_ok, newVar, newRow, Value.cells]
  rfl
theorem wp_store_ref {o : Oper} {a : Act} {w : World} {K : Act → World → Prop} {Q : Exit → Act → World → Prop} (x y : Operand) (ho : o.op = .store 58 x y) (b : Nat) {cs : Array Value} (hx : a.eval x = .pointer (some ⟨b, 0, none⟩)) (hy : a.eval y = .agg cs) {ep ep' : Int} {f f' : Int → Int}
    (hb : RB w b ep' f') (hc : RC cs ep f) (h : ∀ w', RB w' b ep f → Fr (fun k => k = b) w w' → K (a.put o.dst undef) w') : Oper.wp Try.prog o a w K Q := by
  obtain ⟨old, h1, h2⟩ := hb
  refine wp_store_row _ x y ho b cs hx hy _ old h1 (refSize hc) (by rw [h2.1, hc.1]) hc.one (h _ ⟨cs, ?_, hc⟩ ?_)
  · simp [World.setRow, Array.getElem?_modify, h1]
  · refine ⟨rfl, rfl, rfl, by simp [World.setRow], fun k _ hk => ?_⟩
    have : ¬ b = k := fun e => hk e.symm
    simp [World.setRow, Array.getElem?_modify, this]
theorem RD.frB {w w' : World} {a : Option Addr} {n c : Nat} {l : List P3} (h : RD w a n c l) {S : Nat → Prop} (g : Fr S w w') (hS : ∀ b, a = some b → ¬ S b.block) : RD w' a n c l :=
  ⟨h.1, h.2.1.fr g (fun a' n' c' e => hS a' (by cases e; rfl)), h.2.2⟩
theorem MV.frB {w w' : World} {b : Nat} {ep : Int} {a : Option Addr} {n c : Nat} {l : List P3} (h : MV w b ep a n c l) {S : Nat → Prop} (g : Fr S w w') (h0 : ¬ S b) (hS : ∀ b, a = some b → ¬ S b.block) : MV w' b ep a n c l :=
  ⟨(g.block b (lt_of_block h.1) h0).trans h.1, h.2.frB g hS⟩
/-- A guarded load that is wanted. -/
theorem wpList_load_ref_on {ops : Array Oper} {rest : List Oper} {o : Oper} {a : Act} {w : World} {Q : Exit → Act → World → Prop} (hw : Region.wanted o (yielded ops a.tmps) = true) (x : Operand) (ho : o.op = .load 58 x) (b : Nat) (hx : a.eval x = .pointer (some ⟨b, 0, none⟩)) {cs : Array Value} {ep : Int} {f : Int → Int}
    (h1 : w.heap[b]? = some (.cells cs 58 (0, 0))) (h2 : RC cs ep f) (h : wpList Try.prog ops Q rest (a.put o.dst (.agg cs)) w) : wpList Try.prog ops Q (o :: rest) a w :=
  wpList_step fun K hK => by
    rw [if_pos hw]
    unfold Oper.wp
    rw [exec_load_ref x ho b hx h1 h2, Oper.upon_value]
    exact hK _ _ h
end Go.Proofs.Ytkaibekeokkpnaa
