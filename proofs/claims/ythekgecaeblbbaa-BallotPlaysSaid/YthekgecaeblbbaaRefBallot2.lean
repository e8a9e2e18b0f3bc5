/- The document's acceptor: Prepare, Accept. -/
import Derived.Test.YthekgecaeblbbaaRefBallot
import Derived.Deep.RegionLaw
namespace Go.Proofs.Ythekgecaeblbbaa
open Go.RowKit Go.Maps Go.Cv Go.Shelf
set_option linter.unusedVariables false

/-- What the document's Prepare leaves. -/
def RPrepared (w : World) (rb : Nat) (u : Value) (b : Bt) (l : List Vt) (s : Int) (q : Bool) (e : Ending) (w' : World) : Prop :=
  ∃ v, e = .returned (.tuple #[.bool q, v]) ∧
      ((q = false ∧ v = .slice none 0 0 ∧ Fr (fun _ => False) w w') ∨ (q = true ∧ Ra w' rb u b l ∧ w'.ownsRow w.heap.size 40 4 v (fromV l s).length (rowV (fromV l s)) ∧ Fr (fun k => k = rb) w w'))

theorem Ra.promise {w : World} {rb : Nat} {u : Value} {p1 p2 : Int} {l : List Vt} (h : Ra w rb u (p1, p2) l) (b1 b2 : Int) : Ra ((w.setCell ⟨rb, 0, none⟩ (.int .i64 b1)).setCell ⟨rb, 1, none⟩ (.int .i64 b2)) rb u (b1, b2) l := by
  refine ⟨by rw [block_setCell (block_setCell h.blk _)]; rfl, ?_⟩
  exact ownsRow_setCell_below (ownsRow_setCell_below h.own (Nat.lt_succ_self rb) _) (Nat.lt_succ_self rb) _

set_option maxRecDepth 100000 in
set_option maxHeartbeats 1600000 in
theorem rPrepare_any (w : World) (rb : Nat) (u : Value) (p : Bt) (l : List Vt) (h : Ra w rb u p l) (hl : l.length ≤ 1000000) (b : Bt) (s : Int) :
    Calls Try.prog 22 #[.pointer (some ⟨rb, 0, none⟩), .agg (bcells b), .int .i64 s] w (RPrepared w rb u b l s (less p b)) := by
  obtain ⟨p1, p2⟩ := p
  obtain ⟨b1, b2⟩ := b
  have hL : ∀ w, Calls Try.prog 21 #[.agg #[.int .i64 p1, .int .i64 p2], .agg #[.int .i64 b1, .int .i64 b2]] w fun e w' => e = .returned (.bool (less (p1, p2) (b1, b2))) ∧ Fr (fun _ => False) w w' := fun w => rLess_any w (p1, p2) (b1, b2)
  generalize less (p1, p2) (b1, b2) = q at *
  have hab := lt_of_block h.blk
  obtain ⟨w0, hw0⟩ : ∃ w0, w.alloc (.cells #[.int .i64 b1, .int .i64 b2] 23) = w0 := ⟨_, rfl⟩
  have hF : Fr (fun _ => False) w w0 := by rw [← hw0]; exact Fr.alloc _ _ _
  have hxb : w0.heap[w.heap.size]? = some (.cells #[.int .i64 b1, .int .i64 b2] 23 (0, 0)) := by rw [← hw0]; exact block_alloc _ _
  have hA0 := h.fr0 hF
  have hC : ∀ wx, Fr (fun _ => False) w0 wx → wx.cell? ⟨rb, 0, none⟩ = some (.int .i64 p1) ∧ wx.cell? ⟨rb, 1, none⟩ = some (.int .i64 p2) ∧ wx.cell? ⟨w.heap.size, 0, none⟩ = some (.int .i64 b1) ∧ wx.cell? ⟨w.heap.size, 1, none⟩ = some (.int .i64 b2) ∧ wx.frozen? ⟨rb, 0, none⟩ = false ∧ wx.frozen? ⟨rb, 1, none⟩ = false := fun wx hf => by
    have e1 := (hA0.fr0 hf).blk
    have e2 := (hf.block _ (lt_of_block hxb) id).trans hxb
    exact ⟨by rw [cell_of_block e1]; rfl, by rw [cell_of_block e1]; rfl, by rw [cell_of_block e2]; rfl, by rw [cell_of_block e2]; rfl, free_of_block e1, free_of_block e1⟩
  obtain ⟨k0, k1, k2, k3, k4, k5⟩ := hC w0 (Fr.refl _ _)
  have HC := hide hC
  have HW0 := hide hw0
  have HF := hide hF
  have HL := hide hL
  have HA := hide hA0
  have hs0 : w.heap.size < w0.heap.size := lt_of_block hxb
  clear hC hw0 hF hL hA0 h hxb
  show Calls _ _ #[.pointer (some ⟨rb, 0, none⟩), .agg #[.int .i64 b1, .int .i64 b2], .int .i64 s] w _
  cases q with
  | false =>
    go_enter Try.func22, Try.ntmps22
    go_wp2_with fail
    rw [HW0.out]
    go_region_held3 (fun w' => w'.cell? ⟨rb, 0, none⟩ = some (.int .i64 p1) ∧ w'.cell? ⟨rb, 1, none⟩ = some (.int .i64 p2) ∧ w'.cell? ⟨w.heap.size, 0, none⟩ = some (.int .i64 b1) ∧ w'.cell? ⟨w.heap.size, 1, none⟩ = some (.int .i64 b2))
      (go_keep)
      ((go_at_call 21; refine (HL.out _).mono ?_; rintro e w1 ⟨rfl, hf1⟩; have hf2 := (Fr.refl (fun _ => False) w0).drew.trans hf1 (fun _ _ h => h); obtain ⟨g0, g1, g2, g3, g4, g5⟩ := HC.out w1 hf2; have HF2 := hide hf2; clear hf1 hf2))
    all_goals
      go_wp2_with fail
      go_ret2
      unfold RPrepared
      exact ⟨_, rfl, .inl ⟨rfl, rfl, HF.out.trans HF2.out (fun _ _ h => h)⟩⟩
  | true =>
    go_enter Try.func22, Try.ntmps22
    go_wp2_with fail
    rw [HW0.out]
    go_region_held3 (fun w' => w'.cell? ⟨rb, 0, none⟩ = some (.int .i64 p1) ∧ w'.cell? ⟨rb, 1, none⟩ = some (.int .i64 p2) ∧ w'.cell? ⟨w.heap.size, 0, none⟩ = some (.int .i64 b1) ∧ w'.cell? ⟨w.heap.size, 1, none⟩ = some (.int .i64 b2))
      (go_keep)
      ((go_at_call 21; refine (HL.out _).mono ?_; rintro e w1 ⟨rfl, hf1⟩; have hf2 := (Fr.refl (fun _ => False) w0).drew.trans hf1 (fun _ _ h => h); obtain ⟨g0, g1, g2, g3, g4, g5⟩ := HC.out w1 hf2; have HF2 := hide hf2; clear hf1 hf2))
    all_goals
      have HA1 := hide (HA.out.fr0 HF2.out)
      obtain ⟨w2, hw2⟩ : ∃ w2, (w1.setCell ⟨rb, 0, none⟩ (.int .i64 b1)).setCell ⟨rb, 1, none⟩ (.int .i64 b2) = w2 := ⟨_, rfl⟩
      have hf3 : Fr (fun k => k = rb) w1 w2 := by rw [← hw2]; exact (Fr.setCell (S := fun k => k = rb) _ _ _ rfl).trans (Fr.setCell (S := fun k => k = rb) _ _ _ rfl) (fun _ _ h => h)
      have hA2 : Ra w2 rb u (b1, b2) l := by rw [← hw2]; exact HA1.out.promise b1 b2
      have HV := hide (rVotes_any w2 rb u (b1, b2) l hA2 hl s)
      have HW2 := hide hw2
      have HA2 := hide hA2
      have hfw := (HF.out.trans HF2.out (fun _ _ h => h)).mono (S' := fun k => k = rb) (fun _ _ h => h.elim)
      have HF3 := hide (hfw.trans hf3 (fun _ _ h => h))
      clear hw2 hf3 hA2 hfw
      go_wp2_with fail
      rw [HW2.out]
      refine HV.out.mono ?_
      rintro e w4 ⟨v, rfl, ho, hf⟩
      obtain ⟨a9, c9, rfl⟩ := own_shape ho
      have HO := hide ho
      have HF4 := hide hf
      clear ho hf
      go_wp2_with fail
      go_ret2
      unfold RPrepared
      exact ⟨_, rfl, .inr ⟨rfl, HA2.out.fr0 HF4.out, own_base HO.out HF3.out.size, HF3.out.trans HF4.out (fun _ _ h => h.elim)⟩⟩

set_option maxRecDepth 100000 in
set_option maxHeartbeats 12800000 in
theorem rAccept_no (w : World) (rb : Nat) (u : Value) (p : Bt) (l : List Vt) (h : Ra w rb u p l) (b : Bt) (s : Int) (v : ByteArray) (hno : less b p = true ∨ b = (0, 0) ∨ s < 0 ∨ 512 ≤ s) :
    Calls Try.prog 23 #[.pointer (some ⟨rb, 0, none⟩), .agg (bcells b), .int .i64 s, .string v] w fun e w' => e = .returned (.bool false) ∧ Fr (fun _ => False) w w' := by
  obtain ⟨p1, p2⟩ := p
  obtain ⟨b1, b2⟩ := b
  have hL : ∀ w, Calls Try.prog 21 #[.agg #[.int .i64 b1, .int .i64 b2], .agg #[.int .i64 p1, .int .i64 p2]] w fun e w' => e = .returned (.bool (less (b1, b2) (p1, p2))) ∧ Fr (fun _ => False) w w' := fun w => rLess_any w (b1, b2) (p1, p2)
  have hEq : ∀ w, (binOp .eql 23 (.agg #[.int .i64 b1, .int .i64 b2]) (.agg #[.int .i64 0, .int .i64 0])).run Try.prog w = .ok (.bool (b1 == 0 && b2 == 0)) w := fun w => run_eqB _ _ _ _ _
  have hcase : (less (b1, b2) (p1, p2) = true) ∨ (less (b1, b2) (p1, p2) = false ∧ (b1 == 0 && b2 == 0) = true) ∨ (less (b1, b2) (p1, p2) = false ∧ (b1 == 0 && b2 == 0) = false ∧ decide (s < 0) = true) ∨
      (less (b1, b2) (p1, p2) = false ∧ (b1 == 0 && b2 == 0) = false ∧ decide (s < 0) = false ∧ decide (512 ≤ s) = true) := by
    cases h1 : less (b1, b2) (p1, p2) with
    | true => exact .inl rfl
    | false =>
      right
      cases h2 : (b1 == 0 && b2 == 0) with
      | true => exact .inl ⟨rfl, rfl⟩
      | false =>
        right
        by_cases h3 : s < 0
        · exact .inl ⟨rfl, rfl, by simpa using h3⟩
        · refine .inr ⟨rfl, rfl, by simpa using h3, ?_⟩
          rcases hno with h | h | h | h
          · rw [h1] at h; cases h
          · simp at h; rw [h.1, h.2] at h2; simp at h2
          · exact absurd h h3
          · simpa using h
  generalize less (b1, b2) (p1, p2) = q at *
  generalize (b1 == 0 && b2 == 0) = z at *
  have hab := lt_of_block h.blk
  obtain ⟨w0, hw0⟩ : ∃ w0, w.alloc (.cells #[.int .i64 b1, .int .i64 b2] 23) = w0 := ⟨_, rfl⟩
  have hF : Fr (fun _ => False) w w0 := by rw [← hw0]; exact Fr.alloc _ _ _
  have hxb : w0.heap[w.heap.size]? = some (.cells #[.int .i64 b1, .int .i64 b2] 23 (0, 0)) := by rw [← hw0]; exact block_alloc _ _
  have hA0 := h.fr0 hF
  have hC : ∀ wx, Fr (fun _ => False) w0 wx → wx.cell? ⟨rb, 0, none⟩ = some (.int .i64 p1) ∧ wx.cell? ⟨rb, 1, none⟩ = some (.int .i64 p2) ∧ wx.cell? ⟨w.heap.size, 0, none⟩ = some (.int .i64 b1) ∧ wx.cell? ⟨w.heap.size, 1, none⟩ = some (.int .i64 b2) := fun wx hf => by
    have e1 := (hA0.fr0 hf).blk
    have e2 := (hf.block _ (lt_of_block hxb) id).trans hxb
    exact ⟨by rw [cell_of_block e1]; rfl, by rw [cell_of_block e1]; rfl, by rw [cell_of_block e2]; rfl, by rw [cell_of_block e2]; rfl⟩
  obtain ⟨k0, k1, k2, k3⟩ := hC w0 (Fr.refl _ _)
  have HC := hide hC
  have HW0 := hide hw0
  have HF := hide hF
  have HL := hide hL
  clear hC hw0 hF hL hA0 h hno hxb
  show Calls _ _ #[.pointer (some ⟨rb, 0, none⟩), .agg #[.int .i64 b1, .int .i64 b2], .int .i64 s, .string v] w _
  rcases hcase with rfl | ⟨rfl, rfl⟩ | ⟨rfl, rfl, hs⟩ | ⟨rfl, rfl, hs0, hs⟩
  · obtain ⟨d0, d1, d2, d3⟩ := HC.out w0.drew ((Fr.refl (fun _ => False) w0).drew)
    go_enter Try.func23, Try.ntmps23
    go_wp2_with fail
    rw [HW0.out]
    first
      | go_region_with ((go_at_call 21; refine (HL.out _).mono ?_; rintro e w1 ⟨rfl, hf1⟩; have hf2 := (Fr.refl (fun _ => False) w0).drew.trans hf1 (fun _ _ h => h); obtain ⟨g0, g1, g2, g3⟩ := HC.out w1 hf2; have HF2 := hide hf2; clear hf1 hf2))
      | fail
    all_goals
      go_wp2_with fail
      go_ret
      exact ⟨rfl, HF.out.trans HF2.out (fun _ _ h => h)⟩
  all_goals
    go_enter Try.func23, Try.ntmps23
    go_wp2_with fail
    rw [HW0.out]
    first
      | go_region_held (fun w' => w'.cell? ⟨rb, 0, none⟩ = some (.int .i64 p1) ∧ w'.cell? ⟨rb, 1, none⟩ = some (.int .i64 p2) ∧ w'.cell? ⟨w.heap.size, 0, none⟩ = some (.int .i64 b1) ∧ w'.cell? ⟨w.heap.size, 1, none⟩ = some (.int .i64 b2))
          (go_keep)
          ((go_at_call 21; refine (HL.out _).mono ?_; rintro e w1 ⟨rfl, hf1⟩; have hf2 := (Fr.refl (fun _ => False) w0).drew.trans hf1 (fun _ _ h => h); obtain ⟨g0, g1, g2, g3⟩ := HC.out w1 hf2; have HF2 := hide hf2; clear hf1 hf2))
      | fail
    all_goals
      go_wp2_with fail
      go_ret
      exact ⟨rfl, HF.out.trans HF2.out (fun _ _ h => h)⟩
end Go.Proofs.Ythekgecaeblbbaa
