/- New, Move of ranges. -/
import Derived.Test.YtkaibekeokkpnaaRanges
namespace Go.Proofs.Ytkaibekeokkpnaa
open Go.RowKit Go.Maps Go.Cv Go.Shelf
set_option linter.unusedVariables false

theorem infoPart : (Try.prog.info? 41).map (fun i => (i.zero, i.size, i.bytes)) = some (some (.agg #[.int .i64 0, .int .i64 0, .int .i64 0]), 3, 24) := by kernel_rfl
theorem part_size : (Value.agg #[.int .i64 0, .int .i64 0, .int .i64 0]).cells.size = 3 := rfl
theorem one_part (x : P3) : ∀ u ∈ pc x, u.oneCell' = true := by simp [pc, Value.oneCell']
theorem row_part (l : List P3) (x : P3) : rowP (l ++ [x]) = rowP l ++ pc x := by simp [rowP]

/-- Block mb is a Map: its epoch, its parts, which are the call's own. -/
structure Mb (w : World) (mb : Nat) (ep : Int) (v : Value) (l : List P3) : Prop where
  blk : w.heap[mb]? = some (.cells #[.int .i64 ep, v] 25 (0, 0))
  own : w.ownsRow (mb + 1) 41 3 v l.length (rowP l)
theorem Mb.fr0 {w w' : World} {mb : Nat} {ep : Int} {v : Value} {l : List P3} (h : Mb w mb ep v l) (g : Fr (fun _ => False) w w') : Mb w' mb ep v l :=
  ⟨(g.block _ (lt_of_block h.blk) id).trans h.blk, ownsRow_fr h.own g (fun _ _ => id)⟩

theorem new_no (w : World) (n : Int) (h : n < 1 ∨ 3 < n) :
    Calls Try.prog 8 #[.int .i64 n] w fun e w' => e = .returned (.tuple #[mv 0 (.slice none 0 0), .int .i64 1]) ∧ Fr (fun _ => False) w w' := by
  have hc : n < 1 ∨ (¬ n < 1 ∧ 3 < n) := by omega
  clear h
  unfold mv
  rcases hc with h | ⟨h, h1⟩
  all_goals
    go_enter Try.func8, Try.ntmps8
    go_wp2_with fail
    exact bodyPost_ret (v := .tuple #[.agg #[.int .i64 0, .slice none 0 0], .int .i64 1]) (by simp [results, Try.results8, go_sem]) rfl ⟨rfl, Fr.alloc _ _ _⟩

theorem new_q (n k : Nat) (h : n ≤ 3) (hk : k < n) : IntKind.i64.wrap (256 * (k : Int)) = 256 * (k : Int) ∧ IntKind.i64.wrap ((256 * (k : Int)).tdiv n) = (256 * (k : Int)).tdiv n ∧ IntKind.i64.wrap ((k : Int) + 1) = (k : Int) + 1 ∧ IntKind.i64.wrap (256 * ((k : Int) + 1)) = 256 * ((k : Int) + 1) ∧ IntKind.i64.wrap ((256 * ((k : Int) + 1)).tdiv n) = (256 * ((k : Int) + 1)).tdiv n := by
  have hall : ∀ n ∈ [0, 1, 2, 3], ∀ k ∈ [0, 1, 2], IntKind.i64.wrap (256 * ((k : Nat) : Int)) = 256 * (k : Int) ∧ IntKind.i64.wrap ((256 * (k : Int)).tdiv ((n : Nat) : Int)) = (256 * (k : Int)).tdiv n ∧ IntKind.i64.wrap ((k : Int) + 1) = (k : Int) + 1 ∧ IntKind.i64.wrap (256 * ((k : Int) + 1)) = 256 * ((k : Int) + 1) ∧ IntKind.i64.wrap ((256 * ((k : Int) + 1)).tdiv n) = (256 * ((k : Int) + 1)).tdiv n := by decide
  exact hall n (by simp; omega) k (by simp; omega)

set_option maxRecDepth 100000 in
set_option maxHeartbeats 1600000 in
theorem new_new (w : World) (n : Nat) (h : 1 ≤ n ∧ n ≤ 3) :
    Calls Try.prog 8 #[.int .i64 n] w fun e w' => ∃ v, e = .returned (.tuple #[mv 1 v, .int .i64 0]) ∧ Reads w' v (newP n n).length 3 (rowP (newP n n)) ∧ (∀ k, v.ownBlock = some k → w.heap.size ≤ k) ∧ Fr (fun _ => False) w w' := by
  obtain ⟨i0, hi0, hz0, hz1, hz2⟩ := info_parts infoPart
  obtain ⟨h1, h2⟩ := h
  have h3 : ¬ (n : Int) < 1 := by omega
  have h4 : ¬ 3 < (n : Int) := by omega
  unfold mv
  go_enter Try.func8, Try.ntmps8
  go_upto_region 4 with fail
  obtain ⟨wm, hwm⟩ : ∃ wm, (w.alloc (.cells #[.int .i64 0, .slice none 0 0] 25)).alloc (.cells #[.int .i64 1, .slice none 0 0] 25) = wm := ⟨_, rfl⟩
  obtain ⟨mb, hmb⟩ : ∃ mb, w.heap.size + 1 = mb := ⟨_, rfl⟩
  have hM : Mb wm mb 1 (.slice none 0 0) (newP n 0) := by
    refine ⟨?_, World.ownsRow_nil _ _ _ _⟩
    rw [← hwm, ← hmb]
    have := block_alloc (w.alloc (.cells #[.int .i64 0, .slice none 0 0] 25)) (.cells #[.int .i64 1, .slice none 0 0] 25)
    simpa using this
  have hR : wm.heap[w.heap.size]? = some (.cells #[.int .i64 0, .slice none 0 0] 25 (0, 0)) := by
    rw [← hwm, Below.heap_alloc _ _ _ (by simp)]; exact block_alloc _ _
  have hF : Fr (fun _ => False) w wm := by
    rw [← hwm]; exact (Fr.alloc (fun _ => False) w _).trans (Fr.alloc (fun _ => False) _ _) (fun _ _ h => h)
  rw [hwm, hmb]
  obtain ⟨rb, hrb⟩ : ∃ rb, w.heap.size = rb := ⟨_, rfl⟩
  rw [hrb] at hR hmb ⊢
  have hrm : rb < mb := by omega
  have HM := hide hM
  have HR := hide hR
  have HF := hide hF
  have HRB := hide hrb
  clear hM hR hF hwm hrb hmb
  go_wp2_with fail
  go_loopw [15] (fun i wr => ∃ (k : Nat) (v : Value), i = .int .i64 k ∧ k ≤ n ∧ Mb wr mb 1 v (newP n k) ∧ wr.heap[rb]? = some (.cells #[.int .i64 0, .slice none 0 0] 25 (0, 0)) ∧ Fr (fun _ => False) w wr)
    (fun i _ => n - (intOf i).toNat)
  case atStart => exact ⟨0, _, rfl, Nat.zero_le _, HM.out, HR.out, HF.out⟩
  case round =>
    obtain ⟨k, v, rfl, hk, hm, hr, hf⟩ := hrel
    have hlen : (newP n k).length = k := newP_len n k
    have hown := hm.own
    rw [hlen] at hown
    obtain ⟨a, c, rfl⟩ := own_shape hown
    have HMk := hide hm
    have HRk := hide hr
    have HFk := hide hf
    have HO := hide hown
    have e1 : wr.cell? ⟨mb, 1, none⟩ = some (.slice a k c) := by rw [cell_of_block hm.blk]; rfl
    have e0 : wr.cell? ⟨mb, 0, none⟩ = some (.int .i64 1) := by rw [cell_of_block hm.blk]; rfl
    have e2 : wr.frozen? ⟨mb, 1, none⟩ = false := free_of_block hm.blk
    have hsm := lt_of_block hm.blk
    clear hm hr hf hown hlen
    by_cases hlt : k < n
    · have ik1 : (k : Int) < (n : Int) := by omega
      have in0 : ¬ n = 0 := by omega
      obtain ⟨q1, q2, k1, p1, p2, hk1, r1, r2, r3, r4, r5, hnew⟩ : ∃ q1 q2 k1 p1 p2 : Int, k1 = (k : Int) + 1 ∧ IntKind.i64.wrap (256 * (k : Int)) = p1 ∧ IntKind.i64.wrap (p1.tdiv n) = q1 ∧ IntKind.i64.wrap ((k : Int) + 1) = k1 ∧ IntKind.i64.wrap (256 * k1) = p2 ∧ IntKind.i64.wrap (p2.tdiv n) = q2 ∧ newP n (k + 1) = newP n k ++ [(q1, q2, (k : Int))] := by
        obtain ⟨w1, w2, w3, w4, w5⟩ := new_q n k h2 hlt
        exact ⟨_, _, _, _, _, rfl, w1, w2, w3, w4, w5, by rw [newP]⟩
      have HNEW := hide hnew
      have HK1 := hide hk1
      have hbl : ∀ W, (wr.drew.alloc (.cells #[.int .i64 q1, .int .i64 q2, .int .i64 k] 41)).grownBy W (Value.slice a k c).ownBlock → W.heap[mb]? = some (.cells #[.int .i64 1, .slice a k c] 25 (0, 0)) ∧ W.heap[rb]? = some (.cells #[.int .i64 0, .slice none 0 0] 25 (0, 0)) := fun W hg =>
        ⟨(hg.block mb (by simp; omega) (fun e => by have := (HO.out.lt mb e.symm).1; omega)).trans ((Below.heap_alloc _ _ _ hsm).trans HMk.out.blk),
         (hg.block rb (by simp; omega) (fun e => by have := (HO.out.lt rb e.symm).1; omega)).trans ((Below.heap_alloc _ _ _ (by show rb < wr.heap.size; omega)).trans HRk.out)⟩
      have HBL := hide hbl
      clear hnew hbl hk1
      go_wp2_with fail
      go_region_law
        ((refine step_append_lies _ (by rfl) _ _ _ (by rfl) (mb + 1) 41 i0 _ 3 24 Try.underlying23 hi0 hz0 hz1 hz2 part_size (by omega) (.slice a k c) k _ (by rfl) ((HO.out.alloc _).drew)
                ⟨wr.heap.size, 0, none⟩ 1 1 (pc (q1, q2, (k : Int))) (by rfl) (by rfl) (World.news_of_block (cs := #[.int .i64 q1, .int .i64 q2, .int .i64 k]) (t := 41) (fr := (0, 0)) (heap_alloc_new wr _)) (one_part _)
                (by omega) (by unfold maxLen; omega) (by omega) (by simp; omega) (wr.heap.size + 1) (by simp) ?_; intro gg cap2 W2 hown2 hgrow hat hlt2
          have hc2 := cell_of_block (j := 1) (HBL.out _ hgrow).1
          have hf2 := free_of_block (j := 1) (HBL.out _ hgrow).1))
      all_goals
        go_wp2_with fail
        go_roundw
        case rel =>
          have hal : Fr (fun _ => False) w (wr.drew.alloc (.cells #[.int .i64 q1, .int .i64 q2, .int .i64 k] 41)) := (HFk.out.drew).trans (Fr.alloc (fun _ => False) _ _) (fun _ _ h => h)
          have hgr : Fr (fun k' => (Value.slice a k c).ownBlock = some k') (wr.drew.alloc (.cells #[.int .i64 q1, .int .i64 q2, .int .i64 k] 41)) W2 := Fr.grown hgrow (fun k hk => hk)
          have hst : Fr (fun k => k = mb) W2 (W2.setCell ⟨mb, 1, none⟩ (.slice (some ⟨gg, 0, none⟩) (k + 1) cap2)) := Fr.setCell _ _ _ rfl
          have hap : ∀ k', (Value.slice a k c).ownBlock = some k' → mb + 1 ≤ k' := fun k' hk => (HO.out.lt k' hk).1
          have hwm := HRB.out
          have hwr := HFk.out.size
          refine ⟨k + 1, .slice (some ⟨gg, 0, none⟩) (k + 1) cap2, by rw [HK1.out]; rfl, by omega, ⟨block_setCell (HBL.out _ hgrow).1 _, ?_⟩, ?_, ?_⟩
          · rw [newP_len, HNEW.out, row_part]
            exact ownsRow_setCell_below hown2 (by simp) _
          · rw [hst.block rb (by have := hgr.size; simp at this; omega) (by omega)]; exact (HBL.out _ hgrow).2
          · refine ((hal.mono (S' := fun k => mb ≤ k) (fun _ _ h => h.elim)).trans hgr (fun k' _ hk => by have := hap k' hk; omega)).trans hst (fun k' _ hk => by omega) |>.fresh ?_
            intro k' hk'; omega
        case measure => have := HK1.out; simp [intOf]; omega
    · have hkn : k = n := by omega
      subst hkn
      have ik1 : ¬ (k : Int) < (k : Int) := by omega
      have hsr := lt_of_block HRk.out
      have y0 : wr.cell? ⟨rb, 0, none⟩ = some (.int .i64 0) := by rw [cell_of_block HRk.out]; rfl
      have y1 : wr.cell? ⟨rb, 1, none⟩ = some (.slice none 0 0) := by rw [cell_of_block HRk.out]; rfl
      have y2 : wr.frozen? ⟨rb, 0, none⟩ = false := free_of_block HRk.out
      have y3 : wr.frozen? ⟨rb, 1, none⟩ = false := free_of_block HRk.out
      go_wp2_with fail
      have hst : Fr (fun j => j = rb) wr ((wr.setCell ⟨rb, 0, none⟩ (.int .i64 1)).setCell ⟨rb, 1, none⟩ (.slice a k c)) := (Fr.setCell (S := fun j => j = rb) wr ⟨rb, 0, none⟩ _ rfl).trans (Fr.setCell (S := fun j => j = rb) _ _ _ rfl) (fun _ _ h => h)
      refine bodyPost_ret (v := .tuple #[.agg #[.int .i64 1, .slice a k c], .int .i64 0]) (by simp [results, Try.results8, go_sem, y0, y1]) rfl ⟨_, rfl, ?_, ?_, ?_⟩
      · refine (Reads.of_own HMk.out.own).fr hst (fun a' n' c' e => ?_)
        have := (HMk.out.own.lt a'.block (by rw [e]; rfl)).1
        show ¬ a'.block = rb
        omega
      · intro k' hk'
        have := (HMk.out.own.lt k' hk').1
        have := HRB.out
        omega
      · exact ((HFk.out.mono (S' := fun j => j = rb) (fun _ _ h => h.elim)).trans hst (fun _ _ h => h) |>.fresh (fun j hj => by have := HRB.out; omega))
theorem new_any (w : World) (n : Nat) (h : 1 ≤ n ∧ n ≤ 3) :
    Calls Try.prog 8 #[.int .i64 n] w fun e w' => ∃ v, e = .returned (.tuple #[mv 1 v, .int .i64 0]) ∧ Reads w' v (newP n n).length 3 (rowP (newP n n)) ∧ Fr (fun _ => False) w w' := by
  refine (new_new w n h).mono ?_
  rintro e w' ⟨v, h1, h2, -, h3⟩
  exact ⟨v, h1, h2, h3⟩
end Go.Proofs.Ytkaibekeokkpnaa
