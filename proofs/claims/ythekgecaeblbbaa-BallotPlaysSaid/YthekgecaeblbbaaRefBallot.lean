/- The document's acceptor: Less, Votes, Forget, Prepare. -/
import Derived.Test.YthekgecaeblbbaaBallotD
import Derived.Test.YthekgecaeblbbaaBallot3
import Derived.Deep.CutBlock
namespace Go.Proofs.Ythekgecaeblbbaa
open Go.RowKit Go.Maps Go.Cv Go.Shelf
set_option linter.unusedVariables false

set_option maxRecDepth 100000 in
theorem rLess_any (w : World) (a b : Bt) :
    Calls Try.prog 21 #[.agg (bcells a), .agg (bcells b)] w fun e w' => e = .returned (.bool (less a b)) ∧ Fr (fun _ => False) w w' := by
  obtain ⟨a1, a2⟩ := a
  obtain ⟨b1, b2⟩ := b
  show Calls _ _ #[.agg #[.int .i64 a1, .int .i64 a2], .agg #[.int .i64 b1, .int .i64 b2]] w _
  obtain ⟨w0, hw0⟩ : ∃ w0, (w.alloc (.cells #[.int .i64 a1, .int .i64 a2] 23)).alloc (.cells #[.int .i64 b1, .int .i64 b2] 23) = w0 := ⟨_, rfl⟩
  have hbA : w0.heap[w.heap.size]? = some (.cells #[.int .i64 a1, .int .i64 a2] 23 (0, 0)) := by rw [← hw0]; exact (Below.heap_alloc _ _ _ (by simp)).trans (block_alloc w _)
  have hbB : w0.heap[w.heap.size + 1]? = some (.cells #[.int .i64 b1, .int .i64 b2] 23 (0, 0)) := by rw [← hw0]; simpa using block_alloc (w.alloc (.cells #[.int .i64 a1, .int .i64 a2] 23)) (.cells #[.int .i64 b1, .int .i64 b2] 23)
  have hF : Fr (fun _ => False) w w0 := by rw [← hw0]; exact (Fr.alloc _ _ _).trans (Fr.alloc (fun _ => False) _ _) (fun _ _ h => h)
  have k0 : w0.cell? ⟨w.heap.size, 0, none⟩ = some (.int .i64 a1) := by rw [cell_of_block hbA]; rfl
  have k1 : w0.cell? ⟨w.heap.size, 1, none⟩ = some (.int .i64 a2) := by rw [cell_of_block hbA]; rfl
  have k2 : w0.cell? ⟨w.heap.size + 1, 0, none⟩ = some (.int .i64 b1) := by rw [cell_of_block hbB]; rfl
  have k3 : w0.cell? ⟨w.heap.size + 1, 1, none⟩ = some (.int .i64 b2) := by rw [cell_of_block hbB]; rfl
  have HW := hide hw0
  have HF := hide hF
  clear hw0 hF hbA hbB
  have hc : (a1 < b1 ∧ less (a1, a2) (b1, b2) = true) ∨ (¬ a1 < b1 ∧ (a1 == b1) = true ∧ a2 < b2 ∧ less (a1, a2) (b1, b2) = true) ∨ (¬ a1 < b1 ∧ (a1 == b1) = true ∧ ¬ a2 < b2 ∧ less (a1, a2) (b1, b2) = false) ∨ (¬ a1 < b1 ∧ (a1 == b1) = false ∧ less (a1, a2) (b1, b2) = false) := by
    unfold less
    by_cases h1 : a1 < b1
    · exact .inl ⟨h1, by simp [h1]⟩
    · by_cases h2 : a1 = b1
      · by_cases h3 : a2 < b2
        · exact .inr (.inl ⟨h1, by simp [h2], h3, by simp [h2, h3]⟩)
        · exact .inr (.inr (.inl ⟨h1, by simp [h2], h3, by simp [h2, h3]⟩))
      · exact .inr (.inr (.inr ⟨h1, by simp [h2], by simp [h1, h2]⟩))
  rcases hc with ⟨h1, hl⟩ | ⟨h1, h2, h3, hl⟩ | ⟨h1, h2, h3, hl⟩ | ⟨h1, h2, hl⟩
  all_goals
    rw [hl]
    clear hl
    go_enter Try.func21, Try.ntmps21
    go_upto_region 1 with fail
    rw [HW.out]
    go_wp2_with fail
    go_ret
    exact ⟨rfl, HF.out⟩

/-- Block rb is the document's acceptor. -/
structure Ra (w : World) (rb : Nat) (u : Value) (p : Bt) (l : List Vt) : Prop where
  blk : w.heap[rb]? = some (.cells #[.int .i64 p.1, .int .i64 p.2, u] 54 (0, 0))
  own : w.ownsRow (rb + 1) 40 4 u l.length (rowV l)
theorem Ra.fr {w w' : World} {rb : Nat} {u : Value} {p : Bt} {l : List Vt} (h : Ra w rb u p l) {S : Nat → Prop} (g : Fr S w w') (h1 : ¬ S rb) (h2 : ∀ k, u.ownBlock = some k → ¬ S k) : Ra w' rb u p l :=
  ⟨(g.block _ (lt_of_block h.blk) h1).trans h.blk, ownsRow_fr h.own g h2⟩
theorem Ra.fr0 {w w' : World} {rb : Nat} {u : Value} {p : Bt} {l : List Vt} (h : Ra w rb u p l) (g : Fr (fun _ => False) w w') : Ra w' rb u p l := h.fr g id (fun _ _ => id)
theorem Ra.c2 {w : World} {rb : Nat} {u : Value} {p : Bt} {l : List Vt} (h : Ra w rb u p l) : w.cell? ⟨rb, 2, none⟩ = some u := by rw [cell_of_block h.blk]; rfl
/-- Turned: its list is its old one or a new one. -/
def RaT (w w' : World) (rb : Nat) (u : Value) (p : Bt) (l : List Vt) : Prop :=
  ∃ u', Ra w' rb u' p l ∧ (u' = u ∨ ∀ k, u'.ownBlock = some k → w.heap.size ≤ k) ∧ Fr (fun k => k = rb) w w'

set_option maxRecDepth 100000 in
set_option maxHeartbeats 1600000 in
theorem rVotes_any (w : World) (rb : Nat) (u : Value) (p : Bt) (l : List Vt) (h : Ra w rb u p l) (hl : l.length ≤ 1000000) (s : Int) :
    Calls Try.prog 25 #[.pointer (some ⟨rb, 0, none⟩), .int .i64 s] w fun e w' => ∃ v', e = .returned v' ∧ w'.ownsRow w.heap.size 40 4 v' (fromV l s).length (rowV (fromV l s)) ∧ Fr (fun _ => False) w w' := by
  obtain ⟨i0, hi0, hz0, hz1, hz2⟩ := info_parts infoVote
  obtain ⟨n, hn⟩ : ∃ n, l.length = n := ⟨_, rfl⟩
  have hrd := Reads.of_own h.own
  rw [hn] at hrd hl
  obtain ⟨-, a, cp, rfl, -, -, -⟩ := id hrd
  have hn9 : (n : Int) ≤ 1000000 := by omega
  have H := hide hrd
  have HN := hide hn
  have HB := hide h.blk
  clear h hrd hn
  go_enter Try.func25, Try.ntmps25
  go_wp2_with fail
  go_loopw [5, 6] (fun v i wr => ∃ (k m : Nat), i = .int .i64 k ∧ k ≤ n ∧ m ≤ k ∧ (fromV (l.take k) s).length = m ∧ wr.ownsRow w.heap.size 40 4 v m (rowV (fromV (l.take k) s)) ∧ Fr (fun _ => False) w wr) (fun _ i _ => n - (intOf i).toNat)
  case atStart => exact ⟨0, 0, rfl, Nat.zero_le _, Nat.le_refl _, rfl, World.ownsRow_nil _ _ _ _, Fr.refl _ _⟩
  case round =>
    obtain ⟨k, m, rfl, hk, hmk, hm, hown, hf⟩ := hrel
    obtain ⟨a9, c9, rfl⟩ := own_shape hown
    have hblk := (hf.block rb (lt_of_block HB.out) id).trans HB.out
    have c1 : wr.cell? ⟨rb, 2, none⟩ = some (.slice a n cp) := by rw [cell_of_block hblk]; rfl
    have HO := hide hown
    have HF := hide hf
    have HM := hide hm
    clear hown hf hblk hm
    by_cases hlt : k < n
    · obtain ⟨x, hx⟩ : ∃ x, l[k]? = some x := ⟨_, List.getElem?_eq_getElem (by have := HN.out; omega)⟩
      obtain ⟨b0, o0, rfl, hlt0, hcells⟩ := row_cells vcells_len H.out hx (by decide)
      obtain ⟨x1, ⟨x2, x3⟩, x4⟩ := x
      have hbl := HF.out.block _ hlt0 id
      have e0 := hcells 0 (.int .i64 x1) rfl wr hbl
      rw [Nat.add_zero] at e0
      have e1 := hcells 1 (.int .i64 x2) rfl wr hbl
      have e2 := hcells 2 (.int .i64 x3) rfl wr hbl
      have e3 := hcells 3 (.string x4) rfl wr hbl
      have ik0 : (0 : Int) ≤ (k : Int) := by omega
      have ik1 : (k : Int) < (n : Int) := by omega
      have hnx : fromV (l.take (k + 1)) s = fromV (l.take k) s ++ (if s ≤ x1 then [(x1, (x2, x3), x4)] else []) := by
        rw [List.take_add_one, hx, fromV, Option.toList_some, List.filter_append]
        congr 1
        by_cases e : s ≤ x1 <;> simp [e]
      have HNX := hide hnx
      clear hcells hx hnx hbl
      by_cases hs : s ≤ x1
      · have HOa := hide (HO.out.alloc (.cells #[.int .i64 x1, .int .i64 x2, .int .i64 x3, .string x4] 40))
        have HRd : Hid (Reads (wr.alloc (.cells #[.int .i64 x1, .int .i64 x2, .int .i64 x3, .string x4] 40)) (.slice (some ⟨wr.heap.size, 0, none⟩) 1 1) 1 4 (vcells (x1, (x2, x3), x4))) :=
          ⟨rfl, _, _, rfl, (by intro h; cases h), Nat.le_refl _, fun i u hu => ⟨_, _, rfl, by rw [cell_of_block (block_alloc wr _)]; simpa [vcells] using hu⟩⟩
        have HONE := hide (vone (x1, (x2, x3), x4))
        have hM : m + 1 ≤ maxLen := by unfold maxLen; omega
        have HM2 : Hid ((m + 1) * 40 ≤ 140737488355328) := hide (by omega)
        have HM3 : Hid (w.heap.size ≤ (wr.alloc (.cells #[.int .i64 x1, .int .i64 x2, .int .i64 x3, .string x4] 40)).heap.size) := hide (by have := HF.out.size; simp; omega)
        go_wp2_with (at_builtin; refine wpList_append_reads _ rfl _ _ _ rfl w.heap.size 40 i0 _ 4 40 Try.underlying34 hi0 hz0 hz1 hz2 voteZero_size (by decide) (.slice a9 m c9) m (rowV (fromV (l.take k) s)) rfl HOa.out _ 1 (vcells (x1, (x2, x3), x4)) rfl HRd.out HONE.out hM HM2.out HM3.out ?_; intro v2 w4 hown2 hgrow hat; obtain ⟨a2, k2, rfl⟩ := own_shape hown2; have HO2 := hide hown2; have HG2 := hide hgrow; clear hown2 hgrow hat)
        go_roundw
        case rel =>
          have hgr : Fr (fun j => w.heap.size ≤ j) wr w4 := ((Fr.alloc (fun _ => False) wr _).mono (fun _ _ h => h.elim)).trans (Fr.grown (S := fun j => w.heap.size ≤ j) HG2.out (fun j hj => (HO.out.lt j hj).1)) (fun _ _ h => h)
          refine ⟨k + 1, m + 1, by go_num, by omega, by omega, ?_, ?_, ((HF.out.mono (S' := fun j => w.heap.size ≤ j) (fun _ _ h => h.elim)).trans hgr (fun _ _ h => h)).fresh (fun _ h => h)⟩
          · rw [HNX.out, if_pos hs, List.length_append, HM.out]; rfl
          · rw [HNX.out, if_pos hs]
            have e : rowV (fromV (l.take k) s ++ [(x1, (x2, x3), x4)]) = rowV (fromV (l.take k) s) ++ vcells (x1, (x2, x3), x4) := by simp [rowV]
            rw [e]; exact HO2.out
        case measure => simp [intOf]; omega
      · have hs2 : x1 < s := by omega
        go_wp2_with fail
        go_roundw
        case rel => exact ⟨k + 1, m, by go_num, by omega, by omega, by rw [HNX.out, if_neg hs, List.append_nil]; exact HM.out, by rw [HNX.out, if_neg hs, List.append_nil]; exact HO.out, HF.out⟩
        case measure => simp [intOf]; omega
    · have hkn : k = n := by omega
      subst hkn
      have ik1 : ¬ (k : Int) < (k : Int) := by omega
      have ho := HO.out
      have hm' := HM.out
      rw [List.take_of_length_le (by have := HN.out; omega)] at ho hm'
      have HO3 := hide ho
      have HM3 := hide hm'
      clear ho hm'
      go_wp2_with fail
      go_ret
      exact ⟨_, rfl, by rw [HM3.out]; exact HO3.out, HF.out⟩

set_option maxRecDepth 100000 in
theorem rForget_any (w : World) (rb : Nat) (u : Value) (p : Bt) (l : List Vt) (h : Ra w rb u p l) (hl : l.length ≤ 1000000) (s : Int) :
    Calls Try.prog 24 #[.pointer (some ⟨rb, 0, none⟩), .int .i64 s] w fun e w' => e = .returned (.tuple #[]) ∧ RaT w w' rb u p (fromV l s) := by
  have hrl := lt_of_block h.blk
  have hV : ∀ y, Fr (fun _ => False) w y → Calls Try.prog 25 #[.pointer (some ⟨rb, 0, none⟩), .int .i64 s] y fun e w' => ∃ v', e = .returned v' ∧ w'.ownsRow y.heap.size 40 4 v' (fromV l s).length (rowV (fromV l s)) ∧ Fr (fun _ => False) y w' := fun y hf => rVotes_any y rb u p l (h.fr0 hf) hl s
  have HV := hide hV
  have HH := hide h
  clear hV h
  go_enter Try.func24, Try.ntmps24
  first
    | (go_wp2_with fail; refine (HV.out _ (Fr.refl _ _)).mono ?_; rintro e w1 ⟨v, rfl, ho, hf⟩)
    | fail
  have hb1 := (hf.block rb hrl id).trans HH.out.blk
  have c2 : w1.cell? ⟨rb, 2, none⟩ = some u := by rw [cell_of_block hb1]; rfl
  have f2 : w1.frozen? ⟨rb, 2, none⟩ = false := free_of_block hb1
  obtain ⟨a, c, rfl⟩ := own_shape ho
  have HO := hide ho
  have HF := hide hf
  have HB := hide hb1
  clear ho hf hb1
  go_wp2_with fail
  go_end0
  refine ⟨rfl, _, ⟨block_setCell HB.out _, ?_⟩, .inr (fun k hk => (HO.out.lt k hk).1), HF.out.mono (S' := fun k => k = rb) (fun _ _ h => h.elim) |>.trans (Fr.setCell (S := fun k => k = rb) _ _ _ rfl) (fun _ _ h => h)⟩
  exact ownsRow_setCell_below (own_base HO.out (by omega)) (Nat.lt_succ_self rb) _
end Go.Proofs.Ythekgecaeblbbaa
