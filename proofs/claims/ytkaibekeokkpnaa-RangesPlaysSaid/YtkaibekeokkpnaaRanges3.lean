/- Move of ranges. -/
import Derived.Test.YtkaibekeokkpnaaRanges2
namespace Go.Proofs.Ytkaibekeokkpnaa
open Go.RowKit Go.Maps Go.Cv Go.Shelf
set_option linter.unusedVariables false

theorem reads_part (w : World) (x : P3) (t : TypeId) : Reads (w.alloc (.cells #[.int .i64 x.1, .int .i64 x.2.1, .int .i64 x.2.2] t)) (.slice (some ⟨w.heap.size, 0, none⟩) 1 1) 1 3 (pc x) :=
  ⟨rfl, _, _, rfl, (by intro h; cases h), Nat.le_refl _, fun i u hu => ⟨_, _, rfl, by rw [cell_of_block (block_alloc w _)]; simpa [pc] using hu⟩⟩
theorem row_set_hi (i : List P3) (p : P3) (h : Int) : (rowP (i ++ [p])).set (i.length * 3 + 1) (.int .i64 h) = rowP (i ++ [(p.1, h, p.2.2)]) := by
  rw [row_part, row_part, List.set_append_right _ _ (by rw [rowP_len]; omega), rowP_len, show i.length * 3 + 1 - i.length * 3 = 1 by omega]
  rfl

/-- What Move refuses. -/
def moveE (ep : Int) (l : List P3) (lo hi g : Int) : Int :=
  if rightM ep l = false ∨ lo < 0 ∨ hi ≤ lo ∨ 256 < hi ∨ g < 0 ∨ 3 ≤ g then 1 else if ep = 1073741824 then 23 else 0

set_option maxRecDepth 100000 in
set_option maxHeartbeats 1600000 in
theorem move_no (w : World) (ep : Int) (v : Value) (l : List P3) (hh : Reads w v l.length 3 (rowP l)) (hl : l.length ≤ maxLen) (lo hi g : Int) (hne : moveE ep l lo hi g ≠ 0) :
    Calls Try.prog 10 #[mv ep v, .int .i64 lo, .int .i64 hi, .int .i64 g] w fun e w' => e = .returned (.tuple #[mv 0 (.slice none 0 0), .int .i64 (moveE ep l lo hi g)]) ∧ Fr (fun _ => False) w w' := by
  obtain ⟨-, a, c, rfl, -, -, -⟩ := id hh
  obtain ⟨wa, hwa⟩ : ∃ wa, w.alloc (.cells #[.int .i64 ep, .slice a l.length c] 25) = wa := ⟨_, rfl⟩
  have hfa : Fr (fun _ => False) w wa := by rw [← hwa]; exact Fr.alloc _ _ _
  have hba : wa.heap[w.heap.size]? = some (.cells #[.int .i64 ep, .slice a l.length c] 25 (0, 0)) := by rw [← hwa]; exact block_alloc _ _
  obtain ⟨wb, hwb⟩ : ∃ wb, wa.alloc (.cells #[.int .i64 0, .slice none 0 0] 25) = wb := ⟨_, rfl⟩
  have hfb : Fr (fun _ => False) wa wb := by rw [← hwb]; exact Fr.alloc _ _ _
  obtain ⟨rb, hrb⟩ : ∃ rb, w.heap.size + 1 = rb := ⟨_, rfl⟩
  have hra : wa.heap.size = rb := by rw [← hrb, ← hwa]; simp
  have hbb : wb.heap[rb]? = some (.cells #[.int .i64 0, .slice none 0 0] 25 (0, 0)) := by rw [← hwb, ← hra]; exact block_alloc _ _
  obtain ⟨pb, hpb⟩ : ∃ pb, w.heap.size = pb := ⟨_, rfl⟩
  rw [hpb] at hba
  have hsa := lt_of_block hba
  have hab := (hfb.block pb hsa id).trans hba
  have hf0 := hfa.trans hfb (fun _ _ h => h)
  have hC : ∀ wx, Fr (fun _ => False) wb wx → wx.cell? ⟨pb, 0, none⟩ = some (.int .i64 ep) ∧ wx.cell? ⟨pb, 1, none⟩ = some (.slice a l.length c) ∧ wx.cell? ⟨rb, 0, none⟩ = some (.int .i64 0) ∧ wx.cell? ⟨rb, 1, none⟩ = some (.slice none 0 0) ∧ wx.frozen? ⟨rb, 0, none⟩ = false ∧ wx.frozen? ⟨rb, 1, none⟩ = false := fun wx hf => by
    have e1 := (hf.block pb (lt_of_block hab) id).trans hab
    have e2 := (hf.block rb (lt_of_block hbb) id).trans hbb
    exact ⟨by rw [cell_of_block e1]; rfl, by rw [cell_of_block e1]; rfl, by rw [cell_of_block e2]; rfl, by rw [cell_of_block e2]; rfl, free_of_block e2, free_of_block e2⟩
  have hri := right_any wb ep _ l (reads_old hh hf0 (fun _ _ => id)) hl
  obtain ⟨n, hn⟩ : ∃ n, l.length = n := ⟨_, rfl⟩
  rw [hn] at hri hC hwa ⊢
  have HRI := hide hri
  obtain ⟨c0, c1, c2, c3, c4, c5⟩ := hC wb (Fr.refl _ _)
  have HC := hide hC
  have HWA := hide hwa
  have HWB := hide hwb
  have HRB := hide hrb
  have HPB := hide hpb
  have HF := hide hf0
  have hcc : (rightM ep l = false ∧ moveE ep l lo hi g = 1) ∨ (rightM ep l = true ∧ lo < 0 ∧ moveE ep l lo hi g = 1) ∨ (rightM ep l = true ∧ ¬ lo < 0 ∧ hi ≤ lo ∧ moveE ep l lo hi g = 1) ∨ (rightM ep l = true ∧ ¬ lo < 0 ∧ ¬ hi ≤ lo ∧ 256 < hi ∧ moveE ep l lo hi g = 1) ∨ (rightM ep l = true ∧ ¬ lo < 0 ∧ ¬ hi ≤ lo ∧ ¬ 256 < hi ∧ g < 0 ∧ moveE ep l lo hi g = 1) ∨ (rightM ep l = true ∧ ¬ lo < 0 ∧ ¬ hi ≤ lo ∧ ¬ 256 < hi ∧ ¬ g < 0 ∧ 3 ≤ g ∧ moveE ep l lo hi g = 1) ∨ (rightM ep l = true ∧ ¬ lo < 0 ∧ ¬ hi ≤ lo ∧ ¬ 256 < hi ∧ ¬ g < 0 ∧ ¬ 3 ≤ g ∧ (ep == 1073741824) = true ∧ moveE ep l lo hi g = 23) := by
    unfold moveE at hne ⊢
    revert hne
    cases rightM ep l with
    | false => intro _; left; simp
    | true =>
      intro hne
      right
      by_cases h1 : lo < 0
      · left; exact ⟨rfl, h1, by rw [if_pos (.inr (.inl h1))]⟩
      · right
        by_cases h2 : hi ≤ lo
        · left; exact ⟨rfl, h1, h2, by rw [if_pos (.inr (.inr (.inl h2)))]⟩
        · right
          by_cases h3 : 256 < hi
          · left; exact ⟨rfl, h1, h2, h3, by rw [if_pos (.inr (.inr (.inr (.inl h3))))]⟩
          · right
            by_cases h4 : g < 0
            · left; exact ⟨rfl, h1, h2, h3, h4, by rw [if_pos (.inr (.inr (.inr (.inr (.inl h4)))))]⟩
            · right
              by_cases h5 : 3 ≤ g
              · left; exact ⟨rfl, h1, h2, h3, h4, h5, by rw [if_pos (.inr (.inr (.inr (.inr (.inr h5)))))]⟩
              · right
                have hno : ¬ (true = false ∨ lo < 0 ∨ hi ≤ lo ∨ 256 < hi ∨ g < 0 ∨ 3 ≤ g) := by simp [h1, h2, h3, h4, h5]
                rw [if_neg hno] at hne ⊢
                by_cases h6 : ep = 1073741824
                · exact ⟨rfl, h1, h2, h3, h4, h5, by simp [h6], by rw [if_pos h6]⟩
                · rw [if_neg h6] at hne; exact absurd rfl hne
  clear hri hC hwa hwb hrb hpb hf0 hfa hfb hba hbb hab hsa hra hh hne hn
  unfold mv at *
  rcases hcc with ⟨h0, hE⟩ | ⟨h0, h1, hE⟩ | ⟨h0, h1, h2, hE⟩ | ⟨h0, h1, h2, h3, hE⟩ | ⟨h0, h1, h2, h3, h4, hE⟩ | ⟨h0, h1, h2, h3, h4, h5, hE⟩ | ⟨h0, h1, h2, h3, h4, h5, h6, hE⟩
  all_goals
    rw [hE]
    rw [h0] at HRI
    clear hE h0
    go_enter Try.func10, Try.ntmps10
    go_upto_region 1 with fail
    rw [HWA.out, HRB.out, HPB.out, HWB.out]
    go_wp2_with fail
    refine HRI.out.mono ?_
    rintro e w1 ⟨rfl, hf1⟩
    obtain ⟨d0, d1, d2, d3, d4, d5⟩ := HC.out w1 hf1
    have HF1 := hide hf1
    clear hf1
    go_wp2_with fail
    refine bodyPost_ret (v := .tuple #[.agg #[.int .i64 0, .slice none 0 0], .int .i64 _]) (by simp [results, Try.results10, go_sem, d2, d3]) rfl ⟨rfl, ?_⟩
    have hsz := HPB.out
    exact ((HF.out.trans HF1.out (fun _ _ h => h)).mono (S' := fun j => j = rb) (fun _ _ h => h.elim)).trans ((Fr.setCell (S := fun j => j = rb) w1 ⟨rb, 0, none⟩ _ rfl).trans (Fr.setCell (S := fun j => j = rb) _ ⟨rb, 1, none⟩ _ rfl) (fun _ _ h => h)) (fun _ _ h => h) |>.fresh (fun j hj => by have := HRB.out; omega)
end Go.Proofs.Ytkaibekeokkpnaa
