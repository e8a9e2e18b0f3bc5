/- conclavelaw1.known: some of chapter 1's runs. -/
import Derived.Test.YtcklmdgmjgkogaaWireR
namespace Go.Proofs.Ytcklmdgmjgkogaa
open Go.RowKit Go.Maps Go.Cv
set_option linter.unusedVariables false

theorem Wrote.next {a b c : World} {p : Nat} {v v1 : Value} {ys : List UInt8} (h2 : v1.ownBlock = v.ownBlock ∨ ∀ k, v1.ownBlock = some k → a.heap.size ≤ k) (h3 : Fr (fun k => k = p ∨ v.ownBlock = some k) a b) (h' : Wrote b c p v1 ys) : Wrote a c p v ys := by
  obtain ⟨v2, g1, g2, g3⟩ := h'
  refine ⟨v2, g1, ?_, h3.trans g3 ?_⟩
  · rcases g2 with g2 | g2
    · rcases h2 with h2 | h2
      · left; rw [g2, h2]
      · right; intro k hk; rw [g2] at hk; exact h2 k hk
    · right; intro k hk; have := g2 k hk; have := h3.size; omega
  · intro k hk hh
    rcases hh with hh | hh
    · exact Or.inl hh
    · rcases h2 with h2 | h2
      · right; rw [← h2, hh]
      · have := h2 k hh; omega

theorem Wt.fr {w w' : World} {b : Nat} {v : Value} {xs : List UInt8} (h : Wt w b v xs) {S : Nat → Prop} (g : Fr S w w') (h1 : ¬ S b) (h2 : ∀ k, v.ownBlock = some k → ¬ S k) : Wt w' b v xs :=
  ⟨(g.block _ (lt_of_block h.blk) h1).trans h.blk, ownsRow_fr h.own g h2⟩

theorem Wrote.nil {w w' : World} {b : Nat} {xs : List UInt8} (h : Wrote w w' b (.slice none 0 0) xs) : ∃ v', Wt w' b v' xs ∧ (∀ k, v'.ownBlock = some k → w.heap.size ≤ k) ∧ Fr (fun k => k = b) w w' := by
  obtain ⟨v', h1, h2, h3⟩ := h
  refine ⟨v', h1, ?_, h3.mono (fun k _ hk => ?_)⟩
  · rcases h2 with h2 | h2
    · intro k hk; rw [h2] at hk; cases hk
    · exact h2
  · rcases hk with hk | hk
    · exact hk
    · cases hk

/-- A Reader of a literal. -/
theorem newReader_lit (w : World) (l : List UInt8) (hl : l.length ≤ 140737488355328) :
    Calls Try.prog 13 #[.slice (some ⟨w.heap.size, 0, none⟩) l.length l.length] (w.alloc (.cells (bc l).toArray 5)) fun e w' => ∃ rb v', e = .returned (.pointer (some ⟨rb, 0, none⟩)) ∧ w.heap.size ≤ rb ∧ (∀ k, v'.ownBlock = some k → w.heap.size ≤ k) ∧ Rd w' rb v' l ⟨0, 0, 0⟩ ∧ Fr (fun _ => False) w w' := by
  have h := Reads.built w (bc l) 5
  rw [bc_length] at h
  refine (newReader_any _ _ l h hl).mono ?_
  rintro e w2 ⟨rb, v2, rfl, hrb, hv2, hr2, hf2⟩
  have hs : w.heap.size ≤ (w.alloc (.cells (bc l).toArray 5)).heap.size := by simp
  exact ⟨rb, v2, rfl, by omega, fun k hk => by have := hv2 k hk; omega, hr2, (Fr.alloc (fun _ => False) w _).trans hf2 (fun _ _ h => h)⟩

set_option maxHeartbeats 1600000 in
theorem known_any (w : World) :
    Calls Try.prog 16 #[] w fun e w' => e = .returned (.bool true) ∧ Fr (fun _ => False) w w' := by
  go_enter Try.func16, Try.ntmps16
  go_wp2_with fail
  refine (newWriter_any _).mono ?_
  rintro e w1 ⟨rfl, hw1, hf1⟩
  obtain ⟨b, hb⟩ : ∃ b, w.heap.size = b := ⟨_, rfl⟩
  rw [hb] at hw1 ⊢
  have W1 := hide hw1
  have F1 := hide hf1
  clear hw1 hf1
  go_wp2_with fail
  refine (newReader_lit w1 [0, 0, 0, 2, 97, 98] (by decide)).mono ?_
  rintro e w2 ⟨rb, v2, rfl, hrb, hv2, hr2, hf2⟩
  have hs1 := F1.out.size
  have hs2 := hf2.size
  have hbl := lt_of_block W1.out.blk
  have R2 := hide hr2
  have F2 := hide hf2
  have V2 := hide hv2
  clear hr2 hf2 hv2
  go_wp2_with fail
  refine (four_any _ b _ [] (W1.out.fr F2.out id (fun _ _ => id)) 258 (by decide)).mono ?_
  rintro e w3 ⟨rfl, v3, hw3, hv3, hf3⟩
  have W3 := hide hw3
  have V3 := hide hv3
  have F3 := hide hf3
  clear hw3 hv3 hf3
  go_wp2_with fail
  refine (text_any _ b _ _ W3.out ⟨#[97, 98]⟩ (by decide)).mono ?_
  rintro e w4 ⟨rfl, hw4⟩
  obtain ⟨v4, hw4, hv4, hf4⟩ := Wrote.nil (Wrote.next V3.out F3.out hw4)
  have W4 := hide hw4
  have F4 := hide hf4
  have V4 := hide hv4
  clear hw4 hf4 hv4
  go_wp2_with fail
  have hr4 : Rd w4 rb v2 [0, 0, 0, 2, 97, 98] ⟨0, 0, 0⟩ := R2.out.fr F4.out (by omega) (fun k hk => by have := V2.out k hk; omega)
  have hlt := lt_of_block R2.out.blk
  have hlv : ∀ k, v2.ownBlock = some k → k < w2.heap.size := fun k hk => (R2.out.own.lt k hk).2
  refine (rdText_any _ rb v2 _ _ hr4 1).mono ?_
  rintro e w5 ⟨rfl, hr5, hf5⟩
  have R5 := hide hr5
  have F5 := hide hf5
  have LV := hide hlv
  clear hr4 hr5 hf5 hlv
  go_wp2_with fail
  refine (end_any _ rb v2 _ _ R5.out).mono ?_
  rintro e w6 ⟨rfl, hr6, hf6⟩
  have F6 := hide hf6
  clear hr6 hf6
  go_wp2_with fail
  have hw6 : Wt w6 b v4 _ := (W4.out.fr F5.out (by omega) (fun k hk => by have := V4.out k hk; omega)).fr F6.out (by omega) (fun k hk => by have := V4.out k hk; omega)
  refine (done_any _ b v4 _ hw6 (by decide)).mono ?_
  rintro e w7 ⟨v7, rfl, ho7, hf7⟩
  have F7 := hide hf7
  clear hf7 hw6
  have e1 : ([] ++ beN (u64 258) 4 ++ beN (u64 (ByteArray.size ⟨#[97, 98]⟩ : Nat)) 4 ++ [97, 98] : List UInt8) = [0, 0, 1, 2, 0, 0, 0, 2, 97, 98] := by decide
  have e2 : (RS.text [0, 0, 0, 2, 97, 98] ⟨0, 0, 0⟩ 1).1 = [] := by decide
  have e3 : (RS.end_ [0, 0, 0, 2, 97, 98] (RS.text [0, 0, 0, 2, 97, 98] ⟨0, 0, 0⟩ 1).2) = (3, 0) := by decide
  have hr7 := Reads.of_own ho7
  rw [e1] at hr7
  have hs := run_string_reads (P := Try.prog) w7 22 9 5 v7 _ hr7 Try.underlying22 Try.underlying5 Try.underlying9
  rw [e2, e3]
  obtain ⟨-, a7, c7, rfl, -, -, -⟩ := hr7
  clear ho7
  replace hs : (convert 22 9 (.slice a7 10 c7)).run Try.prog w7 = .ok (.string ⟨#[0, 0, 1, 2, 0, 0, 0, 2, 97, 98]⟩) w7 := hs
  go_wp2_with fail
  go_ret
  have hF : Fr (fun k => k = b ∨ k = rb) w w7 :=
    (((((F1.out.trans F2.out (fun _ _ h => h)).step F4.out).step F5.out).step F6.out).step F7.out).mono (fun k _ h => by simp only [or_false, false_or] at h; omega)
  exact ⟨rfl, hF.fresh (fun k h => by omega)⟩
end Go.Proofs.Ytcklmdgmjgkogaa
