/- conclavekeep.Reply: are two answers alike? -/
import Derived.Test.YtehneddmamnmiaaTexts
import Derived.Test.YtehneddmamnmiaaRows2
namespace Go.Proofs.Ytehneddmamnmiaa
open Go.RowKit Go.Maps Go.Cv
set_option linter.unusedVariables false

set_option maxHeartbeats 1600000 in
theorem keepReply_any (w : World) (o1 p1 y1 : Int) (a1 : Option Addr) (n1 c1 : Nat) (l1 : List ByteArray) (h1 : Reads w (.slice a1 n1 c1) l1.length 1 (l1.map .string)) (o2 p2 y2 : Int) (a2 : Option Addr) (n2 c2 : Nat) (l2 : List ByteArray) (h2 : Reads w (.slice a2 n2 c2) l2.length 1 (l2.map .string)) (hb1 : l1.length ≤ 9223372036854775807) :
    Calls Try.prog 18 #[.agg #[.int .i64 o1, .slice a1 n1 c1, .int .i64 p1, .int .i64 y1], .agg #[.int .i64 o2, .slice a2 n2 c2, .int .i64 p2, .int .i64 y2]] w fun e w' => e = .returned (.bool (decide (o1 = o2 ∧ p1 = p2 ∧ y1 = y2 ∧ l1 = l2))) ∧ Fr (fun _ => False) w w' := by
  have hT : ∀ wx, Fr (fun _ => False) w wx → Calls Try.prog 42 #[.slice a1 n1 c1, .slice a2 n2 c2] wx fun e w' => e = .returned (.bool (decide (l1 = l2))) ∧ Fr (fun _ => False) w w' := fun wx hf =>
    (texts_any wx _ _ l1 l2 (reads_old h1 hf (fun _ _ => id)) (reads_old h2 hf (fun _ _ => id)) hb1).mono (by rintro e w' ⟨rfl, m, rfl⟩; exact ⟨rfl, hf.drewN m⟩)
  have hff : ∀ o o', Fr (fun _ => False) w ((w.alloc o).alloc o') := fun o o' => (Fr.alloc _ _ _).trans (Fr.alloc (fun _ => False) _ _) (fun _ _ h => h)
  have HT := hide hT
  have HF := hide hff
  clear hT hff h1 h2
  have hcase : ((o1 == o2) = false ∧ ¬ (o1 = o2 ∧ p1 = p2 ∧ y1 = y2 ∧ l1 = l2)) ∨ ((o1 == o2) = true ∧ (p1 == p2) = false ∧ ¬ (o1 = o2 ∧ p1 = p2 ∧ y1 = y2 ∧ l1 = l2)) ∨ ((o1 == o2) = true ∧ (p1 == p2) = true ∧ (y1 == y2) = false ∧ ¬ (o1 = o2 ∧ p1 = p2 ∧ y1 = y2 ∧ l1 = l2)) ∨ ((o1 == o2) = true ∧ (p1 == p2) = true ∧ (y1 == y2) = true ∧ ((o1 = o2 ∧ p1 = p2 ∧ y1 = y2 ∧ l1 = l2) ↔ l1 = l2)) := by
    by_cases e1 : o1 = o2
    · by_cases e2 : p1 = p2
      · by_cases e3 : y1 = y2
        · exact .inr (.inr (.inr ⟨by simp [e1], by simp [e2], by simp [e3], by simp [e1, e2, e3]⟩))
        · exact .inr (.inr (.inl ⟨by simp [e1], by simp [e2], by simp [e3], by simp [e3]⟩))
      · exact .inr (.inl ⟨by simp [e1], by simp [e2], by simp [e2]⟩)
    · exact .inl ⟨by simp [e1], by simp [e1]⟩
  rcases hcase with ⟨e1, e⟩ | ⟨e1, e2, e⟩ | ⟨e1, e2, e3, e⟩ | ⟨e1, e2, e3, e⟩
  · rw [decide_eq_false e]
    clear e
    go_enter Try.func18, Try.ntmps18
    go_wp2_with fail
    go_ret
    exact ⟨rfl, HF.out _ _⟩
  · rw [decide_eq_false e]
    clear e
    go_enter Try.func18, Try.ntmps18
    go_wp2_with fail
    go_ret
    exact ⟨rfl, HF.out _ _⟩
  · rw [decide_eq_false e]
    clear e
    go_enter Try.func18, Try.ntmps18
    go_wp2_with fail
    go_ret
    exact ⟨rfl, HF.out _ _⟩
  · obtain ⟨d, hd⟩ : ∃ d, decide (l1 = l2) = d := ⟨_, rfl⟩
    rw [decide_eq_decide.2 e, hd]
    rw [hd] at HT
    clear hd e
    go_enter Try.func18, Try.ntmps18
    go_wp2_with fail
    refine (HT.out _ (HF.out _ _)).mono ?_
    rintro e w1 ⟨rfl, hf1⟩
    have HF1 := hide hf1
    clear hf1
    go_wp2_with fail
    go_ret
    exact ⟨rfl, HF1.out⟩
end Go.Proofs.Ytehneddmamnmiaa
