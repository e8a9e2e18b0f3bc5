/- conclavelaw9.known: some of chapter 9's runs. -/
import Derived.Test.YtpjdepepgfimeaaLog
import Derived.Test.YtpjdepepgfimeaaTexts
namespace Go.Proofs.Ytpjdepepgfimeaa
open Go.RowKit Go.Maps Go.Cv

def f1 : Int → Option ByteArray := fput (fun _ => none) 1 ⟨#[98]⟩
def f2 : Int → Option ByteArray := fput f1 0 ⟨#[97]⟩
theorem n1 : IsNext f1 0 (0 + (0 : Nat)) := ⟨by omega, fun s h1 h2 => by omega, by simp [f1, fput]⟩
theorem n2 : IsNext f2 0 (0 + (0 : Nat) + (2 : Nat)) := ⟨by omega, fun s h1 h2 => by
  obtain rfl | rfl : s = 0 ∨ s = 1 := by omega
  · exact ⟨⟨#[97]⟩, by simp [f2, fput]⟩
  · exact ⟨⟨#[98]⟩, by simp [f2, f1, fput]⟩, by simp [f2, f1, fput]⟩
theorem v2 : vals f2 (0 + (0 : Nat)) 2 = ([⟨#[97]⟩, ⟨#[98]⟩] : List ByteArray).map .string := by
  simp [vals, List.range_succ, f2, f1, fput]

theorem known_any (w : World) :
    Calls Try.prog 13 #[] w fun e w' => e = .returned (.bool true) ∧ Fr (fun _ => False) w w' := by
  go_enter Try.func13, Try.ntmps13
  go_wp2_with fail
  refine (new_any _).mono ?_
  rintro e w1 ⟨lb, bm, rfl, hb1, hb2, hl1, hf1⟩
  go_wp2_with fail
  refine (learn_new _ lb bm 0 _ 0 0 hl1 (by unfold maxLen; omega) 1 ⟨#[98]⟩ (by omega) (by omega) (by omega) rfl).mono ?_
  rintro e w2 ⟨rfl, hl2, hf2⟩
  go_wp2_with fail
  refine (take_any _ lb bm 1 f1 0 0 0 hl2 (by omega) (by omega) n1 (by omega)).mono ?_
  rintro e w3 ⟨v3, rfl, ho3, hl3, hf3⟩
  obtain ⟨-, a3, c3, rfl, -, -, -⟩ := Reads.of_own ho3
  clear ho3
  go_wp2_with fail
  refine (learn_new _ lb bm 1 f1 0 _ hl3 (by unfold maxLen; omega) 0 ⟨#[97]⟩ (by omega) (by omega) (by omega) (by simp [f1, fput])).mono ?_
  rintro e w4 ⟨rfl, hl4, hf4⟩
  go_wp2_with fail
  refine (learn_old _ lb bm 2 f2 0 _ hl4 0 ⟨#[122]⟩ 37 (by omega) (by omega) (.inr (.inr ⟨by omega, by omega, by omega, ⟨#[97]⟩, by simp [f2, fput], .inr ⟨by simp, rfl⟩⟩))).mono ?_
  rintro e w5 ⟨rfl, rfl⟩
  go_wp2_with fail
  refine (take_any _ lb bm 2 f2 0 _ 2 hl4 (by omega) (by omega) n2 (by omega)).mono ?_
  rintro e w6 ⟨v6, rfl, ho6, hl6, hf6⟩
  have hr6 := Reads.of_own ho6
  rw [v2] at hr6
  clear ho6
  go_wp2_with fail
  have hfr := (((((hf1.step hf2).step hf3).step hf4).step hf6).step (Fr.alloc (fun _ => False) w6 (.cells #[.string ⟨#[97]⟩, .string ⟨#[98]⟩] 9)))
  refine (texts_any _ v6 _ [⟨#[97]⟩, ⟨#[98]⟩] [⟨#[97]⟩, ⟨#[98]⟩] (hr6.fr (Fr.alloc (fun _ => False) _ _) (fun _ _ _ _ h => h)) (Reads.built w6 _ 9) (by simp)).mono ?_
  rintro e w7 ⟨rfl, m7, rfl⟩
  go_wp2_with fail
  go_ret
  refine ⟨rfl, (hfr.drewN _).fresh ?_⟩
  intro k hk
  simp only [or_false, false_or] at hk
  omega
end Go.Proofs.Ytpjdepepgfimeaa
