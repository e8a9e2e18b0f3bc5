/- known, of the statements on dedup. -/
import Derived.Test.YtmbmknhpfolkkaaDedup3
namespace Go.Proofs.Ytmbmknhpfolkkaa
open Go.RowKit Go.Maps Go.Cv Go.Shelf
set_option linter.unusedVariables false

/-- A table and where it lies, all of it new. -/
def Tbl (w : World) (B tb : Nat) (most : Int) (l : List L3) : Prop := ∃ v, Tb w tb v most l ∧ ∀ k, v.ownBlock = some k → B ≤ k

theorem Tbl.fr {w w' : World} {B tb : Nat} {most : Int} {l : List L3} (h : Tbl w B tb most l) (g : Fr (fun _ => False) w w') : Tbl w' B tb most l := by
  obtain ⟨v, h1, h2⟩ := h; exact ⟨v, h1.fr0 g, h2⟩

theorem tbl_new {w w' : World} {B : Nat} {most : Int} (h : Tb w' w.heap.size (.slice none 0 0) most []) : Tbl w' B w.heap.size most [] := ⟨_, h, fun _ h => by cases h⟩

theorem askTbl (w : World) (B tb : Nat) (most : Int) (l : List L3) (h : Tbl w B tb most l) (hl : l.length ≤ maxLen) (c : ByteArray) (j : Int) :
    Calls Try.prog 9 #[.pointer (some ⟨tb, 0, none⟩), .string c, .int .i64 j] w fun e w' => e = .returned (.tuple #[.int .i64 (askT l c j).1, .string (askT l c j).2]) ∧ Tbl w' B tb most l ∧ Fr (fun _ => False) w w' := by
  have h' := h
  obtain ⟨v, h1, h2⟩ := h'
  refine (ask_any w tb v most l h1 hl c j).mono ?_
  rintro e w' ⟨rfl, hf⟩
  exact ⟨rfl, h.fr hf, hf⟩

theorem doneTbl (w : World) (B tb : Nat) (most : Int) (l : List L3) (h : Tbl w B tb most l) (hl : l.length ≤ 1000000) (hB : B ≤ w.heap.size) (hT : B ≤ tb) (c : ByteArray) (i : Int) (r : ByteArray) (hask : (askT l c i).1 = 1) :
    Calls Try.prog 10 #[.pointer (some ⟨tb, 0, none⟩), .string c, .int .i64 i, .string r] w fun e w' => e = .returned (.int .i64 0) ∧ Tbl w' B tb most (doneT most l c i r) ∧ Fr (fun k => B ≤ k) w w' := by
  obtain ⟨v, h1, h2⟩ := h
  refine (done_yes w tb v most l h1 hl c i r hask).mono ?_
  rintro e w' ⟨rfl, v', h3, h4, h5⟩
  refine ⟨rfl, ⟨v', h3, fun k hk => ?_⟩, h5.mono (fun k _ hk => ?_)⟩
  · rcases h4 with h4 | h4
    · rw [h4] at hk; exact h2 k hk
    · have := h4 k hk; omega
  · rcases hk with rfl | hk
    · exact hT
    · exact h2 k hk

theorem known_lists : doneT 2 [] ⟨#[97]⟩ 1 ⟨#[120]⟩ = [(⟨#[97]⟩, 1, ⟨#[120]⟩)] ∧ askT [] ⟨#[97]⟩ 1 = (1, ⟨#[]⟩) ∧ askT [(⟨#[97]⟩, 1, ⟨#[120]⟩)] ⟨#[97]⟩ 1 = (2, ⟨#[120]⟩)
    ∧ askT [(⟨#[97]⟩, 1, ⟨#[120]⟩)] ⟨#[97]⟩ 2 = (1, ⟨#[]⟩) ∧ askT [(⟨#[97]⟩, 1, ⟨#[120]⟩)] ⟨#[97]⟩ 0 = (3, ⟨#[]⟩) := by decide

set_option maxRecDepth 100000 in
theorem known_any (w : World) : Calls Try.prog 11 #[] w fun e w' => e = .returned (.bool true) ∧ Fr (fun _ => False) w w' := by
  obtain ⟨k1, k2, k3, k4, k5⟩ := known_lists
  have K1 := hide k1
  have K2 := hide k2
  have K3 := hide k3
  have K4 := hide k4
  have K5 := hide k5
  clear k1 k2 k3 k4 k5
  go_enter Try.func11, Try.ntmps11
  go_wp2_with fail
  refine (new_ok w 2 (by omega) (by omega)).mono ?_
  rintro e w1 ⟨rfl, h1, hf1⟩
  have T1 := hide (tbl_new (B := w.heap.size) h1)
  have hs1 := hf1.size
  have F1 := hide hf1
  clear h1 hf1
  go_wp2_with fail
  refine (doneTbl w1 w.heap.size w.heap.size 2 [] T1.out (by simp) hs1 (Nat.le_refl _) ⟨#[97]⟩ 1 ⟨#[120]⟩ (by rw [K2.out])).mono ?_
  rintro e w2 ⟨rfl, h2, hf2⟩
  rw [K1.out] at h2
  have T2 := hide h2
  have F2 := hide hf2
  clear h2 hf2
  go_wp2_with fail
  refine (askTbl w2 w.heap.size w.heap.size 2 _ T2.out (by simp [maxLen]) ⟨#[97]⟩ 1).mono ?_
  rw [K3.out]
  rintro e w3 ⟨rfl, h3, hf3⟩
  have T3 := hide h3
  have F3 := hide hf3
  clear h3 hf3
  go_wp2_with fail
  refine (askTbl w3 w.heap.size w.heap.size 2 _ T3.out (by simp [maxLen]) ⟨#[97]⟩ 2).mono ?_
  rw [K4.out]
  rintro e w4 ⟨rfl, h4, hf4⟩
  have T4 := hide h4
  have F4 := hide hf4
  clear h4 hf4
  go_wp2_with fail
  refine (askTbl w4 w.heap.size w.heap.size 2 _ T4.out (by simp [maxLen]) ⟨#[97]⟩ 0).mono ?_
  rw [K5.out]
  rintro e w5 ⟨rfl, h5, hf5⟩
  have F5 := hide hf5
  clear h5 hf5
  go_wp2_with fail
  go_ret
  exact ⟨rfl, ((((F1.out.mono (fun _ _ h => h.elim)).trans F2.out (fun _ _ h => h)).trans ((F3.out.trans F4.out (fun _ _ h => h)).trans F5.out (fun _ _ h => h)) (fun _ _ h => h.elim))).fresh (fun _ h => h)⟩
end Go.Proofs.Ytmbmknhpfolkkaa
