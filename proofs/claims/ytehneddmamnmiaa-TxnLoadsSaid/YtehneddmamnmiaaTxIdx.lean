/- slices.Index and slices.Contains at int. -/
import Derived.Test.YtehneddmamnmiaaBytes
import Derived.WalkLawsBesides
import Derived.WalkSpells
import Derived.BigQuiet
import Derived.Outline
import Derived.Test.YtehneddmamnmiaaRgSplit
namespace Go.Proofs.Ytehneddmamnmiaa
open Go.RowKit Go.Maps Go.Cv
set_option linter.unusedVariables false

/-- r is x's first place among l, or -1. -/
def Ix (l : List Int) (x r : Int) : Prop := (r = -1 ∧ x ∉ l) ∨ ∃ k : Nat, r = k ∧ l[k]? = some x ∧ ∀ j : Nat, j < k → l[j]? ≠ some x
theorem ix_ex (l : List Int) (x : Int) : ∃ r, Ix l x r := by
  induction l with
  | nil => exact ⟨-1, .inl ⟨rfl, by simp⟩⟩
  | cons y t ih =>
    by_cases e : y = x
    · exact ⟨0, .inr ⟨0, rfl, by simp [e], fun j hj => by omega⟩⟩
    · obtain ⟨r, ⟨h1, h2⟩ | ⟨k, h1, h2, h3⟩⟩ := ih
      · exact ⟨-1, .inl ⟨rfl, by simp [h2]; exact fun h => e h.symm⟩⟩
      · refine ⟨k + 1, .inr ⟨k + 1, by omega, by simpa using h2, fun j hj => ?_⟩⟩
        cases j with
        | zero => simp [e]
        | succ j => simpa using h3 j (by omega)
theorem Ix.mem {l : List Int} {x r : Int} (h : Ix l x r) : decide (0 ≤ r) = decide (x ∈ l) := by
  rcases h with ⟨rfl, h⟩ | ⟨k, rfl, h, _⟩
  · simp [h]
  · have := List.mem_of_getElem? h
    simp [this]

set_option maxRecDepth 100000 in
theorem index_any (w : World) (v : Value) (l : List Int) (h : Reads w v l.length 1 (ints l)) (hl : l.length ≤ 1000000) (x r : Int) (hr : Ix l x r) :
    Calls Try.prog 39 #[v, .int .i64 x] w fun e w' => e = .returned (.int .i64 r) ∧ w' = w := by
  obtain ⟨n, hn⟩ : ∃ n, l.length = n := ⟨_, rfl⟩
  rw [hn] at h hl
  obtain ⟨-, a, c, rfl, -, -, hc⟩ := h
  have hn9 : (n : Int) ≤ 1000000 := by omega
  have HCL := hide hc
  have HN := hide hn
  have HR := hide hr
  clear hc hn hr
  go_enter Try.func39, Try.ntmps39
  go_wp2_with fail
  go_loopw [8] (fun i wr => ∃ k : Nat, i = .int .i64 k ∧ k ≤ n ∧ wr = w ∧ Hid (∀ j : Nat, j < k → l[j]? ≠ some x)) (fun i _ => n - (intOf i).toNat)
  case atStart => exact ⟨0, rfl, Nat.zero_le _, rfl, fun j hj => absurd hj (Nat.not_lt_zero _)⟩
  case round =>
    obtain ⟨k, rfl, hk, rfl, A⟩ := hrel
    by_cases hlt : k < n
    · obtain ⟨y, hy⟩ : ∃ y, l[k]? = some y := ⟨_, List.getElem?_eq_getElem (by have := HN.out; omega)⟩
      obtain ⟨b0, o0, rfl, e0⟩ := HCL.out k (.int .i64 y) (by unfold ints; rw [List.getElem?_map, hy]; rfl)
      have ik0 : (0 : Int) ≤ (k : Int) := by omega
      have ik1 : (k : Int) < (n : Int) := by omega
      have HY := hide hy
      clear hy
      by_cases hs : x = y
      · subst hs
        have hres : r = k := by
          rcases HR.out with ⟨_, h1⟩ | ⟨k', h1, h2, h3⟩
          · exact absurd (List.mem_of_getElem? HY.out) h1
          · rcases Nat.lt_trichotomy k k' with h | h | h
            · exact absurd HY.out (h3 k h)
            · omega
            · exact absurd h2 (A.out k' h)
        subst hres
        go_wp2_with fail
        go_ret
        exact ⟨rfl, rfl⟩
      · have hsb : (x == y) = false := by simp [hs]
        have HS := hide hs
        clear hs
        go_wp2_with fail
        go_roundw
        case rel =>
          refine ⟨k + 1, by go_num, by omega, trivial, fun j hj => ?_⟩
          by_cases e : j < k
          · exact A.out j e
          · have : j = k := by omega
            subst this
            rw [HY.out]; intro e2; cases e2; exact HS.out rfl
        case measure => simp [intOf]; omega
    · have hres : r = -1 := by
        rcases HR.out with ⟨h1, _⟩ | ⟨k', h1, h2, h3⟩
        · exact h1
        · have := (List.getElem?_eq_some_iff.1 h2).1
          rw [HN.out] at this
          exact absurd h2 (A.out k' (by omega))
      subst hres
      have ik1 : ¬ (k : Int) < (n : Int) := by omega
      go_wp2_with fail
      go_ret
      exact ⟨rfl, rfl⟩

theorem contains_any (w : World) (v : Value) (l : List Int) (h : Reads w v l.length 1 (ints l)) (hl : l.length ≤ 1000000) (x : Int) :
    Calls Try.prog 41 #[v, .int .i64 x] w fun e w' => e = .returned (.bool (decide (x ∈ l))) ∧ w' = w := by
  obtain ⟨r, hr⟩ := ix_ex l x
  have hI := index_any w v l h hl x r hr
  rw [← hr.mem]
  have HI := hide hI
  clear hI hr h
  go_enter Try.func41, Try.ntmps41
  go_wp2_with fail
  refine HI.out.mono ?_
  rintro e w1 ⟨rfl, rfl⟩
  go_wp2_with fail
  go_ret
  exact ⟨rfl, rfl⟩

/-- conclavekeep.Read. -/
theorem keepRead_any (w : World) (s : ByteArray) :
    Calls Try.prog 8 #[.string s] w fun e w' => e = .returned (.agg #[.int .i64 5, .string s, .string ⟨#[]⟩, .int .i64 0]) ∧ Fr (fun _ => False) w w' := by
  go_enter Try.func8, Try.ntmps8
  go_wp2_with fail
  exact bodyPost_ret (v := .agg #[.int .i64 5, .string s, .string ⟨#[]⟩, .int .i64 0]) (by simp [results, Try.results8, go_sem]) rfl ⟨rfl, Fr.alloc _ _ _⟩
end Go.Proofs.Ytehneddmamnmiaa
