/- Less, of ballots: cmp.Compare, cmp.Or, compare. -/
import Derived.Test.YthekgecaeblbbaaRows
import Derived.Test.YthekgecaeblbbaaCells
import Derived.WalkLawsBesides
import Derived.WalkSpells
import Derived.BigQuiet
import Derived.Outline
import Derived.Deep.QuietTactic
import Derived.Deep.RegionHeld3
import Derived.Deep.CutBlock
import Derived.Laws.StructEq
namespace Go.Proofs.Ythekgecaeblbbaa
open Go.RowKit Go.Maps Go.Cv
set_option linter.unusedVariables false

def cmpI (a b : Int) : Int := if a < b then -1 else if b < a then 1 else 0

theorem isNaN_any (w : World) (a : Int) : Calls Try.prog 54 #[.int .i64 a] w fun e w' => e = .returned (.bool false) ∧ w = w' := by
  have h : (a != a) = false := by simp
  go_enter Try.func54, Try.ntmps54
  go_wp2
  go_ret
  exact ⟨rfl, rfl⟩

theorem cmp_any (w : World) (a b : Int) : Calls Try.prog 43 #[.int .i64 a, .int .i64 b] w fun e w' => e = .returned (.int .i64 (cmpI a b)) ∧ w = w' := by
  have h3 : (a < b ∧ cmpI a b = -1) ∨ (¬ a < b ∧ b < a ∧ cmpI a b = 1) ∨ (¬ a < b ∧ ¬ b < a ∧ cmpI a b = 0) := by unfold cmpI; split <;> (try split) <;> omega
  generalize cmpI a b = r at *
  rcases h3 with ⟨h1, rfl⟩ | ⟨h1, h2, rfl⟩ | ⟨h1, h2, rfl⟩
  all_goals
    go_enter Try.func43, Try.ntmps43
    go_wp2_with (go_at_call 54; refine (isNaN_any _ _).mono ?_; rintro e w' ⟨rfl, rfl⟩)
    go_ret
    exact ⟨rfl, rfl⟩

set_option maxRecDepth 100000 in
theorem or_any (w : World) (b : Nat) (x y : Int) (h0 : w.cell? ⟨b, 0, none⟩ = some (.int .i64 x)) (h1 : w.cell? ⟨b, 1, none⟩ = some (.int .i64 y)) (r : Int) (hr : (x ≠ 0 ∧ r = x) ∨ (x = 0 ∧ r = y)) :
    Calls Try.prog 42 #[.slice (some ⟨b, 0, none⟩) 2 2] w fun e w' => e = .returned (.int .i64 r) ∧ w = w' := by
  have h3 : (x ≠ 0 ∧ r = x) ∨ (x = 0 ∧ y ≠ 0 ∧ r = y) ∨ (x = 0 ∧ y = 0 ∧ r = 0) := by omega
  clear hr
  go_enter Try.func42, Try.ntmps42
  go_wp2
  go_loop [8] (fun i => ∃ k : Nat, i = .int .i64 k ∧ k ≤ 2 ∧ (0 < k → x = 0) ∧ (1 < k → y = 0)) (fun i => 2 - (intOf i).toNat)
  case atStart => exact ⟨0, rfl, by omega, by omega, by omega⟩
  case round =>
    obtain ⟨k, rfl, hk, a1, a2⟩ := hrel
    have h012 : k = 0 ∨ k = 1 ∨ k = 2 := by omega
    rcases h012 with rfl | rfl | rfl
    · by_cases hx : x = 0
      · subst hx
        go_wp2
        go_round
        case rel => exact ⟨1, by first | rfl | go_num, by omega, by simp, by intro h; omega⟩
        case measure => simp [intOf]
      · have hb : (x != 0) = true := by rw [bne_iff_ne]; exact hx
        have hrx : r = x := by omega
        subst hrx
        clear h3 hx
        go_wp2
        go_ret
        exact ⟨rfl, rfl⟩
    · by_cases hy : y = 0
      · subst hy
        go_wp2
        go_round
        case rel => exact ⟨2, by first | rfl | go_num, by omega, fun _ => a1 (by omega), by simp⟩
        case measure => simp [intOf]
      · have hb : (y != 0) = true := by rw [bne_iff_ne]; exact hy
        have b1 := a1 (by omega)
        have hry : r = y := by omega
        clear b1 a1 a2
        subst hry
        clear h3 hy
        go_wp2
        go_ret
        exact ⟨rfl, rfl⟩
    · have b1 := a1 (by omega)
      have b2 := a2 (by omega)
      have hrz : r = 0 := by omega
      clear b1 b2 a1 a2
      subst hrz
      clear h3
      go_wp2
      go_ret
      exact ⟨rfl, rfl⟩

/-- A ballot: its round, its node. -/
abbrev Bt := Int × Int
def bcells (b : Bt) : Array Value := #[.int .i64 b.1, .int .i64 b.2]
def less (a b : Bt) : Bool := decide (a.1 < b.1 ∨ (a.1 = b.1 ∧ a.2 < b.2))

theorem run_eqB (w : World) (a b c d : Int) : (binOp .eql 23 (.agg #[.int .i64 a, .int .i64 b]) (.agg #[.int .i64 c, .int .i64 d])).run Try.prog w = .ok (.bool (a == c && b == d)) w := by
  have u3 := Try.underlying3
  have a3 := Try.isAgg3
  have z3 := Try.sizeOf3
  have hS : Try.prog.underlying 23 = some (.struct (Try.prog.fieldsOf 23)) := by kernel_rfl
  have hp : Try.prog.stoodInHeld 23 = false := by kernel_rfl
  rw [run_eql_struct, show (10000 : Nat) = 9999 + 1 from rfl, run_equalIn_agg w 9999 23 _ _ hS hp]
  simp only [Program.fieldsOf, Try.underlying23]
  go_simp
  by_cases h1 : a = c <;> by_cases h2 : b = d <;> simp [h1, h2]

set_option maxRecDepth 100000 in
set_option maxHeartbeats 800000 in
theorem compare_any (w : World) (a b : Bt) (r : Int) (hr : (cmpI a.1 b.1 ≠ 0 ∧ r = cmpI a.1 b.1) ∨ (cmpI a.1 b.1 = 0 ∧ r = cmpI a.2 b.2)) :
    Calls Try.prog 26 #[.agg (bcells a), .agg (bcells b)] w fun e w' => e = .returned (.int .i64 r) ∧ Fr (fun _ => False) w w' := by
  obtain ⟨a1, a2⟩ := a
  obtain ⟨b1, b2⟩ := b
  show Calls _ _ #[.agg #[.int .i64 a1, .int .i64 a2], .agg #[.int .i64 b1, .int .i64 b2]] w _
  have hr' : (cmpI a1 b1 ≠ 0 ∧ r = cmpI a1 b1) ∨ (cmpI a1 b1 = 0 ∧ r = cmpI a2 b2) := hr
  have HR := hide hr'
  clear hr hr'
  obtain ⟨w0, hw0⟩ : ∃ w0, (w.alloc (.cells #[.int .i64 a1, .int .i64 a2] 23)).alloc (.cells #[.int .i64 b1, .int .i64 b2] 23) = w0 := ⟨_, rfl⟩
  have hbA : w0.heap[w.heap.size]? = some (.cells #[.int .i64 a1, .int .i64 a2] 23 (0, 0)) := by rw [← hw0]; exact (Below.heap_alloc _ _ _ (by simp)).trans (block_alloc w _)
  have hbB : w0.heap[w.heap.size + 1]? = some (.cells #[.int .i64 b1, .int .i64 b2] 23 (0, 0)) := by rw [← hw0]; simpa using block_alloc (w.alloc (.cells #[.int .i64 a1, .int .i64 a2] 23)) (.cells #[.int .i64 b1, .int .i64 b2] 23)
  have hF : Fr (fun _ => False) w w0 := by rw [← hw0]; exact (Fr.alloc _ _ _).trans (Fr.alloc (fun _ => False) _ _) (fun _ _ h => h)
  have hA : ∀ wx : World, wx.heap[w.heap.size]? = w0.heap[w.heap.size]? → wx.cell? ⟨w.heap.size, 0, none⟩ = some (.int .i64 a1) ∧ wx.cell? ⟨w.heap.size, 1, none⟩ = some (.int .i64 a2) := fun wx h =>
    ⟨by rw [cell_of_block (h.trans hbA)]; rfl, by rw [cell_of_block (h.trans hbA)]; rfl⟩
  have hB : ∀ wx : World, wx.heap[w.heap.size + 1]? = w0.heap[w.heap.size + 1]? → wx.cell? ⟨w.heap.size + 1, 0, none⟩ = some (.int .i64 b1) ∧ wx.cell? ⟨w.heap.size + 1, 1, none⟩ = some (.int .i64 b2) := fun wx h =>
    ⟨by rw [cell_of_block (h.trans hbB)]; rfl, by rw [cell_of_block (h.trans hbB)]; rfl⟩
  obtain ⟨k0, k1⟩ := hA w0 rfl
  obtain ⟨k2, k3⟩ := hB w0 rfl
  have HW := hide hw0
  have HF := hide hF
  have hs0 : w.heap.size + 1 < w0.heap.size := lt_of_block hbB
  clear hw0 hF hA hB hbA hbB
  go_enter Try.func26, Try.ntmps26
  go_wp2_with fail
  rw [HW.out]
  go_region_held3 (fun w' => w'.cell? ⟨w.heap.size, 0, none⟩ = some (.int .i64 a1) ∧ w'.cell? ⟨w.heap.size, 1, none⟩ = some (.int .i64 a2) ∧ w'.cell? ⟨w.heap.size + 1, 0, none⟩ = some (.int .i64 b1) ∧ w'.cell? ⟨w.heap.size + 1, 1, none⟩ = some (.int .i64 b2))
    (go_keep)
    (first
      | (go_at_call 43; refine (cmp_any _ _ _).mono ?_; rintro e w' ⟨rfl, rfl⟩)
      | (go_at_call 42; refine (or_any _ _ (cmpI a1 b1) (cmpI a2 b2) (by have := cell_of_block (j := 0) (block_alloc w0 (.cells #[.int .i64 (cmpI a1 b1), .int .i64 (cmpI a2 b2)] 3)); exact this) (by have := cell_of_block (j := 1) (block_alloc w0 (.cells #[.int .i64 (cmpI a1 b1), .int .i64 (cmpI a2 b2)] 3)); exact this) r HR.out).mono ?_; rintro e w' ⟨rfl, rfl⟩))
  all_goals
    go_wp2_with fail
    go_ret
    exact ⟨rfl, (HF.out.trans (Fr.alloc (fun _ => False) _ _) (fun _ _ h => h)).drew⟩

theorem less_iff (a b : Bt) (r : Int) (hr : (cmpI a.1 b.1 ≠ 0 ∧ r = cmpI a.1 b.1) ∨ (cmpI a.1 b.1 = 0 ∧ r = cmpI a.2 b.2)) : decide (r < 0) = less a b := by
  unfold less
  rw [decide_eq_decide]
  have h1 : (cmpI a.1 b.1 = -1 ∧ a.1 < b.1) ∨ (cmpI a.1 b.1 = 1 ∧ b.1 < a.1) ∨ (cmpI a.1 b.1 = 0 ∧ a.1 = b.1) := by unfold cmpI; split <;> (try split) <;> omega
  have h2 : (cmpI a.2 b.2 = -1 ∧ a.2 < b.2) ∨ (cmpI a.2 b.2 = 1 ∧ b.2 < a.2) ∨ (cmpI a.2 b.2 = 0 ∧ a.2 = b.2) := by unfold cmpI; split <;> (try split) <;> omega
  omega

set_option maxRecDepth 100000 in
theorem less_any (w : World) (a b : Bt) :
    Calls Try.prog 9 #[.agg (bcells a), .agg (bcells b)] w fun e w' => e = .returned (.bool (less a b)) ∧ Fr (fun _ => False) w w' := by
  obtain ⟨r, hr⟩ : ∃ r, (cmpI a.1 b.1 ≠ 0 ∧ r = cmpI a.1 b.1) ∨ (cmpI a.1 b.1 = 0 ∧ r = cmpI a.2 b.2) := by
    by_cases h : cmpI a.1 b.1 = 0
    · exact ⟨_, .inr ⟨h, rfl⟩⟩
    · exact ⟨_, .inl ⟨h, rfl⟩⟩
  have hl := less_iff a b r hr
  have hc := fun w => compare_any w a b r hr
  obtain ⟨l, hll⟩ : ∃ l, less a b = l := ⟨_, rfl⟩
  rw [hll] at hl ⊢
  obtain ⟨a1, a2⟩ := a
  obtain ⟨b1, b2⟩ := b
  have hc' : ∀ w, Calls Try.prog 26 #[.agg #[.int .i64 a1, .int .i64 a2], .agg #[.int .i64 b1, .int .i64 b2]] w fun e w' => e = .returned (.int .i64 r) ∧ Fr (fun _ => False) w w' := hc
  have HC := hide hc'
  clear hc hc' hr hll
  show Calls _ _ #[.agg #[.int .i64 a1, .int .i64 a2], .agg #[.int .i64 b1, .int .i64 b2]] w _
  go_enter Try.func9, Try.ntmps9
  go_wp2_with fail
  refine (HC.out _).mono ?_
  rintro e w1 ⟨rfl, hf⟩
  go_wp2_with fail
  go_ret
  exact ⟨rfl, ((Fr.alloc (fun _ => False) _ _).trans (Fr.alloc (fun _ => False) _ _) (fun _ _ h => h)).trans hf (fun _ _ h => h)⟩
end Go.Proofs.Ythekgecaeblbbaa
