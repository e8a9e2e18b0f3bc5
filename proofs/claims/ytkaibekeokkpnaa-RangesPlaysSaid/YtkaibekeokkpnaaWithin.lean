/- conclavebook.Within: a number brought into lo .. hi. -/
import Derived.Test.YtkaibekeokkpnaaRows
import Derived.Test.YtkaibekeokkpnaaKit
import Derived.WalkLawsBesides
import Derived.WalkSpells
import Derived.Outline
namespace Go.Proofs.Ytkaibekeokkpnaa
open Go.RowKit Go.Cv

theorem tmod_neg_fix (n d : Int) (hd : 0 < d) : (n.tmod d < 0 → n.tmod d + d = n % d) ∧ (0 ≤ n.tmod d → n.tmod d = n % d) := by
  have h1 := Int.emod_nonneg n (by omega : d ≠ 0)
  have h2 := Int.emod_lt_of_pos n hd
  have h3 : d ∣ (n.tmod d - n % d) := by
    have e1 := Int.mul_tdiv_add_tmod n d
    have e2 := Int.mul_ediv_add_emod n d
    exact ⟨n / d - n.tdiv d, by rw [Int.mul_sub]; omega⟩
  have h4 := Int.tmod_lt_of_pos n hd
  have h5 : -d < n.tmod d := by
    have := Int.lt_tmod_of_pos n hd
    exact this
  obtain ⟨c, hc⟩ := h3
  constructor
  · intro hn
    have : c = -1 := by
      have a1 : d * c < 0 := by omega
      have a2 : -(2 * d) < d * c := by omega
      have b1 : c < 0 := by
        by_cases hcc : c < 0
        · exact hcc
        · have := Int.mul_nonneg (by omega : 0 ≤ d) (by omega : 0 ≤ c); omega
      have b2 : -2 < c := by
        by_cases hcc : -2 < c
        · exact hcc
        · have := Int.mul_le_mul_of_nonneg_left (by omega : c ≤ -2) (by omega : 0 ≤ d); omega
      omega
    subst this; omega
  · intro hn
    have : c = 0 := by
      have b1 : c < 1 := by
        by_cases hcc : c < 1
        · exact hcc
        · have := Int.mul_le_mul_of_nonneg_left (by omega : 1 ≤ c) (by omega : 0 ≤ d); omega
      have b2 : -1 < c := by
        by_cases hcc : -1 < c
        · exact hcc
        · have := Int.mul_le_mul_of_nonneg_left (by omega : c ≤ -1) (by omega : 0 ≤ d); omega
      omega
    subst this; omega

theorem within_any (w : World) (n lo hi : Int) (h0 : 0 ≤ lo) (h1 : lo ≤ hi) (h2 : hi ≤ 1152921504606846976) :
    Calls Try.prog 9 #[.int .i64 n, .int .i64 lo, .int .i64 hi] w fun e w' => e = .returned (.int .i64 (lo + n % (hi - lo + 1))) ∧ w' = w := by
  have hf := tmod_neg_fix n (hi - lo + 1) (by omega)
  have h4 := Int.tmod_lt_of_pos n (by omega : 0 < hi - lo + 1)
  have h5 : -(hi - lo + 1) < n.tmod (hi - lo + 1) := Int.lt_tmod_of_pos n (by omega)
  have h6 := Int.emod_nonneg n (by omega : hi - lo + 1 ≠ 0)
  have h7 := Int.emod_lt_of_pos n (by omega : 0 < hi - lo + 1)
  obtain ⟨t, ht⟩ : ∃ t, n.tmod (hi - lo + 1) = t := ⟨_, rfl⟩
  obtain ⟨r, hr⟩ : ∃ r, n % (hi - lo + 1) = r := ⟨_, rfl⟩
  rw [hr, ht] at hf
  rw [ht] at h4 h5
  rw [hr] at h6 h7
  rw [hr]
  have hz : (hi - lo + 1 == 0) = false := by rw [beq_eq_false_iff_ne]; omega
  have HF := hide hf
  have HR := hide hr
  clear hf hr
  by_cases ht0 : t < 0
  · go_enter Try.func9, Try.ntmps9
    go_wp2
    go_ret
    exact ⟨ret_int (by have := HF.out.1 ht0; omega), rfl⟩
  · go_enter Try.func9, Try.ntmps9
    go_wp2
    go_ret
    exact ⟨ret_int (by have := HF.out.2 (by omega); omega), rfl⟩
theorem within_ex (w : World) (n lo hi : Int) (h0 : 0 ≤ lo) (h1 : lo ≤ hi) (h2 : hi ≤ 1152921504606846976) :
    Calls Try.prog 9 #[.int .i64 n, .int .i64 lo, .int .i64 hi] w fun e w' => ∃ r, e = .returned (.int .i64 r) ∧ lo ≤ r ∧ r ≤ hi ∧ w = w' :=
  (within_any w n lo hi h0 h1 h2).mono fun _ _ ⟨h, hw⟩ => ⟨_, h, by have := Int.emod_nonneg n (by omega : hi - lo + 1 ≠ 0); omega, by have := Int.emod_lt_of_pos n (by omega : 0 < hi - lo + 1); omega, hw.symm⟩
end Go.Proofs.Ytkaibekeokkpnaa
