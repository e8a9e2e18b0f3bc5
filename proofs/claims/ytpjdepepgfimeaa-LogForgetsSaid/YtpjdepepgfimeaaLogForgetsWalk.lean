/- LogForgets's walk. -/
import Derived.Test.YtpjdepepgfimeaaKnownLog
import Derived.Test.YtpjdepepgfimeaaLogMore
import Derived.Test.YtpjdepepgfimeaaWithin
import Derived.Test.YtpjdepepgfimeaaOpen
namespace Go.Proofs.Ytpjdepepgfimeaa.LogForgets
open Go.RowKit Go.Maps Go.Cv

def ff (k : Int) : Int → Option ByteArray := fun i => if 0 ≤ i ∧ i < k then some (Utf8.encode (65 + i)) else none
theorem ff_zero : ff 0 = fun _ => none := by funext i; unfold ff; rw [if_neg (by omega)]
theorem ff_succ {k : Int} (h : 0 ≤ k) : fput (ff k) k (Utf8.encode (65 + k)) = ff (k + 1) := by
  funext i
  unfold fput ff
  by_cases e : i = k
  · subst e; rw [if_pos rfl, if_pos (by omega)]
  · rw [if_neg e]
    by_cases h2 : 0 ≤ i ∧ i < k
    · rw [if_pos h2, if_pos (by omega)]
    · rw [if_neg h2, if_neg (by omega)]
theorem ff_no {k : Int} : ff k k = none := by unfold ff; rw [if_neg (by omega)]
theorem ff_next {k : Int} (h : 0 ≤ k) : IsNext (ff k) 0 k := ⟨h, fun s h1 h2 => ⟨_, by unfold ff; rw [if_pos ⟨h1, h2⟩]⟩, ff_no⟩
theorem fd_at (N c s : Int) (h0 : 0 ≤ s) (h1 : s < N) : fdel (ff N) c s = if s < c then none else some (Utf8.encode (65 + s)) := by
  unfold fdel ff
  split
  · rfl
  · rw [if_pos ⟨h0, h1⟩]
def fn (N c : Int) : Int → Option ByteArray := fput (fdel (ff N) c) N ⟨#[110, 101, 120, 116]⟩
theorem fn_next {N c : Int} (h0 : 0 ≤ c) (h1 : c ≤ N) : IsNext (fn N c) c (N + 1) := by
  refine ⟨by omega, fun s h2 h3 => ?_, ?_⟩
  · unfold fn fput
    by_cases e : s = N
    · exact ⟨_, if_pos e⟩
    · rw [if_neg e, fd_at N c s (by omega) (by omega), if_neg (by omega)]; exact ⟨_, rfl⟩
  · unfold fn fput fdel ff
    rw [if_neg (by omega)]
    split
    · rfl
    · rw [if_neg (by omega)]
theorem fn_vals (N c : Int) : vals (fn N c) N 1 = ([⟨#[110, 101, 120, 116]⟩] : List ByteArray).map .string := by
  simp [vals, List.range_succ, fn, fput]

set_option maxRecDepth 100000 in
set_option maxHeartbeats 1000000 in
theorem walk (w : World) (a0 : Int) (_ : (Lit.int .i64 a0).wf = true) (a1 : Int) (_ : (Lit.int .i64 a1).wf = true) (v2 : Value) (zs : List Int) (h2 : Reads w v2 zs.length 1 (zs.flatMap fun z => [.int .i64 z])) (_ : ∀ x ∈ zs, (Lit.int .i64 x).wf = true) (_ : zs.length ≤ maxLen) :
    Calls Try.prog 5 #[.int .i64 a0, .int .i64 a1, v2] w fun e w' => e = .returned (.bool true) ∧ Below w.heap.size w w' := by
  rw [flat_one] at h2
  obtain ⟨n2, hn2⟩ : ∃ n, zs.length = n := ⟨_, rfl⟩
  rw [hn2] at h2
  obtain ⟨hz2, a2, c2, rfl, -, -, hc2⟩ := h2
  rw [List.length_map] at hz2
  have HC2 := hide hc2
  have HZ2 := hide hz2
  clear hc2 hz2 hn2
  go_enter Try.func5, Try.ntmps5
  go_wp2_with fail
  refine (new_any _).mono ?_
  rintro e w1 ⟨lb, bm, rfl, hb1, hb2, hl1, hf1⟩
  have hs1 : w.heap.size ≤ w1.heap.size := hf1.size
  have hlb := lt_of_block hl1.blk
  have hbm := hl1.map.lt
  rw [← ff_zero] at hl1
  have HF1 := hide hf1
  have HL1 := hide hl1
  clear hf1 hl1
  go_wp2_with fail
  refine (within_ex _ a0 0 30 (by omega) (by omega) (by omega)).mono ?_
  rintro e w' ⟨N, rfl, hN0, hN1, rfl⟩
  go_wp2_with fail
  go_loopw [8] (fun i wr => ∃ k : Nat, i = .int .i64 k ∧ (k : Int) ≤ N ∧ Lg wr lb bm k (ff k) 0 0 ∧ Fr (fun j => w.heap.size ≤ j) w wr ∧ w1.heap.size ≤ wr.heap.size) (fun i _ => (N - intOf i).toNat)
  case atStart => exact ⟨0, rfl, hN0, HL1.out, HF1.out.mono (fun _ _ h => h.elim), Nat.le_refl _⟩
  case round =>
    obtain ⟨k, rfl, hk, hl, hfr, hsz⟩ := hrel
    have HL := hide hl
    have HF := hide hfr
    clear hl hfr
    by_cases hlt : (k : Int) < N
    · go_wp2_with fail
      refine (learn_new _ lb bm k _ 0 0 HL.out (by unfold maxLen; omega) k _ (by omega) (by omega) (by omega) ff_no).mono ?_
      rintro e w2 ⟨rfl, hl2, hf2⟩
      rw [ff_succ (by omega)] at hl2
      have HL2 := hide hl2
      have HF2 := hide hf2
      clear hl2 hf2
      go_wp2_with fail
      go_roundw
      case rel => exact ⟨k + 1, by go_num, by omega, HL2.out, HF.out.trans HF2.out (fun j _ hj => by omega), by have := HF2.out.size; omega⟩
      case measure => simp [intOf]; omega
    · obtain ⟨Nn, rfl⟩ : ∃ n : Nat, N = n := ⟨N.toNat, by omega⟩
      obtain rfl : k = Nn := by omega
      obtain ⟨wo, rfl⟩ : ∃ wo : World, wo = wr := ⟨_, rfl⟩
      go_wp2_with fail
      refine (within_ex _ a1 0 k (by omega) (by omega) (by omega)).mono ?_
      rintro e w' ⟨c, rfl, hc0, hc1, rfl⟩
      go_wp2_with fail
      refine (take_any _ lb bm k (ff k) 0 0 k HL.out (by omega) (by omega) (by rw [Int.zero_add]; exact ff_next (by omega)) (by omega)).mono ?_
      rintro e w3 ⟨v3, rfl, ho3, hl3, hf3⟩
      obtain ⟨-, a3, c3, rfl, -, -, -⟩ := Reads.of_own ho3
      rw [Int.zero_add] at hl3
      have HL3 := hide hl3
      have HF3 := hide hf3
      clear ho3 hl3 hf3
      go_wp2_with fail
      refine (compact_yes _ lb bm k (ff k) 0 k HL3.out c hc0 (by omega) (by omega) hc1).mono ?_
      rintro e w4 ⟨rfl, hl4, hf4⟩
      have HL4 := hide hl4
      have HF4 := hide hf4
      clear hl4 hf4
      go_wp2_with fail
      refine (base_any _ lb bm k _ c k HL4.out).mono ?_
      rintro e w' ⟨rfl, rfl⟩
      go_wp2_with fail
      refine (taken_any _ lb bm k _ c k HL4.out).mono ?_
      rintro e w' ⟨rfl, rfl⟩
      go_wp2_with fail
      go_loop [10] (fun i => ∃ s : Nat, i = .int .i64 s ∧ s ≤ k) (fun i => k - (intOf i).toNat)
      case atStart => exact ⟨0, rfl, by omega⟩
      case round =>
        obtain ⟨s, rfl, hs⟩ := hrel
        by_cases hlt2 : s < k
        · have hget := get_any _ lb bm k _ c k HL4.out s (by omega) (by omega)
          rw [fd_at k c s (by omega) (by omega)] at hget
          by_cases hsc : (s : Int) < c
          · rw [if_pos hsc] at hget
            have HGET := hide hget
            clear hget
            go_wp2_with fail
            refine HGET.out.mono ?_
            rintro e w' ⟨rfl, rfl⟩
            go_wp2_with fail
            go_round
            case rel => exact ⟨s + 1, by go_num, by omega⟩
            case measure => simp [intOf]; omega
          · rw [if_neg hsc] at hget
            have HGET := hide hget
            clear hget
            go_wp2_with fail
            refine HGET.out.mono ?_
            rintro e w' ⟨rfl, rfl⟩
            go_wp2_with fail
            go_round
            case rel => exact ⟨s + 1, by go_num, by omega⟩
            case measure => simp [intOf]; omega
        · obtain rfl : s = k := by omega
          go_wp2_with fail
          go_loop [13] (fun i => ∃ k3 : Nat, i = .int .i64 k3 ∧ k3 ≤ 20) (fun i => 20 - (intOf i).toNat)
          case atStart => exact ⟨0, rfl, by omega⟩
          case round =>
            obtain ⟨k3, rfl, hk3⟩ := hrel
            by_cases hgo : k3 < n2 ∧ k3 < 20
            · obtain ⟨hg1, hg2⟩ := hgo
              by_cases hcp : 0 < c
              · obtain ⟨z, hz⟩ : ∃ z, zs[k3]? = some z := ⟨_, List.getElem?_eq_getElem (by have := HZ2.out; omega)⟩
                obtain ⟨b0, o0, rfl, e0⟩ := HC2.out k3 (.int .i64 z) (by rw [List.getElem?_map, hz]; rfl)
                have hbl := World.block_lt_of_cell? w _ e0
                have e0' : w4.cell? ⟨b0, o0 + k3, none⟩ = some (.int .i64 z) := by
                  have hfa : Fr (fun j => w.heap.size ≤ j) w w4 := (HF.out.trans HF3.out (fun j _ hj => by omega)).trans HF4.out (fun j _ hj => by omega)
                  rw [World.cell?_of_block (w := w) (hfa.block b0 hbl (by simp at hbl ⊢; omega))]; exact e0
                clear e0 hz
                have ik0 : (0 : Int) ≤ (k3 : Int) := by omega
                have ik1 : (k3 : Int) < (n2 : Int) := by omega
                go_wp2_with fail
                refine (within_ex _ z 0 _ (by omega) (by omega) (by omega)).mono ?_
                rintro e w' ⟨s3, rfl, hs30, hs31, rfl⟩
                go_wp2_with fail
                refine (learn_old _ lb bm s _ c s HL4.out s3 _ 0 (by omega) (by omega) (.inr (.inl ⟨by omega, by omega, by omega, rfl⟩))).mono ?_
                rintro e w' ⟨rfl, rfl⟩
                go_wp2_with fail
                go_round
                case rel => exact ⟨k3 + 1, by go_num, by omega⟩
                case measure => simp [intOf]; omega
              · have hcd : decide (0 < c) = false := by simpa using hcp
                go_wp2_with fail
                go_round
                case rel => exact ⟨k3 + 1, by go_num, by omega⟩
                case measure => simp [intOf]; omega
            · have hex : n2 ≤ k3 ∨ (k3 < n2 ∧ 20 ≤ k3) := by omega
              clear hgo
              rcases hex with hx | ⟨hx, hx2⟩
              all_goals
                go_wp2_with fail
                refine (learn_new _ lb bm s _ c s HL4.out (by unfold maxLen; omega) s ⟨#[110, 101, 120, 116]⟩ (by omega) (by omega) (by omega) (by unfold fdel; split; rfl; exact ff_no)).mono ?_
                rintro e w5 ⟨rfl, hl5, hf5⟩
                have HL5 := hide hl5
                have HF5 := hide hf5
                clear hl5 hf5
                go_wp2_with fail
                refine (take_any _ lb bm (s + 1) (fn s c) c s 1 HL5.out (by omega) (by omega) (fn_next hc0 (by omega)) (by omega)).mono ?_
                rintro e w6 ⟨v6, rfl, ho6, hl6, hf6⟩
                rw [fn_vals] at ho6
                have HO6 := hide ho6
                have HL6 := hide hl6
                have HF6 := hide hf6
                clear ho6 hl6 hf6
                go_wp2_with fail
                have hr6 : Reads (w6.alloc (.cells #[.string ⟨#[110, 101, 120, 116]⟩] 9)) v6 1 1 (([⟨#[110, 101, 120, 116]⟩] : List ByteArray).map .string) := Reads.of_own (HO6.out.alloc _)
                have HR6 := hide hr6
                clear hr6
                refine (texts_any _ v6 _ [⟨#[110, 101, 120, 116]⟩] [⟨#[110, 101, 120, 116]⟩] HR6.out (Reads.built w6 [.string ⟨#[110, 101, 120, 116]⟩] 9) (by simp)).mono ?_
                rintro e w9 ⟨rfl, m9, hw9⟩
                have hf9 : Fr (fun _ => False) w6 w9 := hw9 ▸ (Fr.alloc _ _ _).drewN _
                have HF9 := hide hf9
                clear hw9 hf9
                go_wp2_with fail
                refine (next_any _ lb bm (s + 1) (fn s c) c _ (s + 1) (HL6.out.fr HF9.out id id) (by omega) (fn_next hc0 (by omega)) (by omega)).mono ?_
                rintro e w' ⟨rfl, rfl⟩
                go_wp2_with fail
                refine (known_any _).mono ?_
                rintro e w10 ⟨rfl, hf10⟩
                go_wp2_with fail
                go_ret
                refine ⟨rfl, ?_⟩
                exact (((((((HF.out.step HF3.out).step HF4.out).step HF5.out).step HF6.out).step HF9.out).step hf10)).toBelow (Nat.le_refl _) (fun j hj h => by simp only [or_false] at h; omega)
end Go.Proofs.Ytpjdepepgfimeaa.LogForgets
