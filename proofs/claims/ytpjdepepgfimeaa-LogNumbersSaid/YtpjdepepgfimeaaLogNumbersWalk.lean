/- LogNumbers's walk. -/
import Derived.Test.YtpjdepepgfimeaaKnownLog
import Derived.Test.YtpjdepepgfimeaaLogMore
import Derived.Test.YtpjdepepgfimeaaSameInt
namespace Go.Proofs.Ytpjdepepgfimeaa.LogNumbers
open Go.RowKit Go.Maps Go.Cv

def g1 : Int → Option ByteArray := fput (fun _ => none) 1 ⟨#[121]⟩
def g2 : Int → Option ByteArray := fdel g1 2
def g3 : Int → Option ByteArray := fput g2 2 ⟨#[122]⟩
theorem nx1 : IsNext g1 0 0 := ⟨by omega, fun s h1 h2 => by omega, by simp [g1, fput]⟩
theorem nx2 : IsNext g2 2 2 := ⟨by omega, fun s h1 h2 => by omega, by simp [g2, g1, fdel, fput]⟩
theorem nx3 : IsNext g3 2 (2 + (1 : Nat)) := ⟨by omega, fun s h1 h2 => by
  obtain rfl : s = 2 := by omega
  exact ⟨⟨#[122]⟩, by simp [g3, fput]⟩, by simp [g3, g2, g1, fdel, fput]⟩
theorem gp : gaps g1 0 3 = [0, 2] := by simp [gaps, List.range_succ, g1, fput]
theorem vl : vals g3 2 1 = ([⟨#[122]⟩] : List ByteArray).map .string := by simp [vals, List.range_succ, g3, fput]

set_option maxRecDepth 100000 in
set_option maxHeartbeats 1000000 in
theorem walk (w : World) : Calls Try.prog 6 #[] w fun e w' => e = .returned (.bool true) ∧ Below w.heap.size w w' := by
  go_enter Try.func6, Try.ntmps6
  go_wp2_with fail
  refine (new_any _).mono ?_
  rintro e w1 ⟨lb, bm, rfl, hb1, hb2, hl1, hf1⟩
  have HF1 := hide hf1
  have hlb := lt_of_block hl1.blk
  have hbm := hl1.map.lt
  clear hf1
  go_wp2_with fail
  refine (learn_old _ lb bm 0 _ 0 0 hl1 (-1) ⟨#[120]⟩ 1 (by omega) (by omega) (.inl ⟨.inl (by omega), rfl⟩)).mono ?_
  rintro e w' ⟨rfl, rfl⟩
  go_wp2_with fail
  refine (learn_old _ lb bm 0 _ 0 0 hl1 512 ⟨#[120]⟩ 1 (by omega) (by omega) (.inl ⟨.inr (by omega), rfl⟩)).mono ?_
  rintro e w' ⟨rfl, rfl⟩
  go_wp2_with fail
  refine (learn_new _ lb bm 0 _ 0 0 hl1 (by unfold maxLen; omega) 1 ⟨#[121]⟩ (by omega) (by omega) (by omega) rfl).mono ?_
  rintro e w2 ⟨rfl, hl2, hf2⟩
  have hs2 := hf2.size
  have HF2 := hide hf2
  clear hf2 hl1
  go_wp2_with fail
  refine (gaps_any _ lb bm 1 g1 0 0 0 hl2 (by omega) nx1 (by omega) 3 3 (by omega)).mono ?_
  rintro e w3 ⟨v3, rfl, ho3, hl3, hf3⟩
  rw [gp] at ho3
  have HO3 := hide ho3
  have hs3 := hf3.size
  have HF3 := hide hf3
  clear ho3 hf3 hl2
  go_wp2_with fail
  refine (compact_no _ lb bm 1 g1 0 0 hl3 1 (by omega)).mono ?_
  rintro e w' ⟨rfl, rfl⟩
  go_wp2_with fail
  refine (jump_no _ lb bm 1 g1 0 0 hl3 513 1 (.inl ⟨.inr (by omega), rfl⟩)).mono ?_
  rintro e w' ⟨rfl, rfl⟩
  go_wp2_with fail
  refine (jump_yes _ lb bm 1 g1 0 0 hl3 2 (by omega) (by omega) (by omega)).mono ?_
  rintro e w4 ⟨rfl, hl4, hf4⟩
  have hs4 := hf4.size
  have HF4 := hide hf4
  clear hf4 hl3
  go_wp2_with fail
  refine (learn_old _ lb bm 1 g2 2 2 hl4 1 ⟨#[111, 116, 104, 101, 114]⟩ 0 (by omega) (by omega) (.inr (.inl ⟨by omega, by omega, by omega, rfl⟩))).mono ?_
  rintro e w' ⟨rfl, rfl⟩
  go_wp2_with fail
  refine (next_any _ lb bm 1 g2 2 2 2 hl4 (by omega) nx2 (by omega)).mono ?_
  rintro e w' ⟨rfl, rfl⟩
  go_wp2_with fail
  refine (get_any _ lb bm 1 g2 2 2 hl4 1 (by omega) (by omega)).mono ?_
  rintro e w' ⟨rfl, rfl⟩
  rw [show g2 1 = none from by simp [g2, fdel]]
  go_wp2_with fail
  refine (learn_new _ lb bm 1 g2 2 2 hl4 (by unfold maxLen; omega) 2 ⟨#[122]⟩ (by omega) (by omega) (by omega) (by simp [g2, g1, fdel, fput])).mono ?_
  rintro e w5 ⟨rfl, hl5, hf5⟩
  have hs5 := hf5.size
  have HF5 := hide hf5
  clear hf5 hl4
  go_wp2_with fail
  refine (take_any _ lb bm 2 g3 2 2 1 hl5 (by omega) (by omega) nx3 (by omega)).mono ?_
  rintro e w6 ⟨v6, rfl, ho6, hl6, hf6⟩
  rw [vl] at ho6
  have HO6 := hide ho6
  have HF6 := hide hf6
  clear ho6 hf6 hl5
  go_wp2_with fail
  refine (compact_yes _ lb bm 2 g3 2 _ hl6 3 (by omega) (by omega) (by omega) (by omega)).mono ?_
  rintro e w7 ⟨rfl, hl7, hf7⟩
  have HF7 := hide hf7
  clear hf7 hl6
  go_wp2_with fail
  refine (compact_no _ lb bm 2 _ 3 _ hl7 2 (by omega)).mono ?_
  rintro e w' ⟨rfl, rfl⟩
  go_wp2_with fail
  have HL7 := hide hl7
  clear hl7
  have hf37 : Fr (fun j => j = lb ∨ j = bm) w3 w7 := (((HF4.out.trans HF5.out (fun j _ h => Or.inr h)).trans HF6.out (fun j _ h => Or.inl h)).trans HF7.out (fun j _ h => h))
  have HF37 := hide hf37
  clear hf37
  have hr3 : Reads (w7.alloc (.cells #[.int .i64 0, .int .i64 2] 3)) v3 2 1 (([0, 2] : List Int).map (.int .i64)) :=
    Reads.of_own ((ownsRow_fr HO3.out HF37.out (fun k hk => by have := (HO3.out.lt k hk).1; omega)).alloc _)
  have HR3 := hide hr3
  clear hr3
  refine (same_any _ v3 _ [0, 2] [0, 2] HR3.out (Reads.built w7 [.int .i64 0, .int .i64 2] 3) (by simp)).mono ?_
  rintro e w8 ⟨rfl, m8, hw8⟩
  have hf8 : Fr (fun _ => False) w7 w8 := hw8 ▸ (Fr.alloc _ _ _).drewN _
  have HF8 := hide hf8
  clear hw8 hf8
  go_wp2_with fail
  have hr6 : Reads (w8.alloc (.cells #[.string ⟨#[122]⟩] 9)) v6 1 1 (([⟨#[122]⟩] : List ByteArray).map .string) :=
    Reads.of_own ((ownsRow_fr (ownsRow_fr HO6.out HF7.out (fun k hk => by have := (HO6.out.lt k hk).1; omega)) HF8.out (fun k hk => id)).alloc _)
  have HR6 := hide hr6
  clear hr6
  refine (texts_any _ v6 _ [⟨#[122]⟩] [⟨#[122]⟩] HR6.out (Reads.built w8 [.string ⟨#[122]⟩] 9) (by simp)).mono ?_
  rintro e w9 ⟨rfl, m9, hw9⟩
  have hf9 : Fr (fun _ => False) w8 w9 := hw9 ▸ (Fr.alloc _ _ _).drewN _
  have HF9 := hide hf9
  clear hw9 hf9
  have hl9 : Lg w9 lb bm 2 (fdel g3 3) 3 (2 + (1 : Nat)) := (HL7.out.fr HF8.out id id).fr HF9.out id id
  have HL9 := hide hl9
  clear hl9
  go_wp2_with fail
  refine (base_any _ lb bm 2 _ 3 _ HL9.out).mono ?_
  rintro e w' ⟨rfl, rfl⟩
  go_wp2_with fail
  refine (taken_any _ lb bm 2 _ 3 _ HL9.out).mono ?_
  rintro e w' ⟨rfl, rfl⟩
  go_wp2_with fail
  refine (known_any _).mono ?_
  rintro e w10 ⟨rfl, hf10⟩
  go_wp2_with fail
  go_ret
  refine ⟨rfl, ?_⟩
  exact ((((((HF1.out.step HF2.out).step HF3.out).step HF37.out).step HF8.out).step HF9.out).step hf10).toBelow (Nat.le_refl _) (fun j hj h => by simp only [or_false, false_or] at h; omega)
end Go.Proofs.Ytpjdepepgfimeaa.LogNumbers
