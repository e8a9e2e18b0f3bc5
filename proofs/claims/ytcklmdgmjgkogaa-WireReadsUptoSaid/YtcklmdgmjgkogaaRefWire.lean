/- The document's own bytes: conclaveref1. -/
import Derived.Test.YtcklmdgmjgkogaaWireR
namespace Go.Proofs.Ytcklmdgmjgkogaa
open Go.RowKit Go.Maps Go.Cv
set_option linter.unusedVariables false

theorem u8_shr (n : Int) (j : Nat) (hj : j ≤ 7) : IntKind.u8.wrap (n / 2 ^ (8 * j)) = ((UInt8.ofNat (u64 n >>> (8 * j))).toNat : Int) := by
  have h : IntKind.u8.wrap (n / 2 ^ (8 * j)) = (n / 2 ^ (8 * j)) % 256 := by simp [IntKind.wrap, IntKind.signed, IntKind.bits]
  rw [h, UInt8.toNat_ofNat', Nat.shiftRight_eq_div_pow]
  unfold u64
  have : j = 0 ∨ j = 1 ∨ j = 2 ∨ j = 3 ∨ j = 4 ∨ j = 5 ∨ j = 6 ∨ j = 7 := by omega
  rcases this with rfl | rfl | rfl | rfl | rfl | rfl | rfl | rfl <;> simp only [Nat.reduceMul, Nat.reducePow, Int.reducePow] <;> omega

theorem u8_shr0 (n : Int) : ((UInt8.ofNat (u64 n >>> (8 * 0))).toNat : Int) = n % 256 := by
  rw [← u8_shr n 0 (by omega)]; simp [IntKind.wrap, IntKind.signed, IntKind.bits]
theorem u8_shr1 (n : Int) : ((UInt8.ofNat (u64 n >>> (8 * 1))).toNat : Int) = n / 256 % 256 := by
  rw [← u8_shr n 1 (by omega)]; simp [IntKind.wrap, IntKind.signed, IntKind.bits]
theorem u8_shr2 (n : Int) : ((UInt8.ofNat (u64 n >>> (8 * 2))).toNat : Int) = n / 65536 % 256 := by
  rw [← u8_shr n 2 (by omega)]; simp [IntKind.wrap, IntKind.signed, IntKind.bits]
theorem u8_shr3 (n : Int) : ((UInt8.ofNat (u64 n >>> (8 * 3))).toNat : Int) = n / 16777216 % 256 := by
  rw [← u8_shr n 3 (by omega)]; simp [IntKind.wrap, IntKind.signed, IntKind.bits]

set_option maxRecDepth 100000 in
set_option maxHeartbeats 800000 in
theorem refByte_any (w : World) (v : Value) (xs : List UInt8) (h : Reads w v xs.length 1 (bc xs)) (n : Int) (hx : xs.length ≤ 140737488355000) :
    Calls Try.prog 42 #[v, .int .i64 n] w fun e w' => ∃ v', e = .returned v' ∧ w'.ownsRow w.heap.size 5 1 v' (xs.length + 1) (bc (xs ++ beN (u64 n) 1)) ∧ Fr (fun _ => False) w w' := by
  obtain ⟨i0, hi0, hz0, hz1, hz2⟩ := info_parts info5
  have hown0 : (w.alloc (.cells #[] 5)).ownsRow w.heap.size 5 1 (.slice (some ⟨w.heap.size, 0, none⟩) 0 0) 0 [] :=
    World.ownsRow_made w #[] 0 (Nat.le_refl _) (by unfold maxLen; omega) rfl
  have HO0 := hide hown0
  have hr0 : Reads (w.alloc (.cells #[] 5)) v xs.length 1 (bc xs) := h.fr (Fr.alloc (fun _ => False) w (.cells #[] 5)) (fun _ _ _ _ h => h)
  obtain ⟨m, hm⟩ : ∃ m, xs.length = m := ⟨_, rfl⟩
  rw [hm] at hr0 hx ⊢
  have HR0 := hide hr0
  have hone := bc_one xs
  have h1 : 0 + m ≤ maxLen := by unfold maxLen; omega
  have h2 : (0 + m) * 1 ≤ 140737488355328 := by omega
  have h3 : w.heap.size ≤ (w.alloc (.cells #[] 5)).heap.size := by simp
  have h4 : m + 1 ≤ maxLen := by unfold maxLen; omega
  have h5 : (m + 1) * 1 ≤ 140737488355328 := by omega
  have hone1 : ∀ u ∈ [Value.int .u8 (n % 256)], u.oneCell' = true := by simp [Value.oneCell']
  have HM := hide hm
  clear hown0 hr0 h hm
  go_enter Try.func42, Try.ntmps42
  go_wp2_with (at_builtin; first | (refine wpList_append_reads _ rfl _ _ _ rfl w.heap.size 5 i0 _ 1 1 Try.underlying22 hi0 hz0 hz1 hz2 rfl (by decide) _ m _ rfl (HO1.out.alloc _) _ 1 [.int .u8 (n % 256)] rfl (Reads.built w1 _ 5) hone1 h4 h5 h6 ?_; intro v2 w2 hown2 hgrow2 hat2; have HO2 := hide hown2; have HG2 := hide hgrow2; clear hown2 hgrow2 hat2) | (refine wpList_append_reads _ rfl _ _ _ rfl w.heap.size 5 i0 _ 1 1 Try.underlying22 hi0 hz0 hz1 hz2 rfl (by decide) _ 0 [] rfl HO0.out _ m _ rfl HR0.out hone h1 h2 h3 ?_; intro v1 w1 hown1 hgrow1 hat1; rw [Nat.zero_add, List.nil_append] at hown1; obtain ⟨a1, k1, rfl⟩ := own_shape hown1; have h6 : w.heap.size ≤ (w1.alloc (.cells #[.int .u8 (n % 256)] 5)).heap.size := by have := hgrow1.size; simp at this ⊢; omega); have HO1 := hide hown1; have HG1 := hide hgrow1; clear hown1 hgrow1 hat1)
  go_ret
  refine ⟨v2, rfl, ?_, ?_⟩
  · have e : bc (xs ++ beN (u64 n) 1) = bc xs ++ [.int .u8 (n % 256)] := by
      rw [bc_append]; simp only [bc, beN, List.map_cons, List.map_nil, u8_shr0 n]
    rw [e]; exact HO2.out
  · have hg1 := HG1.out
    have hg2 := HG2.out
    refine (((Fr.alloc (fun k => w.heap.size ≤ k) w _).trans (Fr.grown (S := fun k => w.heap.size ≤ k) hg1 (fun k hk => by cases hk; exact Nat.le_refl _)) (fun _ _ h => h)).trans ((Fr.alloc (fun k => w.heap.size ≤ k) w1 _).trans (Fr.grown (S := fun k => w.heap.size ≤ k) hg2 (fun k hk => (HO1.out.lt k hk).1)) (fun _ _ h => h)) (fun _ _ h => h)).fresh (fun _ h => h)
set_option maxRecDepth 100000 in
set_option maxHeartbeats 800000 in
theorem refFour_any (w : World) (v : Value) (xs : List UInt8) (h : Reads w v xs.length 1 (bc xs)) (n : Int) (hx : xs.length ≤ 140737488355000) :
    Calls Try.prog 40 #[v, .int .i64 n] w fun e w' => ∃ v', e = .returned v' ∧ w'.ownsRow w.heap.size 5 1 v' (xs.length + 4) (bc (xs ++ beN (u64 n) 4)) ∧ Fr (fun _ => False) w w' := by
  obtain ⟨i0, hi0, hz0, hz1, hz2⟩ := info_parts info5
  have hown0 : (w.alloc (.cells #[] 5)).ownsRow w.heap.size 5 1 (.slice (some ⟨w.heap.size, 0, none⟩) 0 0) 0 [] :=
    World.ownsRow_made w #[] 0 (Nat.le_refl _) (by unfold maxLen; omega) rfl
  have HO0 := hide hown0
  have hr0 : Reads (w.alloc (.cells #[] 5)) v xs.length 1 (bc xs) := h.fr (Fr.alloc (fun _ => False) w (.cells #[] 5)) (fun _ _ _ _ h => h)
  obtain ⟨m, hm⟩ : ∃ m, xs.length = m := ⟨_, rfl⟩
  rw [hm] at hr0 hx ⊢
  have HR0 := hide hr0
  have hone := bc_one xs
  have h1 : 0 + m ≤ maxLen := by unfold maxLen; omega
  have h2 : (0 + m) * 1 ≤ 140737488355328 := by omega
  have h3 : w.heap.size ≤ (w.alloc (.cells #[] 5)).heap.size := by simp
  have h4 : m + 4 ≤ maxLen := by unfold maxLen; omega
  have h5 : (m + 4) * 1 ≤ 140737488355328 := by omega
  have hone1 : ∀ u ∈ [Value.int .u8 (n / 16777216 % 256), .int .u8 (n / 65536 % 256), .int .u8 (n / 256 % 256), .int .u8 (n % 256)], u.oneCell' = true := by simp [Value.oneCell']
  have HM := hide hm
  clear hown0 hr0 h hm
  go_enter Try.func40, Try.ntmps40
  go_wp2_with (at_builtin; first | (refine wpList_append_reads _ rfl _ _ _ rfl w.heap.size 5 i0 _ 1 1 Try.underlying22 hi0 hz0 hz1 hz2 rfl (by decide) _ m _ rfl (HO1.out.alloc _) _ 4 [.int .u8 (n / 16777216 % 256), .int .u8 (n / 65536 % 256), .int .u8 (n / 256 % 256), .int .u8 (n % 256)] rfl (Reads.built w1 _ 5) hone1 h4 h5 h6 ?_; intro v2 w2 hown2 hgrow2 hat2; have HO2 := hide hown2; have HG2 := hide hgrow2; clear hown2 hgrow2 hat2) | (refine wpList_append_reads _ rfl _ _ _ rfl w.heap.size 5 i0 _ 1 1 Try.underlying22 hi0 hz0 hz1 hz2 rfl (by decide) _ 0 [] rfl HO0.out _ m _ rfl HR0.out hone h1 h2 h3 ?_; intro v1 w1 hown1 hgrow1 hat1; rw [Nat.zero_add, List.nil_append] at hown1; obtain ⟨a1, k1, rfl⟩ := own_shape hown1; have h6 : w.heap.size ≤ (w1.alloc (.cells #[.int .u8 (n / 16777216 % 256), .int .u8 (n / 65536 % 256), .int .u8 (n / 256 % 256), .int .u8 (n % 256)] 5)).heap.size := by have := hgrow1.size; simp at this ⊢; omega); have HO1 := hide hown1; have HG1 := hide hgrow1; clear hown1 hgrow1 hat1)
  go_ret
  refine ⟨v2, rfl, ?_, ?_⟩
  · have e : bc (xs ++ beN (u64 n) 4) = bc xs ++ [.int .u8 (n / 16777216 % 256), .int .u8 (n / 65536 % 256), .int .u8 (n / 256 % 256), .int .u8 (n % 256)] := by
      rw [bc_append]; simp only [bc, beN, List.map_cons, List.map_nil, u8_shr0 n, u8_shr1 n, u8_shr2 n, u8_shr3 n]
    rw [e]; exact HO2.out
  · have hg1 := HG1.out
    have hg2 := HG2.out
    refine (((Fr.alloc (fun k => w.heap.size ≤ k) w _).trans (Fr.grown (S := fun k => w.heap.size ≤ k) hg1 (fun k hk => by cases hk; exact Nat.le_refl _)) (fun _ _ h => h)).trans ((Fr.alloc (fun k => w.heap.size ≤ k) w1 _).trans (Fr.grown (S := fun k => w.heap.size ≤ k) hg2 (fun k hk => (HO1.out.lt k hk).1)) (fun _ _ h => h)) (fun _ _ h => h)).fresh (fun _ h => h)

set_option maxRecDepth 100000 in
set_option maxHeartbeats 800000 in
theorem refEight_any (w : World) (v : Value) (xs : List UInt8) (h : Reads w v xs.length 1 (bc xs)) (n : Int) (hx : xs.length ≤ 140737488355000) :
    Calls Try.prog 43 #[v, .int .i64 n] w fun e w' => ∃ v', e = .returned v' ∧ w'.ownsRow w.heap.size 5 1 v' (xs.length + 8) (bc (xs ++ beN (u64 n) 8)) ∧ Fr (fun _ => False) w w' := by
  obtain ⟨i0, hi0, hz0, hz1, hz2⟩ := info_parts info5
  have hown0 : (w.alloc (.cells #[] 5)).ownsRow w.heap.size 5 1 (.slice (some ⟨w.heap.size, 0, none⟩) 0 0) 0 [] :=
    World.ownsRow_made w #[] 0 (Nat.le_refl _) (by unfold maxLen; omega) rfl
  have HO0 := hide hown0
  have hr0 : Reads (w.alloc (.cells #[] 5)) v xs.length 1 (bc xs) := h.fr (Fr.alloc (fun _ => False) w (.cells #[] 5)) (fun _ _ _ _ h => h)
  obtain ⟨m, hm⟩ : ∃ m, xs.length = m := ⟨_, rfl⟩
  rw [hm] at hr0 hx ⊢
  have HR0 := hide hr0
  have hone := bc_one xs
  have h1 : 0 + m ≤ maxLen := by unfold maxLen; omega
  have h2 : (0 + m) * 1 ≤ 140737488355328 := by omega
  have h3 : w.heap.size ≤ (w.alloc (.cells #[] 5)).heap.size := by simp
  have HM := hide hm
  clear hown0 hr0 h hm
  go_enter Try.func43, Try.ntmps43
  go_wp2_with (at_builtin; refine wpList_append_reads _ rfl _ _ _ rfl w.heap.size 5 i0 _ 1 1 Try.underlying22 hi0 hz0 hz1 hz2 rfl (by decide) _ 0 [] rfl HO0.out _ m _ rfl HR0.out hone h1 h2 h3 ?_; intro v1 w1 hown1 hgrow1 hat1; rw [Nat.zero_add, List.nil_append] at hown1; have hfr1 : Fr (fun k => w.heap.size ≤ k) w w1 := (Fr.alloc (fun k => w.heap.size ≤ k) w _).trans (Fr.grown (S := fun k => w.heap.size ≤ k) hgrow1 (fun k hk => by cases hk; exact Nat.le_refl _)) (fun _ _ h => h); have HO1 := hide hown1; have HF1 := hide hfr1; clear hown1 hgrow1 hat1 hfr1)
  go_loopw [5, 6] (fun u i wr => ∃ (k N : Nat) (ys : List UInt8), i = .int .i64 ((k : Int) - 1) ∧ k ≤ 8 ∧ N + k = m + 8 ∧ ys ++ beN (u64 n) k = xs ++ beN (u64 n) 8 ∧ wr.ownsRow w.heap.size 5 1 u N (bc ys) ∧ Fr (fun k => w.heap.size ≤ k) w wr) (fun _ i _ => (intOf i + 1).toNat)
  case atStart => exact ⟨8, m, xs, rfl, by omega, rfl, rfl, HO1.out, HF1.out⟩
  case round =>
    obtain ⟨k, N, ys, rfl, hk, hN, hys, ho, hf⟩ := hrel
    obtain ⟨au, cu, rfl⟩ := own_shape ho
    have HYS := hide hys
    have HO := hide ho
    have HF := hide hf
    clear hys ho hf
    cases k with
    | zero =>
      go_wp2_with fail
      go_ret
      have hy : ys = xs ++ beN (u64 n) 8 := by
        have := HYS.out
        rwa [show beN (u64 n) 0 = [] from rfl, List.append_nil] at this
      refine ⟨_, rfl, ?_, HF.out.fresh (fun _ h => h)⟩
      rw [← hy, ← hN, Nat.add_zero]
      exact HO.out
    | succ j =>
      have ij : (0 : Int) ≤ (j : Int) := by omega
      have hmul : IntKind.i64.wrap (8 * (j : Int)) = 8 * (j : Int) := IntWalk.i64_in _ (by omega)
      have h4 : N + 1 ≤ maxLen := by unfold maxLen; omega
      have h5 : (N + 1) * 1 ≤ 140737488355328 := by omega
      have h6 : w.heap.size ≤ (wr.alloc (.cells #[.int .u8 (n / 2 ^ (8 * j) % 256)] 5)).heap.size := by have := HF.out.size; simp at this ⊢; omega
      have hone1 : ∀ u ∈ [Value.int .u8 (n / 2 ^ (8 * j) % 256)], u.oneCell' = true := by simp [Value.oneCell']
      go_wp2_with (at_builtin; refine wpList_append_reads _ rfl _ _ _ rfl w.heap.size 5 i0 _ 1 1 Try.underlying22 hi0 hz0 hz1 hz2 rfl (by decide) _ N _ rfl (HO.out.alloc _) _ 1 [.int .u8 (n / 2 ^ (8 * j) % 256)] rfl (Reads.built wr _ 5) hone1 h4 h5 h6 ?_; intro v2 w2 hown2 hgrow2 hat2; have hfr2 : Fr (fun k => w.heap.size ≤ k) w w2 := HF.out.trans ((Fr.alloc (fun k => w.heap.size ≤ k) wr _).trans (Fr.grown (S := fun k => w.heap.size ≤ k) hgrow2 (fun k hk => (HO.out.lt k hk).1)) (fun _ _ h => h)) (fun _ _ h => by have := HF.out.size; omega); have HO2 := hide hown2; have HF2 := hide hfr2; clear hown2 hgrow2 hat2 hfr2)
      go_roundw
      case rel =>
        refine ⟨j, N + 1, ys ++ [UInt8.ofNat (u64 n >>> (8 * j))], by go_num, by omega, by omega, ?_, ?_, HF2.out⟩
        · rw [← HYS.out]; simp [beN]
        · have e : bc (ys ++ [UInt8.ofNat (u64 n >>> (8 * j))]) = bc ys ++ [.int .u8 (n / 2 ^ (8 * j) % 256)] := by
            rw [bc_append]; simp only [bc, List.map_cons, List.map_nil]
            rw [← u8_shr n j (by omega)]; simp [IntKind.wrap, IntKind.signed, IntKind.bits]
          rw [e]; exact HO2.out
      case measure => simp [intOf]

/-- The document's Text. -/
theorem refText_any (w : World) (v : Value) (xs : List UInt8) (h : Reads w v xs.length 1 (bc xs)) (s : ByteArray) (hx : xs.length + s.size ≤ 140737488355000) :
    Calls Try.prog 15 #[v, .string s] w fun e w' => ∃ v', e = .returned v' ∧ w'.ownsRow w.heap.size 5 1 v' (xs.length + 4 + s.size) (bc (xs ++ beN (u64 s.size) 4 ++ s.data.toList)) ∧ Fr (fun _ => False) w w' := by
  obtain ⟨i0, hi0, hz0, hz1, hz2⟩ := info_parts info5
  have hf := refFour_any w v xs h s.size (by omega)
  have H4 := hide hf
  clear hf
  obtain ⟨m, hm⟩ : ∃ m, xs.length + 4 = m := ⟨_, rfl⟩
  have h1 : m + s.size ≤ maxLen := by unfold maxLen; omega
  have h2 : m + s.size ≤ 140737488355328 := by omega
  rw [hm] at H4 ⊢
  go_enter Try.func15, Try.ntmps15
  go_wp2_with fail
  refine H4.out.mono ?_
  rintro e w1 ⟨v1, rfl, ho1, hf1⟩
  have hs1 := hf1.size
  obtain ⟨a1, c1, rfl⟩ := own_shape ho1
  have HO1 := hide ho1
  have HF1 := hide hf1
  clear ho1 hf1
  go_wp2_with (at_builtin; refine wpList_append_str _ rfl _ _ _ _ rfl w.heap.size 5 i0 Try.underlying22 Try.underlying9 hi0 hz0 hz1 hz2 _ _ _ rfl HO1.out s rfl h1 h2 hs1 ?_; intro v2 w2 hown2 hgrow hat; have HO2 := hide hown2; have HG2 := hide hgrow; clear hown2 hgrow hat)
  go_ret
  refine ⟨v2, rfl, ?_, ?_⟩
  · rw [bc_append]; exact HO2.out
  · exact ((HF1.out.mono (fun _ _ h => h.elim)).trans (Fr.grown (S := fun k => w.heap.size ≤ k) HG2.out (fun k hk => (HO1.out.lt k hk).1)) (fun _ _ h => h)).fresh (fun _ h => h)
end Go.Proofs.Ytcklmdgmjgkogaa
