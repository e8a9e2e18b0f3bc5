/- The plain law: what was written is read back. -/
import Derived.Test.YtkaibekeokkpnaaWireR
namespace Go.Proofs.Ytkaibekeokkpnaa
open Go.RowKit Go.Maps Go.Cv
set_option linter.unusedVariables false

theorem getN_cons (x : UInt8) : ∀ (k : Nat) (l : List UInt8), l.length = k → k ≤ 7 → getN (x :: l) = x.toNat * 256 ^ k + getN l
  | 0, l, h, _ => by
    rw [List.eq_nil_of_length_eq_zero h]
    simp [getN]
  | k + 1, l, h, hk => by
    rcases List.eq_nil_or_concat l with rfl | ⟨l', b, rfl⟩
    · simp at h
    · have hl : l'.length = k := by simpa using h
      have ih := getN_cons x k l' hl (by omega)
      have b1 := getN_lt' (x :: l') 7 (by simp; omega) (by omega)
      have b2 := getN_lt' l' 7 (by omega) (by omega)
      rw [List.concat_eq_append, ← List.cons_append, getN_plain _ _ (by omega), getN_plain _ _ (by omega), ih, Nat.pow_succ]
      rw [Nat.add_mul, Nat.mul_assoc, Nat.add_assoc]

theorem getN_beN (n : Nat) : ∀ k, k ≤ 8 → getN (beN n k) = n % 256 ^ k
  | 0, _ => by simp [beN, getN, Nat.mod_one]
  | k + 1, hk => by
    rw [beN, getN_cons _ k _ (beN_length n k) (by omega), getN_beN n k (by omega), UInt8.toNat_ofNat', Nat.shiftRight_eq_div_pow, Nat.pow_mul]
    have e : n % 256 ^ (k + 1) = n % 256 ^ k + 256 ^ k * (n / 256 ^ k % 256) := by rw [Nat.pow_succ, Nat.mod_mul]
    have e3 : (2 : Nat) ^ 8 = 256 := rfl
    rw [e, e3, Nat.mul_comm]
    omega

theorem take_at {bs pre x post : List UInt8} {k : Nat} (h : bs = pre ++ (x ++ post)) (hk : x.length = k) {r : RS} (hr : r = ⟨pre.length, 0, 0⟩) : r.take bs k = (x, ⟨pre.length + k, 0, 0⟩) := by
  subst hr h hk
  unfold RS.take
  rw [if_neg (by simp), if_neg (by simp)]
  simp

theorem get_at {bs pre post : List UInt8} {n k : Nat} (h : bs = pre ++ (beN n k ++ post)) (hk : k ≤ 8) {r : RS} (hr : r = ⟨pre.length, 0, 0⟩) : r.get bs k = (n % 256 ^ k, ⟨pre.length + k, 0, 0⟩) := by
  unfold RS.get
  rw [take_at h (beN_length n k) hr]
  simp only [getN_beN n k hk]

theorem count_at {bs pre post : List UInt8} {n : Nat} {most : Int} (h : bs = pre ++ (beN n 4 ++ post)) (hn : n < 4294967296) (hm : (n : Int) ≤ most) {r : RS} (hr : r = ⟨pre.length, 0, 0⟩) : r.count bs most = (n, ⟨pre.length + 4, 0, 0⟩) := by
  have hg := get_at h (by omega) hr
  rw [show n % 256 ^ 4 = n from Nat.mod_eq_of_lt hn] at hg
  unfold RS.count
  rw [hg]
  have hle : ¬ (max most 0 < (n : Int)) := by omega
  simp only [if_neg hle]
  rfl

theorem text_at {bs pre post x : List UInt8} {n : Nat} {most : Int} (h : bs = pre ++ (beN n 4 ++ (x ++ post))) (hx : x.length = n) (hn : n < 4294967296) (hm : (n : Int) ≤ most) {r : RS} (hr : r = ⟨pre.length, 0, 0⟩) : r.text bs most = (x, ⟨pre.length + 4 + n, 0, 0⟩) := by
  unfold RS.text
  rw [count_at h hn hm hr]
  have h2 : bs = (pre ++ beN n 4) ++ (x ++ post) := by rw [h, List.append_assoc]
  rw [take_at h2 hx (by rw [List.length_append, beN_length])]
  rw [List.length_append, beN_length]

/-- A whole number that went through 64 bits. -/
theorem u64_nat (n : Nat) (h : n < 18446744073709551616) : u64 (n : Int) = n := by unfold u64; omega
theorem i64_back (n : Int) (h : (Lit.int .i64 n).wf = true) : IntKind.i64.wrap ((u64 n % 256 ^ 8 : Nat) : Int) = n := by
  simp [Lit.wf, IntKind.min, IntKind.max, IntKind.signed, IntKind.bits] at h
  rw [IntWalk.i64_left]
  unfold wrap64 u64
  omega
theorem u32_back (n : Int) : ((u64 n % 256 ^ 4 : Nat) : Int) = n % 4294967296 := by unfold u64; omega
theorem u8_back (n : Int) : ((u64 n % 256 ^ 1 : Nat) : Int) = n % 256 := by unfold u64; omega
end Go.Proofs.Ytkaibekeokkpnaa
