/- conclavelaw1.written: the document's own bytes of parts. -/
import Derived.Test.YtcklmdgmjgkogaaRefWire
import Derived.Test.YtcklmdgmjgkogaaRows2
namespace Go.Proofs.Ytcklmdgmjgkogaa
open Go.RowKit Go.Maps Go.Cv
set_option linter.unusedVariables false

abbrev Part := Int × Int × Int × ByteArray
abbrev cellsPart (a : Part) : List Value := [.int .i64 a.1, .int .i64 a.2.1, .int .i64 a.2.2.1, .string a.2.2.2]
def pbytes (a : Part) : List UInt8 :=
  if a.1 = 1 then beN (u64 a.2.1) 1 else if a.1 = 2 then beN (u64 a.2.1) 4 else if a.1 = 3 then beN (u64 a.2.2.1) 8 else if a.1 = 4 then beN (u64 a.2.2.2.size) 4 ++ a.2.2.2.data.toList else []
def pall (l : List Part) (k : Nat) : List UInt8 := (l.take k).flatMap pbytes
theorem pall_succ {l : List Part} {k : Nat} {x : Part} (h : l[k]? = some x) : pall l (k + 1) = pall l k ++ pbytes x := by
  unfold pall; rw [List.take_add_one, h]; simp
theorem pbytes_le (a : Part) (h : a.2.2.2.size ≤ 1048576) : (pbytes a).length ≤ 1048580 := by
  unfold pbytes
  split
  · simp [beN_length]
  · split
    · simp [beN_length]
    · split
      · simp [beN_length]
      · split
        · have : a.2.2.2.data.size ≤ 1048576 := h
          simp [beN_length]; omega
        · simp
theorem pall_le (l : List Part) (h : ∀ x ∈ l, x.2.2.2.size ≤ 1048576) (k : Nat) : (pall l k).length ≤ k * 1048580 := by
  induction k with
  | zero => simp [pall]
  | succ k ih =>
    cases hx : l[k]? with
    | none =>
      have : pall l (k + 1) = pall l k := by unfold pall; rw [List.take_add_one, hx]; simp
      rw [this, Nat.succ_mul]; exact Nat.le_add_right_of_le ih
    | some x =>
      rw [pall_succ hx, List.length_append, Nat.succ_mul]
      exact Nat.add_le_add ih (pbytes_le x (h x (List.mem_of_getElem? hx)))

theorem own_base {w : World} {b b' e s : Nat} {v : Value} {n : Nat} {xs : List Value} (h : w.ownsRow b e s v n xs) (hb : b' ≤ b) : w.ownsRow b' e s v n xs := by
  refine ⟨h.1, ?_⟩
  rcases h.2 with h2 | ⟨g, cap, cur, e1, h2, r⟩
  · exact .inl h2
  · exact .inr ⟨g, cap, cur, e1, Nat.le_trans hb h2, r⟩

set_option maxRecDepth 100000 in
set_option maxHeartbeats 1600000 in
theorem written_any (w : World) (v0 : Value) (l : List Part) (h0 : Reads w v0 l.length 4 (l.flatMap cellsPart)) (hsz : ∀ x ∈ l, x.2.2.2.size ≤ 1048576) (hl : l.length ≤ 1048576) :
    Calls Try.prog 20 #[v0] w fun e w' => ∃ v', e = .returned v' ∧ Reads w' v' (pall l 40).length 1 (bc (pall l 40)) ∧ w'.ownsRow w.heap.size 5 1 v' (pall l 40).length (bc (pall l 40)) ∧ Fr (fun _ => False) w w' := by
  obtain ⟨n0, hn0⟩ : ∃ n, l.length = n := ⟨_, rfl⟩
  rw [hn0] at h0 hl
  obtain ⟨-, a0, c0, rfl, -, -, -⟩ := id h0
  have HC0 := hide h0
  have HN0 := hide hn0
  have hle := pall_le l hsz
  have HLE := hide hle
  have HSZ := hide hsz
  clear h0 hn0 hle hsz
  go_enter Try.func20, Try.ntmps20
  go_wp2_with fail
  go_loopw [3, 4] (fun u i wr => ∃ (k : Nat), i = .int .i64 k ∧ k ≤ 40 ∧ k ≤ n0 ∧ Reads wr u (pall l k).length 1 (bc (pall l k)) ∧ wr.ownsRow w.heap.size 5 1 u (pall l k).length (bc (pall l k)) ∧ Fr (fun _ => False) w wr) (fun _ i _ => 40 - (intOf i).toNat)
  case atStart => exact ⟨0, rfl, by omega, by omega, Reads.nil _ _, World.ownsRow_nil _ _ _ _, Fr.refl _ _⟩
  case round =>
    obtain ⟨k, rfl, hk, hkn, hr, hob, hfr⟩ := hrel
    obtain ⟨-, au, cu, rfl, -, -, -⟩ := id hr
    have R := hide hr
    have OB := hide hob
    have F := hide hfr
    clear hr hob hfr
    by_cases hgo : k < n0 ∧ k < 40
    · obtain ⟨hg1, hg2⟩ := hgo
      obtain ⟨x, hx⟩ : ∃ x, l[k]? = some x := ⟨_, List.getElem?_eq_getElem (by have := HN0.out; omega)⟩
      obtain ⟨b0, o0, rfl, hb0, hcell⟩ := row_cells (toC := cellsPart) (s := 4) (fun _ => rfl) HC0.out hx (by decide)
      have hw := F.out.block b0 hb0 id
      have hsx := HSZ.out x (List.mem_of_getElem? hx)
      have hbd := HLE.out k
      have hps := pall_succ hx
      obtain ⟨kind, z, wide, s⟩ := x
      have e0 : wr.cell? ⟨b0, o0 + k * 4, none⟩ = some (.int .i64 kind) := hcell 0 _ rfl wr hw
      have e1 : wr.cell? ⟨b0, o0 + k * 4 + 1, none⟩ = some (.int .i64 z) := hcell 1 _ rfl wr hw
      have e2 : wr.cell? ⟨b0, o0 + k * 4 + 2, none⟩ = some (.int .i64 wide) := hcell 2 _ rfl wr hw
      have e3 : wr.cell? ⟨b0, o0 + k * 4 + 3, none⟩ = some (.string s) := hcell 3 _ rfl wr hw
      have hsx' : s.size ≤ 1048576 := hsx
      have ik0 : (0 : Int) ≤ (k : Int) := by omega
      have ik1 : (k : Int) < (n0 : Int) := by omega
      have HPS := hide hps
      clear hcell hw hx hsx hps
      by_cases k1 : kind = 1
      · subst k1
        go_wp2_with fail
        refine (refByte_any _ _ _ R.out z (by omega)).mono ?_
        rintro e w1 ⟨v1, rfl, ho1, hf1⟩
        have e5 : pall l (k + 1) = pall l k ++ beN (u64 z) 1 := HPS.out
        have hl5 : (pall l (k + 1)).length = (pall l k).length + 1 := by rw [e5, List.length_append, beN_length]
        have hr5 := Reads.of_own ho1
        have hob5 := own_base ho1 (show w.heap.size ≤ wr.heap.size from F.out.size)
        rw [← hl5, ← e5] at hr5 hob5
        have R5 := hide hr5
        have OB5 := hide hob5
        have F5 := hide (F.out.trans hf1 (fun _ _ h => h))
        clear ho1 hf1 e5 hl5 hr5 hob5
        go_wp2_with fail
        go_roundw
        case rel => exact ⟨k + 1, by go_num, by omega, by omega, R5.out, OB5.out, F5.out⟩
        case measure => simp [intOf]; omega
      by_cases k2 : kind = 2
      · subst k2
        go_wp2_with fail
        refine (refFour_any _ _ _ R.out z (by omega)).mono ?_
        rintro e w1 ⟨v1, rfl, ho1, hf1⟩
        have e5 : pall l (k + 1) = pall l k ++ beN (u64 z) 4 := HPS.out
        have hl5 : (pall l (k + 1)).length = (pall l k).length + 4 := by rw [e5, List.length_append, beN_length]
        have hr5 := Reads.of_own ho1
        have hob5 := own_base ho1 (show w.heap.size ≤ wr.heap.size from F.out.size)
        rw [← hl5, ← e5] at hr5 hob5
        have R5 := hide hr5
        have OB5 := hide hob5
        have F5 := hide (F.out.trans hf1 (fun _ _ h => h))
        clear ho1 hf1 e5 hl5 hr5 hob5
        go_wp2_with fail
        go_roundw
        case rel => exact ⟨k + 1, by go_num, by omega, by omega, R5.out, OB5.out, F5.out⟩
        case measure => simp [intOf]; omega
      by_cases k3 : kind = 3
      · subst k3
        go_wp2_with fail
        refine (refEight_any _ _ _ R.out wide (by omega)).mono ?_
        rintro e w1 ⟨v1, rfl, ho1, hf1⟩
        have e5 : pall l (k + 1) = pall l k ++ beN (u64 wide) 8 := HPS.out
        have hl5 : (pall l (k + 1)).length = (pall l k).length + 8 := by rw [e5, List.length_append, beN_length]
        have hr5 := Reads.of_own ho1
        have hob5 := own_base ho1 (show w.heap.size ≤ wr.heap.size from F.out.size)
        rw [← hl5, ← e5] at hr5 hob5
        have R5 := hide hr5
        have OB5 := hide hob5
        have F5 := hide (F.out.trans hf1 (fun _ _ h => h))
        clear ho1 hf1 e5 hl5 hr5 hob5
        go_wp2_with fail
        go_roundw
        case rel => exact ⟨k + 1, by go_num, by omega, by omega, R5.out, OB5.out, F5.out⟩
        case measure => simp [intOf]; omega
      by_cases k4 : kind = 4
      · subst k4
        go_wp2_with fail
        refine (refText_any _ _ _ R.out s (by omega)).mono ?_
        rintro e w1 ⟨v1, rfl, ho1, hf1⟩
        have e5 : pall l (k + 1) = pall l k ++ (beN (u64 s.size) 4 ++ s.data.toList) := HPS.out
        have hsl : s.data.toList.length = s.size := Array.length_toList
        have hl5 : (pall l (k + 1)).length = (pall l k).length + 4 + s.size := by
          rw [e5, List.length_append, List.length_append, beN_length, hsl, Nat.add_assoc]
        have hr5 := Reads.of_own ho1
        have hob5 := own_base ho1 (show w.heap.size ≤ wr.heap.size from F.out.size)
        rw [← hl5, List.append_assoc, ← e5] at hr5 hob5
        have R5 := hide hr5
        have OB5 := hide hob5
        have F5 := hide (F.out.trans hf1 (fun _ _ h => h))
        clear ho1 hf1 e5 hl5 hr5 hob5
        go_wp2_with fail
        go_roundw
        case rel => exact ⟨k + 1, by go_num, by omega, by omega, R5.out, OB5.out, F5.out⟩
        case measure => simp [intOf]; omega
      have e5 : pall l (k + 1) = pall l k := by
        have h := HPS.out
        unfold pbytes at h
        rw [if_neg k1, if_neg k2, if_neg k3, if_neg k4, List.append_nil] at h
        exact h
      have R5 : Reads wr (.slice au (pall l k).length cu) (pall l (k + 1)).length 1 (bc (pall l (k + 1))) := by rw [e5]; exact R.out
      have O5 : wr.ownsRow w.heap.size 5 1 (.slice au (pall l k).length cu) (pall l (k + 1)).length (bc (pall l (k + 1))) := by rw [e5]; exact OB.out
      have H5 := hide R5
      have P5 := hide O5
      clear R5 O5 e5
      go_wp2_with fail
      go_roundw
      case rel => exact ⟨k + 1, by go_num, by omega, by omega, H5.out, P5.out, F.out⟩
      case measure => simp [intOf]; omega
    · have hex : n0 ≤ k ∨ (k < n0 ∧ 40 ≤ k) := by omega
      have e5 : pall l k = pall l 40 := by
        have := HN0.out
        rcases hex with h | h
        · unfold pall; rw [List.take_of_length_le (by omega), List.take_of_length_le (by omega)]
        · rw [show k = 40 by omega]
      have E5 := hide e5
      clear hgo e5
      rcases hex with hx | ⟨hx, hx2⟩
      all_goals
        go_wp2_with fail
        go_ret
        exact ⟨_, rfl, by rw [← E5.out]; exact R.out, by rw [← E5.out]; exact OB.out, F.out⟩
end Go.Proofs.Ytcklmdgmjgkogaa
