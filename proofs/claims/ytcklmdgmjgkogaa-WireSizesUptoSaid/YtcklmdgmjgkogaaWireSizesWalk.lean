/- The walk of conclavelaw1.WireSizes. -/
import Derived.Test.YtcklmdgmjgkogaaReadBack
import Derived.Test.YtcklmdgmjgkogaaKnownWire
import Derived.Deep.RegionHeld3
namespace Go.Proofs.Ytcklmdgmjgkogaa
open Go.RowKit Go.Maps Go.Cv
set_option linter.unusedVariables false
namespace WireSizes

set_option maxRecDepth 100000 in
set_option maxHeartbeats 3200000 in
theorem walk (w : World) (n : Int) (hn : (Lit.int .i64 n).wf = true) (wide : Int) (hwd : (Lit.int .i64 wide).wf = true) (s : ByteArray) (hs : s.size ≤ 1048576) :
    Calls Try.prog 7 #[.int .i64 n, .int .i64 wide, .string s] w fun e w' => e = .returned (.bool true) ∧ Below w.heap.size w w' := by
  obtain ⟨m, hm⟩ : ∃ m, s.size = m := ⟨_, rfl⟩
  have hml : s.data.toList.length = m := by rw [← hm]; exact Array.length_toList
  have HM := hide hm
  have HML := hide hml
  rw [hm] at hs
  clear hm hml hn hwd
  go_enter Try.func7, Try.ntmps7
  go_wp2_with fail
  refine (newWriter_any _).mono ?_
  rintro e w1 ⟨rfl, hw1, hf1⟩
  obtain ⟨b, hb⟩ : ∃ b, w.heap.size = b := ⟨_, rfl⟩
  rw [hb] at hw1 ⊢
  have W1 := hide hw1
  have F1 := hide (hf1.mono (S' := fun j => b ≤ j) (fun _ _ h => h.elim))
  clear hw1 hf1
  go_wp2_with fail
  refine (byte_any _ b _ [] W1.out n (by decide)).mono ?_
  rintro e w2 ⟨rfl, v2, hw2, hv2, hf2⟩
  have V2 := hide (fun j (hj : v2.ownBlock = some j) => (by rcases hv2 with h | h; (· rw [h] at hj; cases hj); (· have := h j hj; have := F1.out.size; omega) : b ≤ j))
  have F2 := hide (F1.out.trans hf2 (fun j _ h => by rcases h with h | h; (· omega); (· cases h)))
  have W2 := hide hw2
  clear hw2 hv2 hf2
  go_wp2_with fail
  refine (done_any _ b v2 _ W2.out (by simp [beN_length])).mono ?_
  rintro e w3 ⟨x3, rfl, ho3, hf3⟩
  obtain ⟨a3, c3, rfl⟩ := own_shape ho3
  have el3 : ([] ++ beN (u64 n) 1 : List UInt8).length = 1 := by simp [beN_length]
  rw [el3]
  have F3 := hide (F2.out.trans hf3 (fun _ _ h => h.elim))
  have W3 := hide (W2.out.fr hf3 id (fun _ _ => id))
  clear ho3 hf3 el3
  go_wp2_with fail
  refine (four_any _ b _ _ W3.out n (by simp [beN_length])).mono ?_
  rintro e w4 ⟨rfl, v4, hw4, hv4, hf4⟩
  have V4 := hide (fun j (hj : v4.ownBlock = some j) => (by rcases hv4 with h | h; (· rw [h] at hj; exact V2.out j hj); (· have := h j hj; have := F3.out.size; omega) : b ≤ j))
  have F4 := hide (F3.out.trans hf4 (fun j _ h => by rcases h with h | h; (· omega); (· exact V2.out j h)))
  have W4 := hide hw4
  clear hw4 hv4 hf4
  go_wp2_with fail
  refine (done_any _ b v4 _ W4.out (by simp [beN_length])).mono ?_
  rintro e w5 ⟨x5, rfl, ho5, hf5⟩
  obtain ⟨a5, c5, rfl⟩ := own_shape ho5
  have el5 : ([] ++ beN (u64 n) 1 ++ beN (u64 n) 4 : List UInt8).length = 5 := by simp [beN_length]
  rw [el5]
  have F5 := hide (F4.out.trans hf5 (fun _ _ h => h.elim))
  have W5 := hide (W4.out.fr hf5 id (fun _ _ => id))
  clear ho5 hf5 el5
  go_wp2_with fail
  refine (eight_any _ b _ _ W5.out wide (by simp [beN_length])).mono ?_
  rintro e w6 ⟨rfl, v6, hw6, hv6, hf6⟩
  have V6 := hide (fun j (hj : v6.ownBlock = some j) => (by rcases hv6 with h | h; (· rw [h] at hj; exact V4.out j hj); (· have := h j hj; have := F5.out.size; omega) : b ≤ j))
  have F6 := hide (F5.out.trans hf6 (fun j _ h => by rcases h with h | h; (· omega); (· exact V4.out j h)))
  have W6 := hide hw6
  clear hw6 hv6 hf6
  go_wp2_with fail
  refine (done_any _ b v6 _ W6.out (by simp [beN_length])).mono ?_
  rintro e w7 ⟨x7, rfl, ho7, hf7⟩
  obtain ⟨a7, c7, rfl⟩ := own_shape ho7
  have el7 : ([] ++ beN (u64 n) 1 ++ beN (u64 n) 4 ++ beN (u64 wide) 8 : List UInt8).length = 13 := by simp [beN_length]
  rw [el7]
  have F7 := hide (F6.out.trans hf7 (fun _ _ h => h.elim))
  have W7 := hide (W6.out.fr hf7 id (fun _ _ => id))
  clear ho7 hf7 el7
  go_wp2_with fail
  have htx := text_any _ b _ _ W7.out s (by rw [HM.out]; simp [beN_length]; omega)
  obtain ⟨D, hD⟩ : ∃ D, [] ++ beN (u64 n) 1 ++ beN (u64 n) 4 ++ beN (u64 wide) 8 ++ beN (u64 s.size) 4 ++ s.data.toList = D := ⟨_, rfl⟩
  rw [hD] at htx
  have hDl : D.length = 17 + m := by rw [← hD]; simp only [List.length_append, beN_length, HML.out, List.length_nil]
  have TX := hide htx
  have HD := hide hD
  have HDL := hide hDl
  clear htx hD hDl
  refine TX.out.mono ?_
  rintro e w8 ⟨rfl, v8, hw8, hv8, hf8⟩
  have V8 := hide (fun j (hj : v8.ownBlock = some j) => (by rcases hv8 with h | h; (· rw [h] at hj; exact V6.out j hj); (· have := h j hj; have := F7.out.size; omega) : b ≤ j))
  have F8 := hide (F7.out.trans hf8 (fun j _ h => by rcases h with h | h; (· omega); (· exact V6.out j h)))
  have W8 := hide hw8
  clear hw8 hv8 hf8
  go_wp2_with fail
  refine (done_any _ b v8 _ W8.out (by have := HDL.out; omega)).mono ?_
  rintro e w9 ⟨x9, rfl, ho9, hf9⟩
  have hr9 := Reads.of_own ho9
  have F9 := hide (F8.out.trans hf9 (fun _ _ h => h.elim))
  have hnr := newReader_any w9 x9 D hr9 (by have := HDL.out; omega)
  obtain ⟨a9, c9, rfl⟩ := own_shape ho9
  rw [HDL.out] at hnr ⊢
  have NR := hide hnr
  clear ho9 hf9 hr9 hnr
  go_wp2_with fail
  refine NR.out.mono ?_
  rintro e wa ⟨rb, vb, rfl, hrb, hvb, hra, hfa⟩
  have hsa := F9.out.size
  have FA := hide (F9.out.trans hfa (fun _ _ h => h.elim))
  have RA := hide hra
  clear hra hfa hvb
  have z0 : (D = ([] : List UInt8) ++ (beN (u64 n) 1 ++ (beN (u64 n) 4 ++ beN (u64 wide) 8 ++ beN (u64 s.size) 4 ++ s.data.toList))) := by rw [← HD.out]; simp only [List.append_assoc, List.nil_append]
  have z1 : (D = (beN (u64 n) 1) ++ (beN (u64 n) 4 ++ (beN (u64 wide) 8 ++ beN (u64 s.size) 4 ++ s.data.toList))) := by rw [← HD.out]; simp only [List.append_assoc, List.nil_append]
  have z2 : (D = (beN (u64 n) 1 ++ beN (u64 n) 4) ++ (beN (u64 wide) 8 ++ (beN (u64 s.size) 4 ++ s.data.toList))) := by rw [← HD.out]; simp only [List.append_assoc, List.nil_append]
  have z3 : (D = (beN (u64 n) 1 ++ beN (u64 n) 4 ++ beN (u64 wide) 8) ++ (beN (u64 s.size) 4 ++ (s.data.toList ++ []))) := by rw [← HD.out]; simp only [List.append_assoc, List.nil_append, List.append_nil]
  have q0 := get_at z0 (by omega) (r := ⟨0, 0, 0⟩) rfl
  have q1 := get_at z1 (by omega) (r := ⟨1, 0, 0⟩) rfl
  have q2 := get_at z2 (by omega) (r := ⟨5, 0, 0⟩) rfl
  rw [HM.out, u64_nat m (by omega)] at z3
  have q3 := text_at (most := (m : Int)) z3 HML.out (by omega) (by omega) (r := ⟨13, 0, 0⟩) rfl
  have l1 : RS.left D ⟨1, 0, 0⟩ = 16 + (m : Int) := by unfold RS.left; rw [if_pos rfl, HDL.out]; simp; omega
  have l2 : RS.left D ⟨5, 0, 0⟩ = 12 + (m : Int) := by unfold RS.left; rw [if_pos rfl, HDL.out]; simp; omega
  have l3 : RS.left D ⟨13, 0, 0⟩ = 4 + (m : Int) := by unfold RS.left; rw [if_pos rfl, HDL.out]; simp; omega
  have l4 : RS.left D ⟨17 + m, 0, 0⟩ = 0 := by unfold RS.left; rw [if_pos rfl, HDL.out]; simp
  have hsz : (s.size : Int) = (m : Int) := by rw [HM.out]
  rw [beN_length] at q1
  rw [List.length_append, beN_length, beN_length] at q2
  rw [List.length_append, List.length_append, beN_length, beN_length, beN_length] at q3
  have Q0 : Hid (RS.get D ⟨0, 0, 0⟩ 1 = (u64 n % 256 ^ 1, ⟨1, 0, 0⟩)) := hide q0
  have Q1 : Hid (RS.get D ⟨1, 0, 0⟩ 4 = (u64 n % 256 ^ 4, ⟨5, 0, 0⟩)) := hide q1
  have Q2 : Hid (RS.get D ⟨5, 0, 0⟩ 8 = (u64 wide % 256 ^ 8, ⟨13, 0, 0⟩)) := hide q2
  have Q3 : Hid (RS.text D ⟨13, 0, 0⟩ m = (s.data.toList, ⟨17 + m, 0, 0⟩)) := hide q3
  have d1 : ((16 : Int) + m == 17 + m - 1) = true := by rw [beq_iff_eq]; omega
  have d2 : ((12 : Int) + m == 17 + m - 5) = true := by rw [beq_iff_eq]; omega
  have L1 := hide l1
  have L2 := hide l2
  have L3 := hide l3
  have L4 := hide l4
  clear z0 z1 z2 z3 q0 q1 q2 q3 l1 l2 l3 l4
  go_wp2_with fail
  refine (rdByte_any _ rb vb D _ RA.out).mono ?_
  rintro e wb ⟨rfl, h1, h2⟩
  rw [Q0.out] at h1 ⊢
  have RB := hide h1
  have FB := hide (FA.out.trans h2 (fun j _ h => by omega))
  clear h1 h2
  go_wp2_with fail
  refine (left_any _ rb vb D _ RB.out).mono ?_
  rintro e wc ⟨rfl, h1, h2⟩
  rw [L1.out]
  have RC := hide h1
  have FC := hide (FB.out.trans h2 (fun j _ h => by omega))
  clear h1 h2
  go_wp2_with fail
  refine (rdFour_any _ rb vb D _ RC.out).mono ?_
  rintro e wd ⟨rfl, h1, h2⟩
  rw [Q1.out] at h1 ⊢
  have RD' := hide h1
  have FD := hide (FC.out.trans h2 (fun j _ h => by omega))
  clear h1 h2
  go_wp2_with fail
  refine (left_any _ rb vb D _ RD'.out).mono ?_
  rintro e we ⟨rfl, h1, h2⟩
  rw [L2.out]
  have RE := hide h1
  have FE := hide (FD.out.trans h2 (fun j _ h => by omega))
  clear h1 h2
  go_wp2_with fail
  refine (rdEight_any _ rb vb D _ RE.out).mono ?_
  rintro e wf ⟨rfl, h1, h2⟩
  rw [Q2.out] at h1 ⊢
  have RF := hide h1
  have FF := hide (FE.out.trans h2 (fun j _ h => by omega))
  clear h1 h2
  go_wp2_with fail
  refine (left_any _ rb vb D _ RF.out).mono ?_
  rintro e wg ⟨rfl, h1, h2⟩
  rw [L3.out]
  have RG := hide h1
  have FG := hide (FF.out.trans h2 (fun j _ h => by omega))
  clear h1 h2
  go_wp2_with fail
  refine (rdText_any _ rb vb D _ RG.out m).mono ?_
  rintro e wh ⟨rfl, h1, h2⟩
  rw [Q3.out] at h1 ⊢
  have RH := hide h1
  have FH := hide (FG.out.trans h2 (fun j _ h => by omega))
  clear h1 h2
  go_wp2_with fail
  refine (left_any _ rb vb D _ RH.out).mono ?_
  rintro e wi ⟨rfl, h1, h2⟩
  rw [L4.out]
  have FI := hide (FH.out.trans h2 (fun j _ h => by omega))
  clear h1 h2
  go_wp2_with fail
  refine (known_any _).mono ?_
  rintro e wj ⟨rfl, h1⟩
  have FJ := hide (FI.out.trans h1 (fun j _ h => h.elim))
  clear h1
  go_wp2_with fail
  go_ret
  exact ⟨rfl, FJ.out.toBelow (by omega) (fun k hk => by omega)⟩
end WireSizes
end Go.Proofs.Ytcklmdgmjgkogaa
