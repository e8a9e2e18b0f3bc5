/- DedupNumbers's walk. -/
import Derived.Test.YtmbmknhpfolkkaaKnownDedup
import Derived.Test.YtmbmknhpfolkkaaDedup4
import Derived.Test.YtmbmknhpfolkkaaTexts
import Derived.Test.YtmbmknhpfolkkaaDedupBack
namespace Go.Proofs.Ytmbmknhpfolkkaa
open Go.RowKit Go.Maps Go.Cv Go.Shelf
set_option linter.unusedVariables false

theorem doneNoTbl (w : World) (B tb : Nat) (most : Int) (l : List L3) (h : Tbl w B tb most l) (hl : l.length ≤ maxLen) (c : ByteArray) (i : Int) (r : ByteArray) (hask : (askT l c i).1 ≠ 1) :
    Calls Try.prog 10 #[.pointer (some ⟨tb, 0, none⟩), .string c, .int .i64 i, .string r] w fun e w' => e = .returned (.int .i64 1) ∧ Tbl w' B tb most l ∧ Fr (fun _ => False) w w' := by
  have h' := h
  obtain ⟨v, h1, h2⟩ := h'
  refine (done_no w tb v most l h1 hl c i r hask).mono ?_
  rintro e w' ⟨rfl, hf⟩
  exact ⟨rfl, h.fr hf, hf⟩
theorem saveTbl (w : World) (B tb : Nat) (most : Int) (l : List L3) (h : Tbl w B tb most l) (hl : l.length ≤ 1000000) (hlen : (sv most l).length ≤ 140737488355000) :
    Calls Try.prog 15 #[.pointer (some ⟨tb, 0, none⟩)] w fun e w' => ∃ v', e = .returned v' ∧ w'.ownsRow w.heap.size 5 1 v' (sv most l).length (bc (sv most l)) ∧ Tbl w' B tb most l ∧ Fr (fun _ => False) w w' := by
  have h' := h
  obtain ⟨v, h1, h2⟩ := h'
  refine (save_any w tb v most l h1 hl hlen).mono ?_
  rintro e w' ⟨v', rfl, ho, hf⟩
  exact ⟨v', rfl, ho, h.fr hf, hf⟩
theorem clientsTbl (w : World) (B tb : Nat) (most : Int) (l : List L3) (h : Tbl w B tb most l) (hl : l.length ≤ 1000000) :
    Calls Try.prog 13 #[.pointer (some ⟨tb, 0, none⟩)] w fun e w' => ∃ v', e = .returned v' ∧ w'.ownsRow w.heap.size 9 1 v' l.length (sc (l.map (·.1))) ∧ Tbl w' B tb most l ∧ Fr (fun _ => False) w w' := by
  have h' := h
  obtain ⟨v, h1, h2⟩ := h'
  refine (clients_any w tb v most l h1 hl).mono ?_
  rintro e w' ⟨v', rfl, ho, hf⟩
  exact ⟨v', rfl, ho, h.fr hf, hf⟩
/-- Load, at bytes of which one knows what they are. -/
theorem loadYes (w : World) (v : Value) (bs : List UInt8) (h : Reads w v bs.length 1 (bc bs)) (hlen : bs.length ≤ 140737488355328) (m : Int) (l : List L3) (hL : loadT bs = some (m, l)) :
    Calls Try.prog 14 #[v] w fun e w' => ∃ tb, e = .returned (.tuple #[.pointer (some ⟨tb, 0, none⟩), .int .i64 0]) ∧ w.heap.size ≤ tb ∧ Tbl w' w.heap.size tb m l ∧ Fr (fun _ => False) w w' := by
  refine (load_any w v bs h hlen).mono ?_
  rintro e w' ⟨h1, hf⟩
  rcases h1 with ⟨h1, _⟩ | ⟨m', l', tb, vt, h1, rfl, h2, h3⟩
  · rw [hL] at h1; cases h1
  · rw [hL] at h1; cases h1
    exact ⟨tb, rfl, h3, ⟨vt, h2, fun k hk => by have := (h2.own.lt k hk).1; omega⟩, hf⟩
theorem loadNo (w : World) (v : Value) (bs : List UInt8) (h : Reads w v bs.length 1 (bc bs)) (hlen : bs.length ≤ 140737488355328) (hL : loadT bs = none) :
    Calls Try.prog 14 #[v] w fun e w' => e = .returned (.tuple #[.pointer none, .int .i64 12]) ∧ Fr (fun _ => False) w w' := by
  refine (load_any w v bs h hlen).mono ?_
  rintro e w' ⟨h1, hf⟩
  rcases h1 with ⟨_, rfl⟩ | ⟨m', l', tb, vt, h1, _⟩
  · exact ⟨rfl, hf⟩
  · rw [hL] at h1; cases h1

def tA : ByteArray := ⟨#[97]⟩
def tB : ByteArray := ⟨#[98]⟩
def tC : ByteArray := ⟨#[99]⟩
def q1 : List L3 := [(⟨#[97]⟩, 1, ⟨#[120]⟩)]
def q2 : List L3 := [(⟨#[97]⟩, 1, ⟨#[120]⟩), (⟨#[98]⟩, 1, ⟨#[121]⟩)]
def q3 : List L3 := [(⟨#[98]⟩, 1, ⟨#[121]⟩), (⟨#[97]⟩, 5, ⟨#[119]⟩)]
def q4 : List L3 := [(⟨#[97]⟩, 5, ⟨#[119]⟩), (⟨#[99]⟩, -3, ⟨#[118]⟩)]
theorem lists : (askT [] ⟨#[97]⟩ 1).1 = 1 ∧ doneT 2 [] ⟨#[97]⟩ 1 ⟨#[120]⟩ = q1 ∧ (askT q1 ⟨#[98]⟩ 1).1 = 1 ∧ doneT 2 q1 ⟨#[98]⟩ 1 ⟨#[121]⟩ = q2 ∧ (askT q2 ⟨#[97]⟩ 1).1 ≠ 1 ∧
    (askT q2 ⟨#[97]⟩ 5).1 = 1 ∧ doneT 2 q2 ⟨#[97]⟩ 5 ⟨#[119]⟩ = q3 ∧ (askT q3 ⟨#[99]⟩ (-3)).1 = 1 ∧ doneT 2 q3 ⟨#[99]⟩ (-3) ⟨#[118]⟩ = q4 ∧ askT q4 ⟨#[98]⟩ 1 = (1, ⟨#[]⟩) ∧ askT q4 ⟨#[97]⟩ 5 = (2, ⟨#[119]⟩) := by decide
theorem good4 : Good 2 q4 := ⟨by decide, by decide, by decide, by decide, by decide, by decide⟩
theorem back4 : loadT (sv 2 q4) = some (2, q4) := load_saved good4
theorem len4 : (sv 2 q4).length = 8 + (4 + 1 + (8 + (4 + 1))) + (4 + 1 + (8 + (4 + 1))) := by decide +kernel
theorem none9 : loadT [9, 9, 9] = none := by decide +kernel
theorem cells9 : bc [9, 9, 9] = [.int .u8 9, .int .u8 9, .int .u8 9] := rfl
theorem map4 : sc (q4.map (·.1)) = [.string ⟨#[97]⟩, .string ⟨#[99]⟩] := rfl

set_option maxRecDepth 100000 in
set_option maxHeartbeats 3200000 in
theorem DedupNumbers.walk (w : World) : Calls Try.prog 5 #[] w fun e w' => e = .returned (.bool true) ∧ Below w.heap.size w w' := by
  obtain ⟨a1, d1, a2, d2, a3, a4, d4, a5, d5, a6, a7⟩ := lists
  have A1 := hide a1
  have D1 := hide d1
  have A2 := hide a2
  have D2 := hide d2
  have A3 := hide a3
  have A4 := hide a4
  have D4 := hide d4
  have A5 := hide a5
  have D5 := hide d5
  have A6 := hide a6
  have A7 := hide a7
  clear a1 d1 a2 d2 a3 a4 d4 a5 d5 a6 a7
  go_enter Try.func5, Try.ntmps5
  go_wp2_with fail
  refine (new_no w 0 (by omega)).mono ?_
  rintro e w0 ⟨rfl, rfl⟩
  go_wp2_with fail
  refine (new_no w 65 (by omega)).mono ?_
  rintro e w0 ⟨rfl, rfl⟩
  go_wp2_with fail
  refine (new_ok w 2 (by omega) (by omega)).mono ?_
  rintro e w1 ⟨rfl, h, hf⟩
  obtain ⟨B, hB⟩ : ∃ B, w.heap.size = B := ⟨_, rfl⟩
  have T1 := hide (tbl_new (B := w.heap.size) h)
  have F1 := hide (hf.mono (S' := fun k => w.heap.size ≤ k) (fun _ _ h => h.elim))
  have S1 : w.heap.size ≤ w1.heap.size := hf.size
  clear h hf hB B
  go_wp2_with fail
  refine (doneTbl w1 w.heap.size w.heap.size 2 [] T1.out (by decide) S1 (Nat.le_refl _) ⟨#[97]⟩ (1) ⟨#[120]⟩ A1.out).mono ?_
  rw [D1.out]
  rintro e w2 ⟨rfl, h, hf⟩
  have T2 := hide h
  have F2 := hide (F1.out.trans hf (fun _ _ h => h))
  have S2 : w.heap.size ≤ w2.heap.size := Nat.le_trans S1 hf.size
  clear h hf
  go_wp2_with fail
  refine (doneTbl w2 w.heap.size w.heap.size 2 q1 T2.out (by decide) S2 (Nat.le_refl _) ⟨#[98]⟩ (1) ⟨#[121]⟩ A2.out).mono ?_
  rw [D2.out]
  rintro e w3 ⟨rfl, h, hf⟩
  have T3 := hide h
  have F3 := hide (F2.out.trans hf (fun _ _ h => h))
  have S3 : w.heap.size ≤ w3.heap.size := Nat.le_trans S2 hf.size
  clear h hf
  go_wp2_with fail
  refine (doneNoTbl w3 w.heap.size w.heap.size 2 q2 T3.out (by simp [q2, maxLen]) ⟨#[97]⟩ 1 ⟨#[122]⟩ A3.out).mono ?_
  rintro e w4 ⟨rfl, h, hf⟩
  have T4 := hide h
  have F4 := hide (F3.out.trans hf (fun _ _ h => h.elim))
  have S4 : w.heap.size ≤ w4.heap.size := Nat.le_trans S3 hf.size
  clear h hf
  go_wp2_with fail
  refine (doneTbl w4 w.heap.size w.heap.size 2 q2 T4.out (by decide) S4 (Nat.le_refl _) ⟨#[97]⟩ (5) ⟨#[119]⟩ A4.out).mono ?_
  rw [D4.out]
  rintro e w5 ⟨rfl, h, hf⟩
  have T5 := hide h
  have F5 := hide (F4.out.trans hf (fun _ _ h => h))
  have S5 : w.heap.size ≤ w5.heap.size := Nat.le_trans S4 hf.size
  clear h hf
  go_wp2_with fail
  refine (doneTbl w5 w.heap.size w.heap.size 2 q3 T5.out (by decide) S5 (Nat.le_refl _) ⟨#[99]⟩ (-3) ⟨#[118]⟩ A5.out).mono ?_
  rw [D5.out]
  rintro e w6 ⟨rfl, h, hf⟩
  have T6 := hide h
  have F6 := hide (F5.out.trans hf (fun _ _ h => h))
  have S6 : w.heap.size ≤ w6.heap.size := Nat.le_trans S5 hf.size
  clear h hf
  go_wp2_with fail
  refine (askTbl w6 w.heap.size w.heap.size 2 q4 T6.out (by simp [q4, maxLen]) ⟨#[98]⟩ 1).mono ?_
  rw [A6.out]
  rintro e w7 ⟨rfl, h, hf⟩
  have T7 := hide h
  have F7 := hide (F6.out.trans hf (fun _ _ h => h.elim))
  clear h hf
  go_wp2_with fail
  refine (saveTbl w7 w.heap.size w.heap.size 2 q4 T7.out (by decide) (by rw [len4]; decide)).mono ?_
  rintro e w8 ⟨v8, rfl, ho, h, hf⟩
  have T8 := hide h
  have F8 := hide (F7.out.trans hf (fun _ _ h => h.elim))
  have hr := Reads.of_own ho
  obtain ⟨a8, c8, rfl⟩ := own_shape ho
  have HL := hide (loadYes w8 _ (sv 2 q4) hr (by rw [len4]; decide) 2 q4 back4)
  clear h hf ho hr
  go_wp2_with fail
  refine HL.out.mono ?_
  rintro e w9 ⟨ub, rfl, hub, h, hf⟩
  have U9 := hide h
  have T9 := hide (T8.out.fr hf)
  have F9 := hide (F8.out.trans hf (fun _ _ h => h.elim))
  clear h hf
  have hr : Reads (w9.alloc (.cells #[.int .u8 9, .int .u8 9, .int .u8 9] 5)) (.slice (some ⟨w9.heap.size, 0, none⟩) 3 3) 3 1 (bc [9, 9, 9]) := Reads.built w9 [.int .u8 9, .int .u8 9, .int .u8 9] 5
  have HL2 := hide (loadNo (w9.alloc (.cells #[.int .u8 9, .int .u8 9, .int .u8 9] 5)) _ [9, 9, 9] hr (by decide) none9)
  clear hr
  go_wp2_with fail
  refine HL2.out.mono ?_
  rintro e w10 ⟨rfl, hf⟩
  have hf2 := (Fr.alloc (fun _ => False) w9 (.cells #[.int .u8 9, .int .u8 9, .int .u8 9] 5)).trans hf (fun _ _ h => h)
  have U10 := hide (U9.out.fr hf2)
  have T10 := hide (T9.out.fr hf2)
  have F10 := hide (F9.out.trans hf2 (fun _ _ h => h.elim))
  clear hf hf2
  go_wp2_with fail
  refine (askTbl w10 _ ub 2 q4 U10.out (by simp [q4, maxLen]) ⟨#[97]⟩ 5).mono ?_
  rw [A7.out]
  rintro e w11 ⟨rfl, h, hf⟩
  have U11 := hide h
  have T11 := hide (T10.out.fr hf)
  have F11 := hide (F10.out.trans hf (fun _ _ h => h.elim))
  clear h hf
  go_wp2_with fail
  refine (clientsTbl w11 w.heap.size w.heap.size 2 q4 T11.out (by decide)).mono ?_
  rintro e w12 ⟨v12, rfl, ho, h, hf⟩
  have U12 := hide (U11.out.fr hf)
  have F12 := hide (F11.out.trans hf (fun _ _ h => h.elim))
  have hr := Reads.of_own ho
  rw [map4] at hr
  obtain ⟨a12, c12, rfl⟩ := own_shape ho
  have hfa := Fr.alloc (fun _ => False) w12 (.cells #[.string ⟨#[97]⟩, .string ⟨#[99]⟩] 9)
  have ht := texts_any (w12.alloc (.cells #[.string ⟨#[97]⟩, .string ⟨#[99]⟩] 9)) _ (.slice (some ⟨w12.heap.size, 0, none⟩) 2 2) [⟨#[97]⟩, ⟨#[99]⟩] [⟨#[97]⟩, ⟨#[99]⟩] (reads_old hr hfa (fun _ _ => id)) (Reads.built w12 [.string ⟨#[97]⟩, .string ⟨#[99]⟩] 9) (by decide)
  have HT := hide ht
  clear h hf ho hr ht hfa
  go_wp2_with fail
  refine HT.out.mono ?_
  rintro e w13 ⟨rfl, m13, rfl⟩
  have hf2 := (Fr.alloc (fun _ => False) w12 (.cells #[.string ⟨#[97]⟩, .string ⟨#[99]⟩] 9)).drewN m13
  have U13 := hide (U12.out.fr hf2)
  have F13 := hide (F12.out.trans hf2 (fun _ _ h => h.elim))
  clear hf2
  go_wp2_with fail
  refine (clientsTbl _ _ ub 2 q4 U13.out (by decide)).mono ?_
  rintro e w14 ⟨v14, rfl, ho, h, hf⟩
  have F14 := hide (F13.out.trans hf (fun _ _ h => h.elim))
  have hr := Reads.of_own ho
  rw [map4] at hr
  obtain ⟨a14, c14, rfl⟩ := own_shape ho
  have hfa := Fr.alloc (fun _ => False) w14 (.cells #[.string ⟨#[97]⟩, .string ⟨#[99]⟩] 9)
  have ht := texts_any (w14.alloc (.cells #[.string ⟨#[97]⟩, .string ⟨#[99]⟩] 9)) _ (.slice (some ⟨w14.heap.size, 0, none⟩) 2 2) [⟨#[97]⟩, ⟨#[99]⟩] [⟨#[97]⟩, ⟨#[99]⟩] (reads_old hr hfa (fun _ _ => id)) (Reads.built w14 [.string ⟨#[97]⟩, .string ⟨#[99]⟩] 9) (by decide)
  have HT2 := hide ht
  clear h hf ho hr ht hfa
  go_wp2_with fail
  refine HT2.out.mono ?_
  rintro e w15 ⟨rfl, m15, rfl⟩
  have F15 := hide (F14.out.trans ((Fr.alloc (fun _ => False) w14 (.cells #[.string ⟨#[97]⟩, .string ⟨#[99]⟩] 9)).drewN m15) (fun _ _ h => h.elim))
  go_wp2_with fail
  refine (known_any _).mono ?_
  rintro e w16 ⟨rfl, hf⟩
  have F16 := hide (F15.out.trans hf (fun _ _ h => h.elim))
  clear hf
  go_wp2_with fail
  go_ret
  exact ⟨rfl, F16.out.toBelow (Nat.le_refl _) (fun j hj h => by omega)⟩
end Go.Proofs.Ytmbmknhpfolkkaa
