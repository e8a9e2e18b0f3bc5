/- Ranges' functions in plain words: a Map's parts as RD. -/
import Derived.Test.YtkaibekeokkpnaaRgKnown2
import Derived.Test.YtkaibekeokkpnaaWithin
namespace Go.Proofs.Ytkaibekeokkpnaa
open Go.RowKit Go.Maps Go.Cv Go.Shelf
set_option linter.unusedVariables false

/-- The slice (a, n, c) holds the parts l. -/
def RD (w : World) (a : Option Addr) (n c : Nat) (l : List P3) : Prop := l.length = n ∧ Reads w (.slice a n c) n 3 (rowP l) ∧ n ≤ 4096
theorem RD.fr {w w' : World} {a : Option Addr} {n c : Nat} {l : List P3} (h : RD w a n c l) {S : Nat → Prop} (g : Fr S w w') (hS : ∀ k, k < w.heap.size → ¬ S k) : RD w' a n c l := ⟨h.1, reads_old h.2.1 g hS, h.2.2⟩
theorem RD.fr0 {w w' : World} {a : Option Addr} {n c : Nat} {l : List P3} (h : RD w a n c l) (g : Fr (fun _ => False) w w') : RD w' a n c l := h.fr g (fun _ _ => id)
theorem RD.rd {w : World} {a : Option Addr} {n c : Nat} {l : List P3} (h : RD w a n c l) : Reads w (.slice a n c) l.length 3 (rowP l) := by rw [h.1]; exact h.2.1
theorem RD.len {w : World} {a : Option Addr} {n c : Nat} {l : List P3} (h : RD w a n c l) : l.length ≤ maxLen := by have := h.1; have := h.2.2; unfold maxLen; omega
theorem RD.of {w : World} {v : Value} {l : List P3} (h : Reads w v l.length 3 (rowP l)) (hl : l.length ≤ 4096) : ∃ a n c, v = .slice a n c ∧ RD w a n c l := by
  obtain ⟨-, a, c, rfl, -, -, -⟩ := id h
  exact ⟨a, _, c, rfl, rfl, h, hl⟩
theorem newP_few (n : Nat) (h : n ≤ 3) : (newP n n).length ≤ 4096 := by rw [newP_len]; omega
theorem newM (w : World) (n : Int) (h : 1 ≤ n ∧ n ≤ 3) : Calls Try.prog 8 #[.int .i64 n] w fun e w' => ∃ a m c, e = .returned (.tuple #[.agg #[.int .i64 1, .slice a m c], .int .i64 0]) ∧ RD w' a m c (newP n n.toNat) ∧ Fr (fun _ => False) w w' := by
  obtain ⟨k, rfl⟩ : ∃ k : Nat, n = (k : Int) := ⟨n.toNat, by omega⟩
  refine (new_any w k (by omega)).mono ?_
  rintro e w' ⟨v, rfl, hr, hf⟩
  obtain ⟨a, m, c, rfl, h9⟩ := RD.of hr (newP_few k (by omega))
  exact ⟨a, m, c, rfl, by rw [Int.toNat_natCast]; exact h9, hf⟩
theorem moveM (w : World) (ep : Int) (a : Option Addr) (n c : Nat) (l : List P3) (h : RD w a n c l) (lo hi g : Int) (hr : rightM ep l = true) (hep : ep ≠ 1073741824) (h1 : 0 ≤ lo) (h2 : lo < hi) (h3 : hi ≤ 256) (h4 : 0 ≤ g) (h5 : g < 3) :
    Calls Try.prog 10 #[.agg #[.int .i64 ep, .slice a n c], .int .i64 lo, .int .i64 hi, .int .i64 g] w fun e w' => ∃ a' n' c', e = .returned (.tuple #[.agg #[.int .i64 (ep + 1), .slice a' n' c'], .int .i64 0]) ∧ RD w' a' n' c' (moveP l lo hi g) ∧ Fr (fun _ => False) w w' := by
  refine (move_any w ep _ l h.rd h.len lo hi g hr hep h1 h2 h3 h4 h5).mono ?_
  rintro e w' ⟨v, rfl, hr, hf⟩
  obtain ⟨a, m, c, rfl, h9⟩ := RD.of hr (Nat.le_trans (pz_len _ _) (by decide))
  exact ⟨a, m, c, rfl, h9, hf⟩
theorem moveNo (w : World) (ep : Int) (a : Option Addr) (n c : Nat) (l : List P3) (h : RD w a n c l) (lo hi g : Int) (hne : moveE ep l lo hi g ≠ 0) :
    Calls Try.prog 10 #[.agg #[.int .i64 ep, .slice a n c], .int .i64 lo, .int .i64 hi, .int .i64 g] w fun e w' => e = .returned (.tuple #[.agg #[.int .i64 0, .slice none 0 0], .int .i64 (moveE ep l lo hi g)]) ∧ Fr (fun _ => False) w w' :=
  move_no w ep _ l h.rd h.len lo hi g hne
theorem rightC (w : World) (ep : Int) (a : Option Addr) (n c : Nat) (l : List P3) (h : RD w a n c l) : Calls Try.prog 11 #[.agg #[.int .i64 ep, .slice a n c]] w fun e w' => e = .returned (.bool (rightM ep l)) ∧ Fr (fun _ => False) w w' :=
  right_any w ep _ l h.rd h.len
theorem ownerM (w : World) (ep : Int) (a : Option Addr) (n c : Nat) (l : List P3) (h : RD w a n c l) (hr : rightM ep l = true) (s : ByteArray) (hs : s.size ≤ maxLen) :
    Calls Try.prog 12 #[.agg #[.int .i64 ep, .slice a n c], .string s] w fun e w' => e = .returned (.tuple #[.int .i64 (ownF l (hashF s)), .bool true]) ∧ Fr (fun _ => False) w w' :=
  owner_any w ep _ l h.rd h.len hr s hs

/-- Block b is a variable that holds a Map. -/
def MV (w : World) (b : Nat) (ep : Int) (a : Option Addr) (n c : Nat) (l : List P3) : Prop := w.heap[b]? = some (.cells #[.int .i64 ep, .slice a n c] 25 (0, 0)) ∧ RD w a n c l
theorem MV.made {w : World} {a : Option Addr} {n c : Nat} {l : List P3} (ep : Int) (h : RD w a n c l) : MV (w.alloc (.cells #[.int .i64 ep, .slice a n c] 25)) w.heap.size ep a n c l :=
  ⟨block_alloc _ _, h.fr0 (Fr.alloc _ _ _)⟩
theorem MV.fr0 {w w' : World} {b : Nat} {ep : Int} {a : Option Addr} {n c : Nat} {l : List P3} (h : MV w b ep a n c l) (g : Fr (fun _ => False) w w') : MV w' b ep a n c l :=
  ⟨(g.block b (lt_of_block h.1) id).trans h.1, h.2.fr0 g⟩
theorem MV.c0 {w : World} {b : Nat} {ep : Int} {a : Option Addr} {n c : Nat} {l : List P3} (h : MV w b ep a n c l) : w.cell? ⟨b, 0, none⟩ = some (.int .i64 ep) := by rw [cell_of_block h.1]; rfl
theorem MV.c1 {w : World} {b : Nat} {ep : Int} {a : Option Addr} {n c : Nat} {l : List P3} (h : MV w b ep a n c l) : w.cell? ⟨b, 1, none⟩ = some (.slice a n c) := by rw [cell_of_block h.1]; rfl
theorem MV.lt {w : World} {b : Nat} {ep : Int} {a : Option Addr} {n c : Nat} {l : List P3} (h : MV w b ep a n c l) : b < w.heap.size := lt_of_block h.1
end Go.Proofs.Ytkaibekeokkpnaa
