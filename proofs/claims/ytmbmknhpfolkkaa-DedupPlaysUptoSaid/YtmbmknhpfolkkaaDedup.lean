/- The table of dedup. -/
import Derived.Test.YtmbmknhpfolkkaaRows
import Derived.Test.YtmbmknhpfolkkaaCells
import Derived.Deep.RegionLaw
import Derived.WalkLawsBesides
import Derived.WalkSpells
import Derived.BigQuiet
import Derived.Outline
import Derived.Deep.RegionHeld3
import Derived.Shelf.Abstract
import Derived.Test.YtmbmknhpfolkkaaRows2
namespace Go.Proofs.Ytmbmknhpfolkkaa
open Go.RowKit Go.Maps Go.Cv Go.Shelf
set_option linter.unusedVariables false

/-- A client's last request: client, number, reply. -/
abbrev L3 := ByteArray × Int × ByteArray
def lc (x : L3) : List Value := [.string x.1, .int .i64 x.2.1, .string x.2.2]
theorem lc_len (x : L3) : (lc x).length = 3 := rfl
def rowOf (l : List L3) : List Value := l.flatMap lc
theorem rowOf_len (l : List L3) : (rowOf l).length = l.length * 3 := flat_len lc 3 lc_len l

/-- Block tb is a table of at most `most` clients: its slice v holds l. -/
structure Tb (w : World) (tb : Nat) (v : Value) (most : Int) (l : List L3) : Prop where
  blk : w.heap[tb]? = some (.cells #[.int .i64 most, v] 50 (0, 0))
  own : w.ownsRow (tb + 1) 53 3 v l.length (rowOf l)

theorem Tb.fr {w w' : World} {tb : Nat} {v : Value} {most : Int} {l : List L3} (h : Tb w tb v most l) {S : Nat → Prop} (g : Fr S w w') (h1 : ¬ S tb) (h2 : ∀ k, v.ownBlock = some k → ¬ S k) : Tb w' tb v most l :=
  ⟨(g.block _ (lt_of_block h.blk) h1).trans h.blk, ownsRow_fr h.own g h2⟩
theorem Tb.fr0 {w w' : World} {tb : Nat} {v : Value} {most : Int} {l : List L3} (h : Tb w tb v most l) (g : Fr (fun _ => False) w w') : Tb w' tb v most l := h.fr g id (fun _ _ => id)

/-- The closure of find. -/
theorem same_any (w : World) (x : L3) (B : Nat) (c : ByteArray) (hB : w.cell? ⟨B, 0, none⟩ = some (.string c)) (r : Bool) (hr : (x.1.toList == c.toList) = r) :
    Calls Try.prog 35 #[.agg (lc x).toArray, .pointer (some ⟨B, 0, none⟩)] w fun e w' => e = .returned (.bool r) ∧ Fr (fun _ => False) w w' := by
  have hlt := World.block_lt_of_cell? w _ hB
  have hne : B ≠ w.heap.size := by simp at hlt; omega
  obtain ⟨c0, i0, r0⟩ := x
  show Calls _ _ #[.agg #[.string c0, .int .i64 i0, .string r0], .pointer (some ⟨B, 0, none⟩)] w _
  have hr' : (c0.toList == c.toList) = r := hr
  cases r
  all_goals
    go_enter Try.func35, Try.ntmps35
    go_wp2
    go_ret
    exact ⟨rfl, Fr.alloc _ _ _⟩

/-- Where a client is: its first place, or -1. -/
def Found (l : List L3) (c : ByteArray) (r : Int) : Prop :=
  (∃ (k : Nat) (x : L3), l[k]? = some x ∧ x.1 = c ∧ (∀ j y, j < k → l[j]? = some y → y.1 ≠ c) ∧ r = k) ∨ ((∀ y ∈ l, y.1 ≠ c) ∧ r = -1)

theorem bytes_beq_self (c : ByteArray) : (c.toList == c.toList) = true := by simp

set_option maxRecDepth 100000 in
set_option maxHeartbeats 800000 in
theorem seek_any (w : World) (v : Value) (l : List L3) (h : Reads w v l.length 3 (rowOf l)) (hl : l.length ≤ maxLen) (B : Nat) (c : ByteArray) (hB : w.cell? ⟨B, 0, none⟩ = some (.string c)) (r : Int) (hr : Found l c r) :
    Calls Try.prog 34 #[v, .func (.func 35) #[] #[.pointer (some ⟨B, 0, none⟩)]] w fun e w' => e = .returned (.int .i64 r) ∧ Fr (fun _ => False) w w' := by
  have eg : ∀ args w, (callFunc 35 args).run Try.prog w = .ok (.enter 35 args) w := enters_of Try.func35 (by kernel_rfl) rfl
  obtain ⟨n, hn⟩ : ∃ n, l.length = n := ⟨_, rfl⟩
  have h' := h
  rw [hn] at h'
  obtain ⟨_, a, cp, rfl, h0, _, hc⟩ := h'
  have hlB := World.block_lt_of_cell? w _ hB
  unfold maxLen at hl
  have hn' : n ≤ 9223372036854775807 := by omega
  have HB := hide hB
  have H := hide h
  have HN := hide hn
  have HR := hide hr
  clear h hn h0 hc hB hr hl
  go_enter Try.func34, Try.ntmps34
  go_wp2_with fail
  go_loopw [5, 8] (fun _ i wr => ∃ k : Nat, i = .int .i64 k ∧ k ≤ n ∧ Fr (fun _ => False) w wr ∧ Hid (∀ j y, j < k → l[j]? = some y → y.1 ≠ c))
    (fun _ i _ => n - (intOf i).toNat)
  case atStart => exact ⟨0, rfl, Nat.zero_le _, Fr.refl _ _, fun j y hj => absurd hj (Nat.not_lt_zero _)⟩
  case round =>
    obtain ⟨k, rfl, hk, hf, A⟩ := hrel
    have HF := hide hf
    clear hf
    by_cases hlt : k < n
    · obtain ⟨x, hx⟩ : ∃ x, l[k]? = some x := ⟨_, List.getElem?_eq_getElem (by have := HN.out; omega)⟩
      have h' := H.out
      rw [HN.out] at h'
      obtain ⟨b0, o0, rfl, hlt0, hcells⟩ := row_cells lc_len h' hx (by decide)
      obtain ⟨c0, i0, r0⟩ := x
      have e0 := hcells 0 (.string c0) rfl wr (HF.out.block _ hlt0 id)
      rw [Nat.add_zero] at e0
      have e1 := hcells 1 (.int .i64 i0) rfl wr (HF.out.block _ hlt0 id)
      have e2 := hcells 2 (.string r0) rfl wr (HF.out.block _ hlt0 id)
      have ik1 : (k : Int) < (n : Int) := by omega
      have eB : wr.cell? ⟨B, 0, none⟩ = some (.string c) := by
        rw [World.cell?_of_block (w := w) (HF.out.block B (by simpa using hlB) id)]; exact HB.out
      have HX := hide hx
      have hcl : ∀ q, (c0.toList == c.toList) = q → Calls Try.prog 35 #[.agg #[.string c0, .int .i64 i0, .string r0], .pointer (some ⟨B, 0, none⟩)] wr fun e w' => e = .returned (.bool q) ∧ Fr (fun _ => False) wr w' := fun q hq => same_any wr (c0, i0, r0) B c eB q hq
      have HCL := hide hcl
      clear hcells hx h' eB hcl
      by_cases hs : c0 = c
      · subst hs
        have hres : r = k := by
          rcases HR.out with ⟨k', x', h1, h2, h3, rfl⟩ | ⟨h1, rfl⟩
          · rcases Nat.lt_trichotomy k k' with h | h | h
            · exact absurd rfl (h3 k _ h HX.out)
            · omega
            · exact absurd h2 (A.out k' x' h h1)
          · exact absurd rfl (h1 _ (List.mem_of_getElem? HX.out))
        subst hres
        go_wp2_with (go_at_fn 35; refine (HCL.out true (by simp)).mono ?_; rintro e w' ⟨rfl, hf'⟩)
        go_ret
        exact ⟨rfl, HF.out.trans hf' (fun _ _ h => h)⟩
      · have hsb := bytes_beq hs
        have HS := hide hs
        clear hs
        go_wp2_with (go_at_fn 35; refine (HCL.out false hsb).mono ?_; rintro e w' ⟨rfl, hf'⟩)
        go_roundw
        case rel => 
          refine ⟨k + 1, by go_num, by omega, HF.out.trans hf' (fun _ _ h => h), fun j y hj hy => ?_⟩
          by_cases e : j < k
          · exact A.out j y e hy
          · have : j = k := by omega
            subst this
            rw [HX.out] at hy; cases hy; exact HS.out
        case measure => simp [intOf]; omega
    · have hres : r = -1 := by
        rcases HR.out with ⟨k', x', h1, h2, h3, rfl⟩ | ⟨h1, rfl⟩
        · have := (List.getElem?_eq_some_iff.1 h1).1
          rw [HN.out] at this
          exact absurd h2 (A.out k' x' (by omega) h1)
        · rfl
      subst hres
      have ik1 : ¬ (k : Int) < (n : Int) := by omega
      go_wp2_with fail
      go_ret
      exact ⟨rfl, HF.out⟩

theorem found_ex (l : List L3) (c : ByteArray) : ∃ r, Found l c r := by
  induction l with
  | nil => exact ⟨-1, .inr ⟨by simp, rfl⟩⟩
  | cons x t ih =>
    by_cases h : x.1 = c
    · exact ⟨0, .inl ⟨0, x, rfl, h, fun j y hj => absurd hj (Nat.not_lt_zero _), rfl⟩⟩
    · obtain ⟨r, h1 | h1⟩ := ih
      · obtain ⟨k, y, h2, h3, h4, rfl⟩ := h1
        refine ⟨k + 1, .inl ⟨k + 1, y, by simpa using h2, h3, fun j z hj hz => ?_, rfl⟩⟩
        cases j with
        | zero => simp at hz; subst hz; exact h
        | succ j => exact h4 j z (by omega) (by simpa using hz)
      · obtain ⟨h2, rfl⟩ := h1
        refine ⟨-1, .inr ⟨fun y hy => ?_, rfl⟩⟩
        rcases List.mem_cons.1 hy with rfl | hy
        · exact h
        · exact h2 y hy

theorem find_any (w : World) (tb : Nat) (v : Value) (most : Int) (l : List L3) (h : Tb w tb v most l) (hl : l.length ≤ maxLen) (c : ByteArray) (r : Int) (hr : Found l c r) :
    Calls Try.prog 20 #[.pointer (some ⟨tb, 0, none⟩), .string c] w fun e w' => e = .returned (.int .i64 r) ∧ Fr (fun _ => False) w w' := by
  have hb : tb < w.heap.size := lt_of_block h.blk
  have hf0 : Fr (fun _ => False) w (w.alloc (.cells #[.string c] 9)) := Fr.alloc _ _ _
  have h2 := h.fr0 hf0
  have c1 : (w.alloc (.cells #[.string c] 9)).cell? ⟨tb, 1, none⟩ = some v := by rw [cell_of_block h2.blk]; rfl
  have hs := seek_any _ v l (Reads.of_own h2.own) hl w.heap.size c (by rw [cell_of_block (block_alloc w _)]; rfl) r hr
  have HS := hide hs
  have H := hide h
  clear hs h h2 hr
  go_enter Try.func20, Try.ntmps20
  go_wp2_with fail
  refine HS.out.mono ?_
  rintro e w1 ⟨rfl, hf⟩
  go_wp2_with fail
  go_ret
  exact ⟨rfl, hf0.trans hf (fun _ _ h => h)⟩
end Go.Proofs.Ytmbmknhpfolkkaa
