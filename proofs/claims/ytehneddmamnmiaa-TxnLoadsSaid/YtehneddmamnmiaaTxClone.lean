/- slices.Clone. Printed by clones.py. -/
import Derived.Test.YtehneddmamnmiaaRows
import Derived.Test.YtehneddmamnmiaaBytes
import Derived.WalkLawsBesides
import Derived.WalkSpells
import Derived.BigQuiet
import Derived.Outline
import Derived.Test.YtehneddmamnmiaaRows2
namespace Go.Proofs.Ytehneddmamnmiaa
open Go.RowKit Go.Maps Go.Cv
set_option linter.unusedVariables false

theorem infoCOp : (Try.prog.info? 26).map (fun i => (i.zero, i.size, i.bytes)) = some (some (Value.agg #[.int .i64 0, .string ⟨#[]⟩, .string ⟨#[]⟩, .int .i64 0]), 4, 48) := by kernel_rfl
theorem sizeCOp : (Value.agg #[.int .i64 0, .string ⟨#[]⟩, .string ⟨#[]⟩, .int .i64 0] : Value).cells.size = 4 := by simp [Value.cells]
set_option maxRecDepth 100000 in
theorem cloneOp_any (w : World) (v : Value) (n : Nat) (xs : List Value) (h : Reads w v n 4 xs) (hone : ∀ u ∈ xs, u.oneCell' = true) (hl : n * 48 ≤ 140737488355328) :
    Calls Try.prog 35 #[v] w fun e w' => ∃ v', e = .returned v' ∧ w'.ownsRow w.heap.size 26 4 v' n xs ∧ Fr (fun _ => False) w w' := by
  obtain ⟨i0, hi0, hz0, hz1, hz2⟩ := info_parts infoCOp
  obtain ⟨hx, a, c, rfl, h0, hnc, hc⟩ := id h
  have heq := fun (wx : World) => Lib.run_eql_slice_nil (P := Try.prog) wx 24 26 a n c 0 0 Try.underlying24
  cases a with
  | none =>
    obtain ⟨rfl, rfl⟩ := h0 rfl
    have : xs = [] := List.eq_nil_of_length_eq_zero (by omega)
    subst this
    clear h0 hc h
    go_enter Try.func35, Try.ntmps35
    go_wp2
    go_ret
    exact ⟨_, rfl, World.ownsRow_nil _ _ _ _, Fr.refl _ _⟩
  | some a =>
    have H := hide h
    have HONE := hide hone
    clear h h0 hc hone hx hnc
    go_enter Try.func35, Try.ntmps35
    have hown0 : (w.alloc (.cells #[] 26)).ownsRow w.heap.size 26 4 (.slice (some ⟨w.heap.size, 0, none⟩) 0 0) 0 [] :=
      World.ownsRow_made w #[] 0 (Nat.le_refl _) (by unfold maxLen; omega) rfl
    have HO0 := hide hown0
    have HR0 := hide (H.out.fr (Fr.alloc (fun _ => False) w (.cells #[] 26)) (fun _ _ _ _ h => h))
    have h1 : 0 + n ≤ maxLen := by unfold maxLen; omega
    have h2 : (0 + n) * 48 ≤ 140737488355328 := by omega
    have h3 : w.heap.size ≤ (w.alloc (.cells #[] 26)).heap.size := by simp
    clear hown0
    go_wp2_with (at_builtin; refine wpList_append_reads _ rfl _ _ _ rfl w.heap.size 26 i0 _ 4 48 Try.underlying24 hi0 hz0 hz1 hz2 sizeCOp (by decide) _ 0 [] rfl HO0.out _ n _ rfl HR0.out HONE.out h1 h2 h3 ?_; intro v2 w2 hown2 hgrow hat; have HO2 := hide hown2; have HG2 := hide hgrow; clear hown2 hgrow hat)
    go_ret
    refine ⟨v2, rfl, ?_, ?_⟩
    · have := HO2.out
      rw [Nat.zero_add] at this
      simpa using this
    · exact ((Fr.alloc (fun k => w.heap.size ≤ k) w _).trans (Fr.grown (S := fun k => w.heap.size ≤ k) HG2.out (fun k hk => by cases hk; exact Nat.le_refl _)) (fun _ _ h => h)).fresh (fun _ h => h)

theorem infoCPart : (Try.prog.info? 78).map (fun i => (i.zero, i.size, i.bytes)) = some (some (Value.agg #[.int .i64 0, .int .i64 0, .int .i64 0]), 3, 24) := by kernel_rfl
theorem sizeCPart : (Value.agg #[.int .i64 0, .int .i64 0, .int .i64 0] : Value).cells.size = 3 := by simp [Value.cells]
set_option maxRecDepth 100000 in
theorem clonePart_any (w : World) (v : Value) (n : Nat) (xs : List Value) (h : Reads w v n 3 xs) (hone : ∀ u ∈ xs, u.oneCell' = true) (hl : n * 24 ≤ 140737488355328) :
    Calls Try.prog 36 #[v] w fun e w' => ∃ v', e = .returned v' ∧ w'.ownsRow w.heap.size 78 3 v' n xs ∧ Fr (fun _ => False) w w' := by
  obtain ⟨i0, hi0, hz0, hz1, hz2⟩ := info_parts infoCPart
  obtain ⟨hx, a, c, rfl, h0, hnc, hc⟩ := id h
  have heq := fun (wx : World) => Lib.run_eql_slice_nil (P := Try.prog) wx 28 78 a n c 0 0 Try.underlying28
  cases a with
  | none =>
    obtain ⟨rfl, rfl⟩ := h0 rfl
    have : xs = [] := List.eq_nil_of_length_eq_zero (by omega)
    subst this
    clear h0 hc h
    go_enter Try.func36, Try.ntmps36
    go_wp2
    go_ret
    exact ⟨_, rfl, World.ownsRow_nil _ _ _ _, Fr.refl _ _⟩
  | some a =>
    have H := hide h
    have HONE := hide hone
    clear h h0 hc hone hx hnc
    go_enter Try.func36, Try.ntmps36
    have hown0 : (w.alloc (.cells #[] 78)).ownsRow w.heap.size 78 3 (.slice (some ⟨w.heap.size, 0, none⟩) 0 0) 0 [] :=
      World.ownsRow_made w #[] 0 (Nat.le_refl _) (by unfold maxLen; omega) rfl
    have HO0 := hide hown0
    have HR0 := hide (H.out.fr (Fr.alloc (fun _ => False) w (.cells #[] 78)) (fun _ _ _ _ h => h))
    have h1 : 0 + n ≤ maxLen := by unfold maxLen; omega
    have h2 : (0 + n) * 24 ≤ 140737488355328 := by omega
    have h3 : w.heap.size ≤ (w.alloc (.cells #[] 78)).heap.size := by simp
    clear hown0
    go_wp2_with (at_builtin; refine wpList_append_reads _ rfl _ _ _ rfl w.heap.size 78 i0 _ 3 24 Try.underlying28 hi0 hz0 hz1 hz2 sizeCPart (by decide) _ 0 [] rfl HO0.out _ n _ rfl HR0.out HONE.out h1 h2 h3 ?_; intro v2 w2 hown2 hgrow hat; have HO2 := hide hown2; have HG2 := hide hgrow; clear hown2 hgrow hat)
    go_ret
    refine ⟨v2, rfl, ?_, ?_⟩
    · have := HO2.out
      rw [Nat.zero_add] at this
      simpa using this
    · exact ((Fr.alloc (fun k => w.heap.size ≤ k) w _).trans (Fr.grown (S := fun k => w.heap.size ≤ k) HG2.out (fun k hk => by cases hk; exact Nat.le_refl _)) (fun _ _ h => h)).fresh (fun _ h => h)

theorem infoCStr : (Try.prog.info? 9).map (fun i => (i.zero, i.size, i.bytes)) = some (some (Value.string ⟨#[]⟩), 1, 16) := by kernel_rfl
theorem sizeCStr : (Value.string ⟨#[]⟩ : Value).cells.size = 1 := by simp [Value.cells]
set_option maxRecDepth 100000 in
theorem cloneStr_any (w : World) (v : Value) (n : Nat) (xs : List Value) (h : Reads w v n 1 xs) (hone : ∀ u ∈ xs, u.oneCell' = true) (hl : n * 16 ≤ 140737488355328) :
    Calls Try.prog 40 #[v] w fun e w' => ∃ v', e = .returned v' ∧ w'.ownsRow w.heap.size 9 1 v' n xs ∧ Fr (fun _ => False) w w' := by
  obtain ⟨i0, hi0, hz0, hz1, hz2⟩ := info_parts infoCStr
  obtain ⟨hx, a, c, rfl, h0, hnc, hc⟩ := id h
  have heq := fun (wx : World) => Lib.run_eql_slice_nil (P := Try.prog) wx 22 9 a n c 0 0 Try.underlying22
  cases a with
  | none =>
    obtain ⟨rfl, rfl⟩ := h0 rfl
    have : xs = [] := List.eq_nil_of_length_eq_zero (by omega)
    subst this
    clear h0 hc h
    go_enter Try.func40, Try.ntmps40
    go_wp2
    go_ret
    exact ⟨_, rfl, World.ownsRow_nil _ _ _ _, Fr.refl _ _⟩
  | some a =>
    have H := hide h
    have HONE := hide hone
    clear h h0 hc hone hx hnc
    go_enter Try.func40, Try.ntmps40
    have hown0 : (w.alloc (.cells #[] 9)).ownsRow w.heap.size 9 1 (.slice (some ⟨w.heap.size, 0, none⟩) 0 0) 0 [] :=
      World.ownsRow_made w #[] 0 (Nat.le_refl _) (by unfold maxLen; omega) rfl
    have HO0 := hide hown0
    have HR0 := hide (H.out.fr (Fr.alloc (fun _ => False) w (.cells #[] 9)) (fun _ _ _ _ h => h))
    have h1 : 0 + n ≤ maxLen := by unfold maxLen; omega
    have h2 : (0 + n) * 16 ≤ 140737488355328 := by omega
    have h3 : w.heap.size ≤ (w.alloc (.cells #[] 9)).heap.size := by simp
    clear hown0
    go_wp2_with (at_builtin; refine wpList_append_reads _ rfl _ _ _ rfl w.heap.size 9 i0 _ 1 16 Try.underlying22 hi0 hz0 hz1 hz2 sizeCStr (by decide) _ 0 [] rfl HO0.out _ n _ rfl HR0.out HONE.out h1 h2 h3 ?_; intro v2 w2 hown2 hgrow hat; have HO2 := hide hown2; have HG2 := hide hgrow; clear hown2 hgrow hat)
    go_ret
    refine ⟨v2, rfl, ?_, ?_⟩
    · have := HO2.out
      rw [Nat.zero_add] at this
      simpa using this
    · exact ((Fr.alloc (fun k => w.heap.size ≤ k) w _).trans (Fr.grown (S := fun k => w.heap.size ≤ k) HG2.out (fun k hk => by cases hk; exact Nat.le_refl _)) (fun _ _ h => h)).fresh (fun _ h => h)

theorem infoCInt : (Try.prog.info? 3).map (fun i => (i.zero, i.size, i.bytes)) = some (some (Value.int .i64 0), 1, 8) := by kernel_rfl
theorem sizeCInt : (Value.int .i64 0 : Value).cells.size = 1 := by simp [Value.cells]
set_option maxRecDepth 100000 in
theorem cloneInt_any (w : World) (v : Value) (n : Nat) (xs : List Value) (h : Reads w v n 1 xs) (hone : ∀ u ∈ xs, u.oneCell' = true) (hl : n * 8 ≤ 140737488355328) :
    Calls Try.prog 65 #[v] w fun e w' => ∃ v', e = .returned v' ∧ w'.ownsRow w.heap.size 3 1 v' n xs ∧ Fr (fun _ => False) w w' := by
  obtain ⟨i0, hi0, hz0, hz1, hz2⟩ := info_parts infoCInt
  obtain ⟨hx, a, c, rfl, h0, hnc, hc⟩ := id h
  have heq := fun (wx : World) => Lib.run_eql_slice_nil (P := Try.prog) wx 38 3 a n c 0 0 Try.underlying38
  cases a with
  | none =>
    obtain ⟨rfl, rfl⟩ := h0 rfl
    have : xs = [] := List.eq_nil_of_length_eq_zero (by omega)
    subst this
    clear h0 hc h
    go_enter Try.func65, Try.ntmps65
    go_wp2
    go_ret
    exact ⟨_, rfl, World.ownsRow_nil _ _ _ _, Fr.refl _ _⟩
  | some a =>
    have H := hide h
    have HONE := hide hone
    clear h h0 hc hone hx hnc
    go_enter Try.func65, Try.ntmps65
    have hown0 : (w.alloc (.cells #[] 3)).ownsRow w.heap.size 3 1 (.slice (some ⟨w.heap.size, 0, none⟩) 0 0) 0 [] :=
      World.ownsRow_made w #[] 0 (Nat.le_refl _) (by unfold maxLen; omega) rfl
    have HO0 := hide hown0
    have HR0 := hide (H.out.fr (Fr.alloc (fun _ => False) w (.cells #[] 3)) (fun _ _ _ _ h => h))
    have h1 : 0 + n ≤ maxLen := by unfold maxLen; omega
    have h2 : (0 + n) * 8 ≤ 140737488355328 := by omega
    have h3 : w.heap.size ≤ (w.alloc (.cells #[] 3)).heap.size := by simp
    clear hown0
    go_wp2_with (at_builtin; refine wpList_append_reads _ rfl _ _ _ rfl w.heap.size 3 i0 _ 1 8 Try.underlying38 hi0 hz0 hz1 hz2 sizeCInt (by decide) _ 0 [] rfl HO0.out _ n _ rfl HR0.out HONE.out h1 h2 h3 ?_; intro v2 w2 hown2 hgrow hat; have HO2 := hide hown2; have HG2 := hide hgrow; clear hown2 hgrow hat)
    go_ret
    refine ⟨v2, rfl, ?_, ?_⟩
    · have := HO2.out
      rw [Nat.zero_add] at this
      simpa using this
    · exact ((Fr.alloc (fun k => w.heap.size ≤ k) w _).trans (Fr.grown (S := fun k => w.heap.size ≤ k) HG2.out (fun k hk => by cases hk; exact Nat.le_refl _)) (fun _ _ h => h)).fresh (fun _ h => h)

end Go.Proofs.Ytehneddmamnmiaa
