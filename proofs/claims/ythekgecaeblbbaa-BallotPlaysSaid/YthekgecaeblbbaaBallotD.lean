/- An acceptor whose blocks lie between B and D: all else is left as it is. -/
import Derived.Test.YthekgecaeblbbaaKnownBallot
namespace Go.Proofs.Ythekgecaeblbbaa
open Go.RowKit Go.Maps Go.Cv
set_option linter.unusedVariables false

def Acd (w : World) (B D ab n : Nat) (p : Bt) (l : List Vt) : Prop := ∃ mb, Ac w ab mb n p l ∧ (B ≤ ab ∧ ab < D) ∧ (B ≤ mb ∧ mb < D)
abbrev Mid (B D : Nat) : Nat → Prop := fun k => B ≤ k ∧ k < D

theorem Acd.fr {w w' : World} {B D ab n : Nat} {p : Bt} {l : List Vt} (h : Acd w B D ab n p l) {S : Nat → Prop} (g : Fr S w w') (hS : ∀ k, k < D → B ≤ k → ¬ S k) : Acd w' B D ab n p l := by
  obtain ⟨mb, h1, h2, h3⟩ := h; exact ⟨mb, h1.fr g (hS _ h2.2 h2.1) (hS _ h3.2 h3.1), h2, h3⟩
theorem Acd.fr0 {w w' : World} {B D ab n : Nat} {p : Bt} {l : List Vt} (h : Acd w B D ab n p l) (g : Fr (fun _ => False) w w') : Acd w' B D ab n p l := h.fr g (fun _ _ _ => id)
theorem Acd.acc {w : World} {B D ab n : Nat} {p : Bt} {l : List Vt} (h : Acd w B D ab n p l) : Acc w B ab n p l := by
  obtain ⟨mb, h1, h2, h3⟩ := h; exact ⟨mb, h1, h2.1, h3.1⟩
theorem Acd.sorted {w : World} {B D ab n : Nat} {p : Bt} {l : List Vt} (h : Acd w B D ab n p l) : Sorted l := by obtain ⟨mb, h1, _⟩ := h; exact h1.st
theorem Acd.slots {w : World} {B D ab n : Nat} {p : Bt} {l : List Vt} (h : Acd w B D ab n p l) : ∀ x ∈ l, 0 ≤ x.1 ∧ x.1 < 512 := by obtain ⟨mb, h1, _⟩ := h; exact h1.sl

theorem newAcd (w : World) : Calls Try.prog 11 #[] w fun e w' => ∃ ab, e = .returned (.pointer (some ⟨ab, 0, none⟩)) ∧ Acd w' w.heap.size w'.heap.size ab 0 (0, 0) [] ∧ Fr (fun _ => False) w w' := by
  refine (newAc_any w).mono ?_
  rintro e w' ⟨ab, mb, rfl, h1, h2, h3, h4⟩
  exact ⟨ab, rfl, ⟨mb, h3, ⟨h1, lt_of_block h3.blk⟩, ⟨h2, h3.map.lt⟩⟩, h4⟩

/-- What Accept leaves. -/
def acceptP (p b : Bt) (s : Int) : Bt := if acceptB p b s then b else p
def acceptL (p b : Bt) (s : Int) (l : List Vt) (v : ByteArray) : List Vt := if acceptB p b s then putV l (s, b, v) else l

theorem acceptAcd (w : World) (B D ab n : Nat) (p : Bt) (l : List Vt) (h : Acd w B D ab n p l) (hn : n ≤ 1000000) (b : Bt) (s : Int) (v : ByteArray) :
    Calls Try.prog 16 #[.pointer (some ⟨ab, 0, none⟩), .agg (bcells b), .int .i64 s, .string v] w fun e w' => e = .returned (.bool (acceptB p b s)) ∧ Acd w' B D ab (n + 1) (acceptP p b s) (acceptL p b s l v) ∧ Fr (Mid B D) w w' := by
  obtain ⟨mb, h1, h2, h3⟩ := h
  unfold acceptP acceptL
  cases hy : acceptB p b s with
  | true =>
    have hy' := hy
    simp only [acceptB, Bool.and_eq_true, Bool.not_eq_true', decide_eq_true_eq] at hy'
    refine (accept_yes w ab mb n p l h1 (by unfold maxLen; omega) b s v hy'.1.1.1 hy'.1.1.2 hy'.1.2 hy'.2).mono ?_
    rintro e w' ⟨rfl, h4, h5⟩
    exact ⟨rfl, ⟨mb, h4, h2, h3⟩, h5.mono (fun k _ hk => by rcases hk with rfl | rfl <;> assumption)⟩
  | false =>
    have hno : less b p = true ∨ b = (0, 0) ∨ s < 0 ∨ 512 ≤ s := by
      unfold acceptB at hy
      cases e : less b p with
      | true => exact .inl rfl
      | false =>
        right
        rw [e] at hy
        by_cases e2 : b = (0, 0)
        · exact .inl e2
        · right; simp [e2] at hy; omega
    refine (accept_no w ab mb n p l h1 b s v hno).mono ?_
    rintro e w' ⟨rfl, h5⟩
    have h6 := h1.fr0 h5
    exact ⟨rfl, ⟨mb, ⟨h6.blk, h6.map.mono (Nat.le_succ _), h6.ne, h6.st, h6.sl⟩, h2, h3⟩, h5.mono (fun _ _ h => h.elim)⟩

theorem prepareAcd (w : World) (B D ab n : Nat) (p : Bt) (l : List Vt) (h : Acd w B D ab n p l) (hn : n ≤ 1000000) (b : Bt) (s : Int) :
    Calls Try.prog 15 #[.pointer (some ⟨ab, 0, none⟩), .agg (bcells b), .int .i64 s] w fun e w' => ∃ v, e = .returned (.tuple #[.bool (less p b), v]) ∧ Acd w' B D ab n (if less p b then b else p) l ∧
      w'.ownsRow w.heap.size 40 4 v (if less p b then fromV l s else []).length (rowV (if less p b then fromV l s else [])) ∧ Fr (Mid B D) w w' := by
  obtain ⟨mb, h1, h2, h3⟩ := h
  refine (prepare_any w ab mb n p l h1 hn b s).mono ?_
  rintro e w' ⟨v, rfl, hc⟩
  cases hy : less p b with
  | true =>
    rw [hy] at hc
    rcases hc with ⟨h4, _⟩ | ⟨_, h4, h5, h6⟩
    · cases h4
    · exact ⟨v, rfl, ⟨mb, h4, h2, h3⟩, h5, h6.mono (fun k _ hk => by subst hk; exact h2)⟩
  | false =>
    rw [hy] at hc
    rcases hc with ⟨_, rfl, h6⟩ | ⟨h4, _⟩
    · exact ⟨_, rfl, ⟨mb, h1.fr0 h6, h2, h3⟩, World.ownsRow_nil _ _ _ _, h6.mono (fun _ _ h => h.elim)⟩
    · cases h4
theorem votesAcd (w : World) (B D ab n : Nat) (p : Bt) (l : List Vt) (h : Acd w B D ab n p l) (hn : n ≤ 1000000) (s : Int) :
    Calls Try.prog 14 #[.pointer (some ⟨ab, 0, none⟩), .int .i64 s] w fun e w' => ∃ v', e = .returned v' ∧ w'.ownsRow w.heap.size 40 4 v' (fromV l s).length (rowV (fromV l s)) ∧ Acd w' B D ab n p l ∧ Fr (fun _ => False) w w' := by
  have h' := h
  obtain ⟨mb, h1, h2, h3⟩ := h'
  refine (votes_any w ab mb n p l h1 hn s).mono ?_
  rintro e w' ⟨v', rfl, h4, h5⟩
  exact ⟨v', rfl, h4, h.fr0 h5, h5⟩
theorem promisedAcd (w : World) (B D ab n : Nat) (p : Bt) (l : List Vt) (h : Acd w B D ab n p l) :
    Calls Try.prog 13 #[.pointer (some ⟨ab, 0, none⟩)] w fun e w' => e = .returned (.agg (bcells p)) ∧ Acd w' B D ab n p l ∧ Fr (fun _ => False) w w' := by
  have h' := h
  obtain ⟨mb, h1, h2, h3⟩ := h'
  refine (promised_any w ab mb n p l h1).mono ?_
  rintro e w' ⟨rfl, h5⟩
  exact ⟨rfl, h.fr0 h5, h5⟩

/-! ### the plain law -/
theorem less_irrefl (a : Bt) : less a a = false := by simp [less]
theorem less_trans_no {a b c : Bt} (h1 : less b a = false) (h2 : less c b = false) : less c a = false := by
  obtain ⟨a1, a2⟩ := a; obtain ⟨b1, b2⟩ := b; obtain ⟨c1, c2⟩ := c
  simp only [less, decide_eq_false_iff_not] at *; omega
theorem less_asymm {a b : Bt} (h : less a b = true) : less b a = false := by
  obtain ⟨a1, a2⟩ := a; obtain ⟨b1, b2⟩ := b
  simp only [less, decide_eq_false_iff_not, decide_eq_true_eq] at *; omega

/-- No vote is above what is promised. -/
def Inv (p : Bt) (l : List Vt) : Prop := ∀ x ∈ l, less p x.2.1 = false
/-- What one call may do. -/
structure Rise (p : Bt) (l : List Vt) (p' : Bt) (l' : List Vt) : Prop where
  up : less p' p = false
  inv : Inv p' l'
  votes : ∀ x ∈ l', ∀ y ∈ l, y.1 = x.1 → less x.2.1 y.2.1 = false

theorem same_slot {l : List Vt} (h : Sorted l) {x y : Vt} (hx : x ∈ l) (hy : y ∈ l) (e : x.1 = y.1) : x = y := by
  obtain ⟨i, hi⟩ := List.mem_iff_getElem?.1 hx
  obtain ⟨j, hj⟩ := List.mem_iff_getElem?.1 hy
  have h1 := at_of_mem h hi
  have h2 := at_of_mem h hj
  rw [e, h2] at h1
  exact (Option.some.inj h1).symm
theorem Rise.keep {p : Bt} {l : List Vt} (hs : Sorted l) (hi : Inv p l) {p' : Bt} (h : less p' p = false) : Rise p l p' l :=
  ⟨h, fun x hx => less_trans_no (hi x hx) h, fun x hx y hy e => by rw [same_slot hs hx hy e.symm]; exact less_irrefl _⟩
theorem rise_prepare {p : Bt} {l : List Vt} (hs : Sorted l) (hi : Inv p l) (b : Bt) : Rise p l (if less p b then b else p) l := by
  cases h : less p b with
  | true => exact Rise.keep hs hi (less_asymm h)
  | false => exact Rise.keep hs hi (less_irrefl _)
theorem rise_accept {p : Bt} {l : List Vt} (hs : Sorted l) (hi : Inv p l) (b : Bt) (s : Int) (v : ByteArray) : Rise p l (acceptP p b s) (acceptL p b s l v) := by
  unfold acceptP acceptL
  cases h : acceptB p b s with
  | false => exact Rise.keep hs hi (less_irrefl _)
  | true =>
    simp only [acceptB, Bool.and_eq_true, Bool.not_eq_true', decide_eq_true_eq] at h
    have hb := h.1.1.1
    refine ⟨hb, fun x hx => ?_, fun x hx y hy e => ?_⟩
    · simp only [putV, List.mem_append, List.mem_filter, List.mem_singleton, if_true] at hx
      rcases hx with (⟨hx, _⟩ | rfl) | ⟨hx, _⟩
      · exact less_trans_no (hi x hx) hb
      · exact less_irrefl _
      · exact less_trans_no (hi x hx) hb
    · simp only [putV, List.mem_append, List.mem_filter, List.mem_singleton, if_true] at hx
      rcases hx with (⟨hx, _⟩ | rfl) | ⟨hx, _⟩
      · rw [same_slot hs hx hy e.symm]; exact less_irrefl _
      · exact less_trans_no (hi y hy) hb
      · rw [same_slot hs hx hy e.symm]; exact less_irrefl _
theorem fromV_all {l : List Vt} (h : ∀ x ∈ l, 0 ≤ x.1 ∧ x.1 < 512) : fromV l 0 = l := by
  unfold fromV; rw [List.filter_eq_self]; intro x hx; have := h x hx; simp; omega
end Go.Proofs.Ythekgecaeblbbaa
