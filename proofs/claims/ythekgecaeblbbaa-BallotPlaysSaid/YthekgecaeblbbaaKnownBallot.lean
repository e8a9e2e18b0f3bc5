/- known, of the statements on ballot. -/
import Derived.Test.YthekgecaeblbbaaBallot3
namespace Go.Proofs.Ythekgecaeblbbaa
open Go.RowKit Go.Maps Go.Cv
set_option linter.unusedVariables false

/-- An acceptor, all of it at B or behind. -/
def Acc (w : World) (B ab n : Nat) (p : Bt) (l : List Vt) : Prop := ∃ mb, Ac w ab mb n p l ∧ B ≤ ab ∧ B ≤ mb

theorem Acc.fr {w w' : World} {B ab n : Nat} {p : Bt} {l : List Vt} (h : Acc w B ab n p l) (g : Fr (fun _ => False) w w') : Acc w' B ab n p l := by
  obtain ⟨mb, h1, h2, h3⟩ := h; exact ⟨mb, h1.fr0 g, h2, h3⟩
theorem Acc.votes_le {w : World} {B ab n : Nat} {p : Bt} {l : List Vt} (h : Acc w B ab n p l) : l.length ≤ 512 := by
  obtain ⟨mb, h, _⟩ := h
  have h1 : ∀ l : List Vt, ∀ b : Int, Sorted l → (∀ x ∈ l, b ≤ x.1 ∧ x.1 < 512) → (l.length : Int) ≤ max (512 - b) 0 := by
    intro l
    induction l with
    | nil => intro b _ _; simp; omega
    | cons y t ih =>
      intro b hs hb
      have h2 := List.pairwise_cons.1 hs
      have h3 := hb y List.mem_cons_self
      have h4 := ih (y.1 + 1) h2.2 (fun x hx => ⟨by have := h2.1 x hx; omega, (hb x (List.mem_cons_of_mem _ hx)).2⟩)
      simp only [List.length_cons]; omega
  have := h1 l 0 h.st h.sl
  omega

theorem newAcc (w : World) (B : Nat) (hB : B ≤ w.heap.size) :
    Calls Try.prog 11 #[] w fun e w' => ∃ ab, e = .returned (.pointer (some ⟨ab, 0, none⟩)) ∧ w.heap.size ≤ ab ∧ Acc w' B ab 0 (0, 0) [] ∧ Fr (fun _ => False) w w' := by
  refine (newAc_any w).mono ?_
  rintro e w' ⟨ab, mb, rfl, h1, h2, h3, h4⟩
  exact ⟨ab, rfl, h1, ⟨mb, h3, by omega, by omega⟩, h4⟩

theorem acceptAcc (w : World) (B ab n : Nat) (p : Bt) (l : List Vt) (h : Acc w B ab n p l) (hn : n ≤ 1000000) (b : Bt) (s : Int) (v : ByteArray) (hy : acceptB p b s = true) :
    Calls Try.prog 16 #[.pointer (some ⟨ab, 0, none⟩), .agg (bcells b), .int .i64 s, .string v] w fun e w' => e = .returned (.bool true) ∧ Acc w' B ab (n + 1) b (putV l (s, b, v)) ∧ Fr (fun k => B ≤ k) w w' := by
  obtain ⟨mb, h1, h2, h3⟩ := h
  simp only [acceptB, Bool.and_eq_true, Bool.not_eq_true', decide_eq_true_eq] at hy
  refine (accept_yes w ab mb n p l h1 (by unfold maxLen; omega) b s v hy.1.1.1 hy.1.1.2 hy.1.2 hy.2).mono ?_
  rintro e w' ⟨rfl, h4, h5⟩
  exact ⟨rfl, ⟨mb, h4, h2, h3⟩, h5.mono (fun k _ hk => by rcases hk with rfl | rfl <;> assumption)⟩

theorem refuseAcc (w : World) (B ab n : Nat) (p : Bt) (l : List Vt) (h : Acc w B ab n p l) (b : Bt) (s : Int) (v : ByteArray) (hy : acceptB p b s = false) :
    Calls Try.prog 16 #[.pointer (some ⟨ab, 0, none⟩), .agg (bcells b), .int .i64 s, .string v] w fun e w' => e = .returned (.bool false) ∧ Acc w' B ab n p l ∧ Fr (fun _ => False) w w' := by
  have h' := h
  obtain ⟨mb, h1, h2, h3⟩ := h'
  have hno : less b p = true ∨ b = (0, 0) ∨ s < 0 ∨ 512 ≤ s := by
    unfold acceptB at hy
    cases e : less b p with
    | true => exact .inl rfl
    | false =>
      right
      rw [e] at hy
      by_cases e2 : b = (0, 0)
      · exact .inl e2
      · right; simp [e2] at hy; omega
  refine (accept_no w ab mb n p l h1 b s v hno).mono ?_
  rintro e w' ⟨rfl, h5⟩
  exact ⟨rfl, h.fr h5, h5⟩

theorem prepareAcc (w : World) (B ab n : Nat) (p : Bt) (l : List Vt) (h : Acc w B ab n p l) (hn : n ≤ 1000000) (b : Bt) (s : Int) (hy : less p b = true) :
    Calls Try.prog 15 #[.pointer (some ⟨ab, 0, none⟩), .agg (bcells b), .int .i64 s] w fun e w' => ∃ v, e = .returned (.tuple #[.bool true, v]) ∧ Acc w' B ab n b l ∧ w'.ownsRow w.heap.size 40 4 v (fromV l s).length (rowV (fromV l s)) ∧ Fr (fun k => B ≤ k) w w' := by
  obtain ⟨mb, h1, h2, h3⟩ := h
  refine (prepare_any w ab mb n p l h1 hn b s).mono ?_
  rintro e w' ⟨v, rfl, hc⟩
  rw [hy] at hc ⊢
  rcases hc with ⟨h4, _⟩ | ⟨_, h4, h5, h6⟩
  · cases h4
  · exact ⟨v, rfl, ⟨mb, h4, h2, h3⟩, h5, h6.mono (fun k _ hk => by omega)⟩
theorem prepareNoAcc (w : World) (B ab n : Nat) (p : Bt) (l : List Vt) (h : Acc w B ab n p l) (hn : n ≤ 1000000) (b : Bt) (s : Int) (hy : less p b = false) :
    Calls Try.prog 15 #[.pointer (some ⟨ab, 0, none⟩), .agg (bcells b), .int .i64 s] w fun e w' => e = .returned (.tuple #[.bool false, .slice none 0 0]) ∧ Acc w' B ab n p l ∧ Fr (fun _ => False) w w' := by
  have h' := h
  obtain ⟨mb, h1, h2, h3⟩ := h'
  refine (prepare_any w ab mb n p l h1 hn b s).mono ?_
  rintro e w' ⟨v, rfl, hc⟩
  rw [hy] at hc ⊢
  rcases hc with ⟨_, rfl, h6⟩ | ⟨h4, _⟩
  · exact ⟨rfl, h.fr h6, h6⟩
  · cases h4
theorem votesAcc (w : World) (B ab n : Nat) (p : Bt) (l : List Vt) (h : Acc w B ab n p l) (hn : n ≤ 1000000) (s : Int) :
    Calls Try.prog 14 #[.pointer (some ⟨ab, 0, none⟩), .int .i64 s] w fun e w' => ∃ v', e = .returned v' ∧ w'.ownsRow w.heap.size 40 4 v' (fromV l s).length (rowV (fromV l s)) ∧ Acc w' B ab n p l ∧ Fr (fun _ => False) w w' := by
  have h' := h
  obtain ⟨mb, h1, h2, h3⟩ := h'
  refine (votes_any w ab mb n p l h1 hn s).mono ?_
  rintro e w' ⟨v', rfl, h4, h5⟩
  exact ⟨v', rfl, h4, h.fr h5, h5⟩
theorem promisedAcc (w : World) (B ab n : Nat) (p : Bt) (l : List Vt) (h : Acc w B ab n p l) :
    Calls Try.prog 13 #[.pointer (some ⟨ab, 0, none⟩)] w fun e w' => e = .returned (.agg (bcells p)) ∧ Acc w' B ab n p l ∧ Fr (fun _ => False) w w' := by
  have h' := h
  obtain ⟨mb, h1, h2, h3⟩ := h'
  refine (promised_any w ab mb n p l h1).mono ?_
  rintro e w' ⟨rfl, h5⟩
  exact ⟨rfl, h.fr h5, h5⟩

theorem known_less : less (0, 0) (1, 0) = true ∧ less (1, 0) (1, 0) = false ∧ less (1, 0) (2, 0) = true ∧ acceptB (1, 0) (1, 0) 3 = true := by decide
theorem known_votes : fromV (putV [] (3, (1, 0), ⟨#[120]⟩)) 0 = [(3, (1, 0), ⟨#[120]⟩)] := by decide

set_option maxRecDepth 100000 in
set_option maxHeartbeats 1600000 in
theorem known_any (w : World) : Calls Try.prog 10 #[] w fun e w' => e = .returned (.bool true) ∧ Fr (fun _ => False) w w' := by
  obtain ⟨l1, l2, l3, l4⟩ := known_less
  have L1 := hide l1
  have L2 := hide l2
  have L3 := hide l3
  have L4 := hide l4
  clear l1 l2 l3 l4
  go_enter Try.func10, Try.ntmps10
  go_wp2_with fail
  refine (newAcc w w.heap.size (Nat.le_refl _)).mono ?_
  rintro e w1 ⟨ab, rfl, hab, h, hf⟩
  have A1 := hide h
  have F1 := hide (hf.mono (S' := fun k => w.heap.size ≤ k) (fun _ _ h => h.elim))
  clear h hf
  go_wp2_with fail
  refine (prepareAcc w1 _ ab 0 _ _ A1.out (by omega) (1, 0) 0 L1.out).mono ?_
  rintro e w2 ⟨v2, rfl, h, ho, hf⟩
  obtain ⟨a2, c2, rfl⟩ := own_shape ho
  have A2 := hide h
  have F2 := hide (F1.out.trans hf (fun _ _ h => h))
  clear h hf ho
  go_wp2_with fail
  refine (prepareNoAcc w2 _ ab 0 _ _ A2.out (by omega) (1, 0) 0 L2.out).mono ?_
  rintro e w3 ⟨rfl, h, hf⟩
  have A3 := hide h
  have F3 := hide (F2.out.trans hf (fun _ _ h => h.elim))
  clear h hf
  go_wp2_with fail
  refine (acceptAcc w3 _ ab 0 _ _ A3.out (by omega) (1, 0) 3 ⟨#[120]⟩ L4.out).mono ?_
  rintro e w4 ⟨rfl, h, hf⟩
  have A4 := hide h
  have F4 := hide (F3.out.trans hf (fun _ _ h => h))
  clear h hf
  go_wp2_with fail
  refine (prepareAcc w4 _ ab 1 _ _ A4.out (by omega) (2, 0) 0 L3.out).mono ?_
  rw [known_votes]
  rintro e w5 ⟨v5, rfl, h, ho, hf⟩
  have hr := Reads.of_own ho
  obtain ⟨a5, c5, rfl⟩ := own_shape ho
  have F5 := hide (F4.out.trans hf (fun _ _ h => h))
  have hfa := Fr.alloc (fun _ => False) w5 (.cells #[.int .i64 3, .int .i64 1, .int .i64 0, .string ⟨#[120]⟩] 40)
  have hr2 : Reads (w5.alloc (.cells #[.int .i64 3, .int .i64 1, .int .i64 0, .string ⟨#[120]⟩] 40)) (.slice (some ⟨w5.heap.size, 0, none⟩) 1 1) 1 4 (rowV [(3, (1, 0), ⟨#[120]⟩)]) :=
    ⟨rfl, _, _, rfl, (by intro h; cases h), Nat.le_refl _, fun i u hu => ⟨_, _, rfl, by rw [cell_of_block (block_alloc w5 _)]; simpa [rowV, vcells] using hu⟩⟩
  have hk := keepVotes_any (w5.alloc (.cells #[.int .i64 3, .int .i64 1, .int .i64 0, .string ⟨#[120]⟩] 40)) (.slice a5 1 c5) (.slice (some ⟨w5.heap.size, 0, none⟩) 1 1) [(3, (1, 0), ⟨#[120]⟩)] [(3, (1, 0), ⟨#[120]⟩)] (reads_old hr hfa (fun _ _ => id)) hr2 (by simp)
  rw [decide_eq_true rfl] at hk
  have HK := hide hk
  clear h hf ho hr hfa hr2 hk
  go_wp2_with fail
  refine HK.out.mono ?_
  rintro e w6 ⟨rfl, m6, rfl⟩
  go_wp2_with fail
  go_ret
  exact ⟨rfl, (F5.out.trans ((Fr.alloc (fun k => w.heap.size ≤ k) w5 _).drewN m6) (fun _ _ h => h)).fresh (fun _ h => h)⟩
end Go.Proofs.Ythekgecaeblbbaa
