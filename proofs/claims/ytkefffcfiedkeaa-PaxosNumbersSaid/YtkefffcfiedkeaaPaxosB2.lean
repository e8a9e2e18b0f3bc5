/- Accepted and Open of a proposer beside the blocks in X. -/
import Derived.Test.YtkefffcfiedkeaaKnownPaxos
import Derived.Test.YtkefffcfiedkeaaPaxosOpen2
namespace Go.Proofs.Ytkefffcfiedkeaa
open Go.RowKit Go.Maps Go.Cv
set_option linter.unusedVariables false

theorem accNoB (w : World) (B : Nat) (X : Nat → Prop) (pb n : Nat) (s : PS) (h : Prb w B X pb n s) (node : Int) (b : Bt) (slot : Int) (hs : -9223372036854775808 ≤ slot ∧ slot ≤ 9223372036854775807) (hno : b ≠ s.b ∨ ¬ (0 ≤ node ∧ node < s.nodes) ∨ pkAt s.ks slot = none) :
    Calls Try.prog 20 #[.pointer (some ⟨pb, 0, none⟩), .int .i64 node, .agg (bcells b), .int .i64 slot] w fun e w' => e = .returned (.bool false) ∧ Prb w' B X pb n s ∧ Fr (fun _ => False) w w' := by
  have h' := h
  obtain ⟨mo, h1, h2⟩ := h
  refine (acc_no w pb mo n s h1 node b slot hs hno).mono ?_
  rintro e w' ⟨rfl, hf⟩
  exact ⟨rfl, h'.fr0 hf, hf⟩
theorem accYesB (w : World) (B : Nat) (X : Nat → Prop) (pb n : Nat) (s : PS) (h : Prb w B X pb n s) (node : Int) (slot : Int) (hs : -9223372036854775808 ≤ slot ∧ slot ≤ 9223372036854775807) (hnode : 0 ≤ node ∧ node < s.nodes) (x : Pk) (hx : pkAt s.ks slot = some x) :
    Calls Try.prog 20 #[.pointer (some ⟨pb, 0, none⟩), .int .i64 node, .agg (bcells s.b), .int .i64 slot] w fun e w' => e = .returned (.bool (decide (s.nodes < 2 * ((addS x.ns node).length : Int)))) ∧ Prb w' B X pb n (accS s x node) ∧ Fr (Off B X) w w' := by
  obtain ⟨mo, h1, h2⟩ := h
  refine (acc_yes w pb mo n s h1 node slot hs hnode x hx).mono ?_
  rintro e w' ⟨rfl, hp, hf⟩
  have hxm := List.mem_of_find?_eq_some hx
  have hnb : x.nb ∈ blocks pb mo s.ks := List.mem_cons_of_mem _ (List.mem_append_right _ (List.mem_flatMap.2 ⟨x, hxm, by simp⟩))
  exact ⟨rfl, ⟨mo, hp, fun k hk => h2 k (by rw [show (accS s x node).ks = s.ks.map (accP x node) from rfl, blocks_acc] at hk; exact hk)⟩, hf.mono (fun k _ hk => by subst hk; exact h2 _ hnb)⟩
theorem openB (w : World) (B : Nat) (X : Nat → Prop) (pb n : Nat) (s : PS) (h : Prb w B X pb n s) (hb : s.b ≠ (0, 0)) (hn : n ≤ 400000) (L : List Int) (hL : L.Pairwise (fun x y => x < y)) (hm : ∀ x, x ∈ L ↔ (vm s.vs (.int .i64 x)).isSome = true ∨ (pkF s.ks (.int .i64 x)).isSome = true)
    (hr : ∀ x ∈ L, -9223372036854775808 ≤ x ∧ x ≤ 9223372036854775807) (hlen : L.length ≤ 1000000) :
    Calls Try.prog 23 #[.pointer (some ⟨pb, 0, none⟩)] w fun e w' => ∃ v, e = .returned v ∧ Reads w' v (L.filter fun x => !decB s x).length 1 ((L.filter fun x => !decB s x).map (Value.int .i64)) ∧ Prb w' B (fun k => X k ∨ v.ownBlock = some k) pb n s ∧ Fr (fun _ => False) w w' := by
  have h' := h
  obtain ⟨mo, h1, h2⟩ := h
  obtain ⟨⟨a, b, c⟩, rfl⟩ : ∃ q, mo = some q := by
    cases mo with
    | some q => exact ⟨q, rfl⟩
    | none => exact absurd (h1.nb rfl) hb
  refine (open_any w pb a b c n s h1 hn L hL hm hr hlen).mono ?_
  rintro e w' ⟨v, rfl, hv, hown, hf⟩
  exact ⟨v, rfl, hv, (h'.sub (fun k hk hx => hx.elim id (fun e => by have := hown k e; omega))).fr0 hf, hf⟩
end Go.Proofs.Ytkefffcfiedkeaa
