/- known, of the statements on paxos. -/
import Derived.Test.YtkefffcfiedkeaaPaxosPick
import Derived.Test.YtkefffcfiedkeaaPaxos2
namespace Go.Proofs.Ytkefffcfiedkeaa
open Go.RowKit Go.Maps Go.Cv
set_option linter.unusedVariables false

/-- A proposer, all of it at B or behind, and beside the blocks in X. -/
def Prb (w : World) (B : Nat) (X : Nat → Prop) (pb n : Nat) (s : PS) : Prop := ∃ mo, Pr w pb mo n s ∧ ∀ k ∈ blocks pb mo s.ks, B ≤ k ∧ ¬ X k
abbrev Off (B : Nat) (X : Nat → Prop) : Nat → Prop := fun k => B ≤ k ∧ ¬ X k
theorem Prb.fr {w w' : World} {B pb n : Nat} {X : Nat → Prop} {s : PS} (h : Prb w B X pb n s) {S : Nat → Prop} (g : Fr S w w') (hS : ∀ k, S k → X k) : Prb w' B X pb n s := by
  obtain ⟨mo, h1, h2⟩ := h; exact ⟨mo, h1.fr g (fun k hk hs => (h2 k hk).2 (hS k hs)), h2⟩
theorem Prb.fr0 {w w' : World} {B pb n : Nat} {X : Nat → Prop} {s : PS} (h : Prb w B X pb n s) (g : Fr (fun _ => False) w w') : Prb w' B X pb n s := h.fr g (fun _ h => h.elim)
theorem Prb.sub {w : World} {B pb n : Nat} {X X' : Nat → Prop} {s : PS} (h : Prb w B X pb n s) (hX : ∀ k, k < w.heap.size → X' k → X k) : Prb w B X' pb n s := by
  obtain ⟨mo, h1, h2⟩ := h; exact ⟨mo, h1, fun k hk => ⟨(h2 k hk).1, fun hx => (h2 k hk).2 (hX k (h1.lt k hk) hx)⟩⟩
theorem newB (w : World) (B : Nat) (X : Nat → Prop) (hX : ∀ k, X k → k < w.heap.size) (hB : B ≤ w.heap.size) (me nodes : Int) (h1 : 1 ≤ nodes) (h2 : nodes ≤ 5) (h3 : 0 ≤ me) (h4 : me < nodes) :
    Calls Try.prog 9 #[.int .i64 me, .int .i64 nodes] w fun e w' => ∃ pb, e = .returned (.tuple #[.pointer (some ⟨pb, 0, none⟩), .int .i64 0]) ∧ Prb w' B X pb 0 (ps0 me nodes) ∧ Fr (fun _ => False) w w' := by
  refine (new_ok w me nodes h1 h2 h3 h4).mono ?_
  rintro e w' ⟨pb, rfl, h, hp, hf⟩
  exact ⟨pb, rfl, ⟨none, hp, fun k hk => by
    simp [blocks, mo3, ps0] at hk
    exact ⟨by omega, fun hx => by have := hX k hx; omega⟩⟩, hf⟩
theorem ballotB (w : World) (B : Nat) (X : Nat → Prop) (pb n : Nat) (s : PS) (h : Prb w B X pb n s) :
    Calls Try.prog 12 #[.pointer (some ⟨pb, 0, none⟩)] w fun e w' => e = .returned (.agg (bcells s.b)) ∧ Fr (fun _ => False) w w' := by
  obtain ⟨mo, h1, h2⟩ := h; exact ballot_any w pb mo n s h1
theorem seenB (w : World) (B : Nat) (X : Nat → Prop) (pb n : Nat) (s : PS) (h : Prb w B X pb n s) (b : Bt) (hb : b.1 ≤ 9223372036854775807) :
    Calls Try.prog 10 #[.pointer (some ⟨pb, 0, none⟩), .agg (bcells b)] w fun e w' => e = .returned (.tuple #[]) ∧ Prb w' B X pb n (seenS s b.1) ∧ Fr (Off B X) w w' := by
  obtain ⟨mo, h1, h2⟩ := h
  refine (seen_any w pb mo n s h1 b hb).mono ?_
  rintro e w' ⟨rfl, hp, hf⟩
  exact ⟨rfl, ⟨mo, hp, h2⟩, hf.mono (fun k _ hk => by subst hk; exact h2 k List.mem_cons_self)⟩
theorem beginB (w : World) (B : Nat) (X : Nat → Prop) (hX : ∀ k, X k → k < w.heap.size) (pb n : Nat) (s : PS) (h : Prb w B X pb n s) (hB : B ≤ w.heap.size) (f : Int) (hf : (Lit.int .i64 f).wf = true) :
    Calls Try.prog 11 #[.pointer (some ⟨pb, 0, none⟩), .int .i64 f] w fun e w' => e = .returned (.agg (bcells (beginS s f).b)) ∧ Prb w' B X pb 0 (beginS s f) ∧ Fr (Off B X) w w' := by
  obtain ⟨mo, h1, h2⟩ := h
  refine (begin_any w pb mo n s h1 f hf).mono ?_
  rintro e w' ⟨rfl, ⟨a, b, c, ⟨ha, hb, hc⟩, hp⟩, hfr⟩
  have hpb := h2 pb List.mem_cons_self
  refine ⟨rfl, ⟨_, hp, fun k hk => ?_⟩, hfr.mono (fun k _ hk => by subst hk; exact hpb)⟩
  simp [blocks, mo3, beginS] at hk
  rcases hk with rfl | hk
  · exact hpb
  · have hk2 : w.heap.size ≤ k := by rcases hk with rfl | rfl | rfl <;> assumption
    exact ⟨by omega, fun hx => by have := hX k hx; omega⟩
theorem promiseB (w : World) (B : Nat) (X : Nat → Prop) (pb n : Nat) (s : PS) (h : Prb w B X pb n s) (node : Int) (b : Bt) (v : Value) (l : List Vt) (hb : b.1 ≤ 9223372036854775807)
    (hv : Reads w v l.length 4 (rowV l)) (hsep : ∀ k, v.ownBlock = some k → X k ∨ k < B) (hn : n + l.length < 1000000000) :
    Calls Try.prog 17 #[.pointer (some ⟨pb, 0, none⟩), .int .i64 node, .agg (bcells b), v] w fun e w' => e = .returned (.tuple #[]) ∧ Prb w' B X pb (n + l.length) (promS s node b l) ∧ Fr (Off B X) w w' := by
  obtain ⟨mo, h1, h2⟩ := h
  refine (promise_any w pb mo n s h1 node b v l hb hv (fun k hk hm => by have := h2 k hm; rcases hsep k hk with h | h; exact this.2 h; omega) hn).mono ?_
  rintro e w' ⟨rfl, hp, hf⟩
  have hks : (promS s node b l).ks = s.ks := by unfold promS; split <;> rfl
  exact ⟨rfl, ⟨mo, hp, fun k hk => h2 k (by rw [hks] at hk; exact hk)⟩, hf.mono (fun k _ hk => h2 k hk)⟩
theorem ledBB (w : World) (B : Nat) (X : Nat → Prop) (pb n : Nat) (s : PS) (h : Prb w B X pb n s) :
    Calls Try.prog 13 #[.pointer (some ⟨pb, 0, none⟩)] w fun e w' => e = .returned (.bool (ledB s)) ∧ w' = w := by
  obtain ⟨mo, h1, h2⟩ := h; exact led_any w pb mo n s h1
theorem pickNoB (w : World) (B : Nat) (X : Nat → Prop) (pb n : Nat) (s : PS) (h : Prb w B X pb n s) (slot : Int) (v : ByteArray) (hno : ledB s = false ∨ slot < s.fr ∨ 512 ≤ slot) :
    Calls Try.prog 18 #[.pointer (some ⟨pb, 0, none⟩), .int .i64 slot, .string v] w fun e w' => e = .returned (.tuple #[.string ⟨#[]⟩, .bool false]) ∧ w' = w := by
  obtain ⟨mo, h1, h2⟩ := h; exact pick_no w pb mo n s h1 slot v hno
theorem pickNewB (w : World) (B : Nat) (X : Nat → Prop) (hX : ∀ k, X k → k < w.heap.size) (pb n : Nat) (s : PS) (h : Prb w B X pb n s) (hB : B ≤ w.heap.size) (hn : n < 1000000000) (slot : Int) (v : ByteArray) (h0 : ledB s = true) (h1 : ¬ slot < s.fr) (h2 : ¬ 512 ≤ slot) (hx : pkAt s.ks slot = none) :
    Calls Try.prog 18 #[.pointer (some ⟨pb, 0, none⟩), .int .i64 slot, .string v] w fun e w' => e = .returned (.tuple #[.string (pickV s slot v), .bool true]) ∧
      (∃ p q, Prb w' B X pb (n + 1) { s with ks := s.ks ++ [⟨slot, p, q, pickV s slot v, []⟩] }) ∧ Fr (Off B X) w w' := by
  obtain ⟨mo, h3, h4⟩ := h
  obtain ⟨⟨a, b, c⟩, rfl⟩ := h3.led_mo h0
  refine (pick_new w pb a b c n s h3 hn slot v h0 h1 h2 hx).mono ?_
  rintro e w' ⟨rfl, ⟨p, q, ⟨hp, hq⟩, hpr⟩, hf⟩
  have hc := h4 c (by simp [blocks, mo3])
  refine ⟨rfl, ⟨p, q, _, hpr, fun k hk => ?_⟩, hf.mono (fun k _ hk => by subst hk; exact hc)⟩
  have e : blocks pb (some (a, b, c)) (s.ks ++ [⟨slot, p, q, pickV s slot v, []⟩]) = blocks pb (some (a, b, c)) s.ks ++ [p, q] := by simp [blocks, mo3]
  have hk' : k ∈ blocks pb (some (a, b, c)) (s.ks ++ [⟨slot, p, q, pickV s slot v, []⟩]) := hk
  rw [e] at hk'
  rcases List.mem_append.1 hk' with hk' | hk'
  · exact h4 k hk'
  · simp at hk'
    have hk2 : w.heap.size ≤ k := by rcases hk' with rfl | rfl <;> assumption
    exact ⟨by omega, fun hx => by have := hX k hx; omega⟩

/-! ### the states of known -/
def kx : ByteArray := ⟨#[120]⟩
def ky : ByteArray := ⟨#[121]⟩
def kS1 : PS := ⟨0, 3, 1, (1, 0), 0, [], [], []⟩
def kS2 : PS := ⟨0, 3, 1, (1, 0), 0, [0], [(5, (1, 1), kx)], []⟩
def kS3 : PS := ⟨0, 3, 1, (1, 0), 0, [0, 2], [(5, (1, 1), kx)], []⟩
theorem k1 : beginS (ps0 0 3) 0 = kS1 := rfl
theorem k2 : promS kS1 0 (1, 0) [(5, (1, 1), kx)] = kS2 := rfl
theorem k3 : promS kS2 2 (1, 0) [] = kS3 := rfl
theorem k4 : pickV kS3 5 ky = kx := rfl

set_option maxRecDepth 100000 in
set_option maxHeartbeats 3200000 in
theorem known_any (w : World) : Calls Try.prog 14 #[] w fun e w' => e = .returned (.bool true) ∧ Fr (fun _ => False) w w' := by
  go_enter Try.func14, Try.ntmps14
  go_wp2_with fail
  refine (newB w w.heap.size (fun _ => False) (fun _ h => h.elim) (Nat.le_refl _) 0 3 (by omega) (by omega) (by omega) (by omega)).mono ?_
  rintro e w1 ⟨pb, rfl, h, hf⟩
  have A1 := hide h
  have F1 := hide (hf.mono (S' := fun k => w.heap.size ≤ k) (fun _ _ h => h.elim))
  have hs1 := hf.size
  clear h hf
  go_wp2_with fail
  refine (beginB w1 _ _ (fun _ h => h.elim) pb 0 _ A1.out hs1 0 (by decide)).mono ?_
  rw [k1]
  rintro e w2 ⟨rfl, h, hf⟩
  have hbs : bcells kS1.b = #[.int .i64 1, .int .i64 0] := rfl
  rw [hbs]
  -- the ballot's box
  obtain ⟨qb, hqb⟩ : ∃ xb, w2.heap.size = xb := ⟨_, rfl⟩
  obtain ⟨w3, hw3⟩ : ∃ y, w2.alloc (.cells #[.int .i64 1, .int .i64 0] 29) = y := ⟨_, rfl⟩
  have hb3 : w3.heap[qb]? = some (.cells #[.int .i64 1, .int .i64 0] 29 (0, 0)) := by rw [← hw3, ← hqb]; exact block_alloc _ _
  have hfa : Fr (fun _ => False) w2 w3 := by rw [← hw3]; exact Fr.alloc _ _ _
  obtain ⟨rb, hrb⟩ : ∃ xb, w3.heap.size = xb := ⟨_, rfl⟩
  obtain ⟨w4, hw4⟩ : ∃ y, w3.alloc (.cells #[.int .i64 5, .int .i64 1, .int .i64 1, .string ⟨#[120]⟩] 56) = y := ⟨_, rfl⟩
  have hb4 : w4.heap[rb]? = some (.cells #[.int .i64 5, .int .i64 1, .int .i64 1, .string ⟨#[120]⟩] 56 (0, 0)) := by rw [← hw4, ← hrb]; exact block_alloc _ _
  have hfb : Fr (fun _ => False) w3 w4 := by rw [← hw4]; exact Fr.alloc _ _ _
  have hqr : qb < rb := by rw [← hrb]; exact lt_of_block hb3
  have hr4 : rb < w4.heap.size := lt_of_block hb4
  have hqb4 := (hfb.block _ (lt_of_block hb3) id).trans hb3
  have hA4 : Prb w4 w.heap.size (fun k => k = qb ∨ k = rb) pb 0 kS1 := ((h.sub (X' := fun k => k = qb ∨ k = rb) (fun k hk hx => by omega)).fr0 hfa).fr0 hfb
  have hF4 := F1.out.trans (hf.mono (S' := fun k => w.heap.size ≤ k) (fun _ _ h => h.1)) (fun _ _ h => h)
  have hF4 := (hF4.trans hfa (fun _ _ h => h.elim)).trans hfb (fun _ _ h => h.elim)
  have hr : Reads w4 (.slice (some ⟨rb, 0, none⟩) 1 1) 1 4 (rowV [(5, (1, 1), kx)]) :=
    ⟨rfl, _, _, rfl, (by intro h; cases h), Nat.le_refl _, fun i u hu => ⟨_, _, rfl, by rw [cell_of_block hb4]; simpa [rowV, vcells, kx] using hu⟩⟩
  have hc0 : w3.cell? ⟨qb, 0, none⟩ = some (.int .i64 1) := by rw [cell_of_block hb3]; rfl
  have hc1 : w3.cell? ⟨qb, 1, none⟩ = some (.int .i64 0) := by rw [cell_of_block hb3]; rfl
  have hX : ∀ wx, Fr (Off w.heap.size (fun k => k = qb ∨ k = rb)) w4 wx → wx.cell? ⟨qb, 0, none⟩ = some (.int .i64 1) ∧ wx.cell? ⟨qb, 1, none⟩ = some (.int .i64 0) ∧ wx.heap[qb]? = w4.heap[qb]? := fun wx hg => by
    have e := hg.block qb (lt_of_block hqb4) (fun hh => hh.2 (.inl rfl))
    exact ⟨by rw [cell_of_block (e.trans hqb4)]; rfl, by rw [cell_of_block (e.trans hqb4)]; rfl, e⟩
  have hp1 := promiseB w4 w.heap.size (fun k => k = qb ∨ k = rb) pb 0 kS1 hA4 0 (1, 0) (.slice (some ⟨rb, 0, none⟩) 1 1) [(5, (1, 1), kx)] (by decide) hr (fun k hk => .inl (by simp [Value.ownBlock] at hk; exact .inr hk.symm)) (by simp)
  rw [k2] at hp1
  have HW3 := hide hw3
  have HQB := hide hqb
  have HW4 := hide hw4
  have HRB := hide hrb
  have HX := hide hX
  have HP1 := hide (show Calls Try.prog 17 #[.pointer (some ⟨pb, 0, none⟩), .int .i64 0, .agg #[.int .i64 1, .int .i64 0], .slice (some ⟨rb, 0, none⟩) 1 1] w4 _ from hp1)
  have HF4 := hide hF4
  clear h hf hw3 hqb hw4 hrb hb3 hb4 hfa hfb hqb4 hA4 hF4 hr hX hp1
  go_upto_region 5 with fail
  rw [HW3.out, HQB.out]
  go_wp2_with fail
  rw [HW4.out, HRB.out]
  refine HP1.out.mono ?_
  rintro e w5 ⟨rfl, h5, hf5⟩
  obtain ⟨e0, e1, _⟩ := HX.out w5 hf5
  have A5 := hide h5
  have G5 := hide hf5
  clear h5 hf5 hc0 hc1
  go_wp2_with fail
  refine (pickNoB w5 _ _ pb _ kS2 A5.out 5 ⟨#[121]⟩ (.inl rfl)).mono ?_
  rintro e w6 ⟨rfl, rfl⟩
  have hp2 := promiseB w6 w.heap.size (fun k => k = qb ∨ k = rb) pb _ kS2 A5.out 2 (1, 0) (.slice none 0 0) [] (by decide) (Reads.nil _ _) (fun k hk => by simp [Value.ownBlock] at hk) (by simp)
  rw [k3] at hp2
  have HP2 := hide (show Calls Try.prog 17 #[.pointer (some ⟨pb, 0, none⟩), .int .i64 2, .agg #[.int .i64 1, .int .i64 0], .slice none 0 0] w6 _ from hp2)
  clear hp2
  go_wp2_with fail
  refine HP2.out.mono ?_
  rintro e w7 ⟨rfl, h7, hf7⟩
  have A7 := hide h7
  have G7 := hide (G5.out.trans hf7 (fun _ _ h => h))
  have hs7 := G7.out.size
  have hX7 : ∀ k, k = qb ∨ k = rb → k < w7.heap.size := fun k hk => by omega
  have hB7 : w.heap.size ≤ w7.heap.size := by have := HF4.out.size; omega
  clear h7 hf7 e0 e1
  go_wp2_with fail
  refine (pickNewB w7 _ _ hX7 pb _ kS3 A7.out hB7 (by simp) 5 ⟨#[121]⟩ rfl (by decide) (by decide) rfl).mono ?_
  rw [show pickV kS3 5 ⟨#[121]⟩ = kx from k4]
  rintro e w8 ⟨rfl, ⟨p8, q8, h8⟩, hf8⟩
  have A8 := hide h8
  have G8 := hide (G7.out.trans hf8 (fun _ _ h => h))
  have hX8 : ∀ k, k = qb ∨ k = rb → k < w8.heap.size := fun k hk => by have := hf8.size; omega
  have hB8 : w.heap.size ≤ w8.heap.size := by have := hf8.size; omega
  have hkx : kx = ⟨#[120]⟩ := rfl
  rw [hkx]
  clear h8 hf8 hX7 hB7 hs7
  go_wp2_with fail
  refine (pickNewB w8 _ _ hX8 pb _ _ A8.out hB8 (by simp) 6 ⟨#[121]⟩ rfl (by show ¬ (6 : Int) < 0; decide) (by decide) rfl).mono ?_
  rintro e w9 ⟨rfl, ⟨p9, q9, h9⟩, hf9⟩
  have hpv : pickV { kS3 with ks := kS3.ks ++ [⟨5, p8, q8, kx, []⟩] } 6 ⟨#[121]⟩ = ⟨#[121]⟩ := rfl
  rw [hpv] at h9
  rw [hpv]
  have A9 := hide h9
  have hf9' := G8.out.trans hf9 (fun _ _ h => h)
  obtain ⟨e0, e1, _⟩ := HX.out w9 hf9'
  have G9 := hide hf9'
  have hled := ledBB w9 _ _ pb _ _ A9.out
  have HLED := hide (show Calls Try.prog 13 #[.pointer (some ⟨pb, 0, none⟩)] w9 fun e w' => e = .returned (.bool true) ∧ w' = w9 from hled)
  have heq := run_eqB w9 1 0 1 0
  simp at heq
  clear h9 hf9 hf9' hled hX8 hB8
  go_wp2_with fail
  refine HLED.out.mono ?_
  rintro e w' ⟨rfl, rfl⟩
  go_wp2_with fail
  go_ret
  exact ⟨rfl, (HF4.out.trans G9.out (fun _ _ h => h.1)).fresh (fun _ h => h)⟩
end Go.Proofs.Ytkefffcfiedkeaa
