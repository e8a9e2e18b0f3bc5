/- BallotPlays's walk. -/
import Derived.Test.YthekgecaeblbbaaRefBallot3
import Derived.Test.YthekgecaeblbbaaBallotBack
import Derived.Test.YthekgecaeblbbaaBallotForget
import Derived.Test.YthekgecaeblbbaaKnownBallot
namespace Go.Proofs.Ythekgecaeblbbaa.BallotPlays
open Go.RowKit Go.Maps Go.Cv Go.Shelf
set_option linter.unusedVariables false

/-- One call: kind, slot, ballot, value. -/
abbrev Ask5 := Int × Int × Bt × ByteArray
abbrev cellsAsk (a : Ask5) : List Value := [.int .i64 a.1, .int .i64 a.2.1, .int .i64 a.2.2.1.1, .int .i64 a.2.2.1.2, .string a.2.2.2]

theorem sv_le {p : Bt} {l : List Vt} {M : Nat} (h : ∀ x ∈ l, x.2.2.size ≤ M) : (sv p l).length ≤ 20 + l.length * (24 + M) := by
  have e : ∀ l : List Vt, (∀ x ∈ l, x.2.2.size ≤ M) → (l.flatMap entryV).length ≤ l.length * (24 + M) := by
    intro l
    induction l with
    | nil => intro _; simp
    | cons x t ih =>
      intro h
      have h1 := ih (fun y hy => h y (List.mem_cons_of_mem _ hy))
      have h2 := h x List.mem_cons_self
      rw [List.flatMap_cons, List.length_append, entryV_len, List.length_cons, Nat.succ_mul]
      omega
  have := e l h
  unfold sv svk
  simp only [List.length_append, beN_length, ballotB_len]; omega

/-- What holds of an acceptor's parts. -/
structure BI (p : Bt) (l : List Vt) : Prop where
  pz : less p (0, 0) = false
  wp : (Lit.int .i64 p.1).wf = true ∧ (Lit.int .i64 p.2).wf = true
  wv : ∀ x ∈ l, (Lit.int .i64 x.2.1.1).wf = true ∧ (Lit.int .i64 x.2.1.2).wf = true
  nz : ∀ x ∈ l, less (0, 0) x.2.1 = true
  le : Inv p l
  sz : ∀ x ∈ l, x.2.2.size ≤ 200
theorem BI.start : BI (0, 0) [] := ⟨by decide, ⟨by decide, by decide⟩, by simp, by simp, (by intro x hx; cases hx), by simp⟩
theorem BI.prepare {p : Bt} {l : List Vt} (h : BI p l) (b : Bt) (hb : (Lit.int .i64 b.1).wf = true ∧ (Lit.int .i64 b.2).wf = true) : BI (if less p b then b else p) l := by
  cases hl : less p b with
  | false => exact h
  | true => exact ⟨less_trans_no h.pz (less_asymm hl), hb, h.wv, h.nz, fun x hx => less_trans_no (h.le x hx) (less_asymm hl), h.sz⟩
theorem pos_of {b : Bt} (h1 : less b (0, 0) = false) (h2 : b ≠ (0, 0)) : less (0, 0) b = true := by
  obtain ⟨x, y⟩ := b
  unfold less at h1 ⊢
  have h3 := of_decide_eq_false h1
  refine decide_eq_true ?_
  show 0 < x ∨ (0 = x ∧ 0 < y)
  have h4 : ¬ (x = 0 ∧ y = 0) := fun e => h2 (by rw [e.1, e.2])
  simp only at h3
  omega
theorem BI.accept {p : Bt} {l : List Vt} (h : BI p l) (hs : Sorted l) (b : Bt) (s : Int) (v : ByteArray) (hb : (Lit.int .i64 b.1).wf = true ∧ (Lit.int .i64 b.2).wf = true) (hv : v.size ≤ 200) : BI (acceptP p b s) (acceptL p b s l v) := by
  have hr := (rise_accept hs h.le b s v).inv
  unfold acceptP acceptL at *
  cases hy : acceptB p b s with
  | false => exact h
  | true =>
    rw [hy] at hr
    simp only [acceptB, Bool.and_eq_true, Bool.not_eq_true', decide_eq_true_eq] at hy
    have hb0 := less_trans_no h.pz hy.1.1.1
    have hm : ∀ (P : Vt → Prop), (∀ x ∈ l, P x) → P (s, b, v) → ∀ x ∈ putV l (s, b, v), P x := by
      intro P h1 h2 x hx
      simp only [putV, List.mem_append, List.mem_filter, List.mem_singleton] at hx
      rcases hx with (⟨hx, _⟩ | rfl) | ⟨hx, _⟩
      · exact h1 x hx
      · exact h2
      · exact h1 x hx
    exact ⟨hb0, hb, hm _ h.wv hb, hm _ h.nz (pos_of hb0 hy.1.1.2), hr, hm _ h.sz hv⟩
theorem BI.forget {p : Bt} {l : List Vt} (h : BI p l) (s : Int) : BI p (fromV l s) :=
  ⟨h.pz, h.wp, fun x hx => h.wv x (List.mem_filter.1 hx).1, fun x hx => h.nz x (List.mem_filter.1 hx).1, fun x hx => h.le x (List.mem_filter.1 hx).1, fun x hx => h.sz x (List.mem_filter.1 hx).1⟩
theorem BI.good {p : Bt} {l : List Vt} (h : BI p l) (hs : Sorted l) (hl : ∀ x ∈ l, 0 ≤ x.1 ∧ x.1 < 512) (hn : l.length ≤ 512) : GoodV p l :=
  ⟨hs, hn, h.pz, h.wp, hl, h.wv, h.nz, h.le, fun x hx => by have := h.sz x hx; omega⟩

/-- Both acceptors. -/
structure PB (w : World) (B B1 D1 ab n rb : Nat) (u : Value) (p : Bt) (l : List Vt) : Prop where
  a : Acd w B1 D1 ab n p l
  r : Ra w rb u p l
  b1 : B ≤ B1
  d1 : D1 ≤ w.heap.size
  br : B ≤ rb
  nr : ¬ (B1 ≤ rb ∧ rb < D1)
  nu : ∀ k, u.ownBlock = some k → ¬ (B1 ≤ k ∧ k < D1)
theorem PB.fr {w w' : World} {B B1 D1 ab n rb : Nat} {u : Value} {p : Bt} {l : List Vt} (h : PB w B B1 D1 ab n rb u p l) (g : Fr (fun _ => False) w w') : PB w' B B1 D1 ab n rb u p l :=
  ⟨h.a.fr0 g, h.r.fr0 g, h.b1, Nat.le_trans h.d1 g.size, h.br, h.nr, h.nu⟩
theorem PB.ab {w : World} {B B1 D1 ab n rb : Nat} {u : Value} {p : Bt} {l : List Vt} (h : PB w B B1 D1 ab n rb u p l) : ab < D1 := by obtain ⟨mb, _, h1, _⟩ := h.a; exact h1.2
/-- The program's acceptor turned, then the document's. -/
theorem PB.both {w w1 w2 : World} {B B1 D1 ab n n' rb : Nat} {u : Value} {p p' : Bt} {l l' : List Vt} (h : PB w B B1 D1 ab n rb u p l) (h1 : Acd w1 B1 D1 ab n' p' l') (f1 : Fr (Mid B1 D1) w w1) (h2 : RaT w1 w2 rb u p' l') :
    ∃ u', PB w2 B B1 D1 ab n' rb u' p' l' ∧ Fr (fun k => Mid B1 D1 k ∨ k = rb) w w2 := by
  obtain ⟨u', q1, q2, q3⟩ := h2
  refine ⟨u', ⟨h1.fr q3 (fun k k1 k2 e => h.nr (by subst e; exact ⟨k2, k1⟩)), q1, h.b1, Nat.le_trans h.d1 (Nat.le_trans f1.size q3.size), h.br, h.nr, ?_⟩, (f1.mono (S' := fun k => Mid B1 D1 k ∨ k = rb) (fun _ _ h => .inl h)).trans q3 (fun _ _ h => .inr h)⟩
  rcases q2 with rfl | q2
  · exact h.nu
  · intro k hk; have := q2 k hk; have := h.d1; have := f1.size; omega
theorem PB.mid {w w1 : World} {B B1 D1 ab n rb : Nat} {u : Value} {p : Bt} {l : List Vt} (h : PB w B B1 D1 ab n rb u p l) (f1 : Fr (Mid B1 D1) w w1) : Ra w1 rb u p l := h.r.fr f1 h.nr (fun k hk => h.nu k hk)

theorem rAcceptAll (w : World) (rb : Nat) (u : Value) (p : Bt) (l : List Vt) (h : Ra w rb u p l) (hl : l.length ≤ 1000) (hst : Sorted l) (b : Bt) (s : Int) (v : ByteArray) :
    Calls Try.prog 23 #[.pointer (some ⟨rb, 0, none⟩), .agg (bcells b), .int .i64 s, .string v] w fun e w' => e = .returned (.bool (acceptB p b s)) ∧ RaT w w' rb u (acceptP p b s) (acceptL p b s l v) := by
  unfold acceptP acceptL
  cases hy : acceptB p b s with
  | true =>
    have hy' := hy
    simp only [acceptB, Bool.and_eq_true, Bool.not_eq_true', decide_eq_true_eq] at hy'
    exact rAccept_yes w rb u p l h hl hst b s v hy'.1.1.1 hy'.1.1.2 hy'.1.2 hy'.2
  | false =>
    have hno : less b p = true ∨ b = (0, 0) ∨ s < 0 ∨ 512 ≤ s := by
      unfold acceptB at hy
      cases e : less b p with
      | true => exact .inl rfl
      | false =>
        right
        rw [e] at hy
        by_cases e2 : b = (0, 0)
        · exact .inl e2
        · right; simp [e2] at hy; omega
    refine (rAccept_no w rb u p l h b s v hno).mono ?_
    rintro e w' ⟨rfl, h5⟩
    exact ⟨rfl, u, h.fr0 h5, .inl rfl, h5.mono (fun _ _ h => h.elim)⟩
theorem rPrepareAll (w : World) (rb : Nat) (u : Value) (p : Bt) (l : List Vt) (h : Ra w rb u p l) (hl : l.length ≤ 1000000) (b : Bt) (s : Int) :
    Calls Try.prog 22 #[.pointer (some ⟨rb, 0, none⟩), .agg (bcells b), .int .i64 s] w fun e w' => ∃ v, e = .returned (.tuple #[.bool (less p b), v]) ∧ RaT w w' rb u (if less p b then b else p) l ∧
      w'.ownsRow w.heap.size 40 4 v (if less p b then fromV l s else []).length (rowV (if less p b then fromV l s else [])) := by
  refine (rPrepare_any w rb u p l h hl b s).mono ?_
  rintro e w' ⟨v, rfl, hc⟩
  cases hy : less p b with
  | true =>
    rw [hy] at hc
    rcases hc with ⟨h4, _⟩ | ⟨_, h4, h5, h6⟩
    · cases h4
    · exact ⟨v, rfl, ⟨u, h4, .inl rfl, h6⟩, h5⟩
  | false =>
    rw [hy] at hc
    rcases hc with ⟨_, rfl, h6⟩ | ⟨h4, _⟩
    · exact ⟨_, rfl, ⟨u, h.fr0 h6, .inl rfl, h6.mono (fun _ _ h => h.elim)⟩, World.ownsRow_nil _ _ _ _⟩
    · cases h4

theorem run_neqB (w : World) (a b c d : Int) : (binOp .neq 23 (.agg #[.int .i64 a, .int .i64 b]) (.agg #[.int .i64 c, .int .i64 d])).run Try.prog w = .ok (.bool (!(a == c && b == d))) w := by
  have h := run_eqB w a b c d
  rw [run_eql_struct] at h
  rw [run_neq_struct]
  cases hr : (Op.equalIn 10000 23 (.agg #[.int .i64 a, .int .i64 b]) (.agg #[.int .i64 c, .int .i64 d])).run Try.prog w with
  | ok v w' => rw [hr] at h; simp [Result.andThen] at h ⊢; obtain ⟨h1, h2⟩ := h; exact ⟨by rw [h1], h2⟩
  | halt _ _ => rw [hr] at h; simp [Result.andThen] at h

set_option maxRecDepth 100000 in
set_option maxHeartbeats 12800000 in
theorem walk (w : World) (v0 : Value) (l0 : List Ask5) (h0 : Reads w v0 l0.length 5 (l0.flatMap cellsAsk)) (hg0 : ∀ a ∈ l0, (Lit.int .i64 a.1).wf = true ∧ (Lit.int .i64 a.2.1).wf = true ∧ ((Lit.int .i64 a.2.2.1.1).wf = true ∧ (Lit.int .i64 a.2.2.1.2).wf = true) ∧ a.2.2.2.size ≤ maxLen) (hl0 : l0.length ≤ maxLen)
    (a1 : Bt) (_ : (Lit.int .i64 a1.1).wf = true ∧ (Lit.int .i64 a1.2).wf = true) (a2 : Bt) (_ : (Lit.int .i64 a2.1).wf = true ∧ (Lit.int .i64 a2.2).wf = true) :
    Calls Try.prog 8 #[v0, .agg (bcells a1), .agg (bcells a2)] w fun e w' => e = .returned (.bool true) ∧ Below w.heap.size w w' := by
  obtain ⟨n1, hn1⟩ : ∃ n, l0.length = n := ⟨_, rfl⟩
  rw [hn1] at h0 hl0
  obtain ⟨-, s1, k1, rfl, -, -, -⟩ := id h0
  have hn9 : (n1 : Int) ≤ 9223372036854775807 := by unfold maxLen at hl0; omega
  obtain ⟨p1, p2⟩ := a1
  obtain ⟨q1, q2⟩ := a2
  show Calls _ _ #[.slice s1 n1 k1, .agg #[.int .i64 p1, .int .i64 p2], .agg #[.int .i64 q1, .int .i64 q2]] w _
  obtain ⟨wb, hwb⟩ : ∃ wb, (w.alloc (.cells #[.int .i64 p1, .int .i64 p2] 23)).alloc (.cells #[.int .i64 q1, .int .i64 q2] 23) = wb := ⟨_, rfl⟩
  have hbA : wb.heap[w.heap.size]? = some (.cells #[.int .i64 p1, .int .i64 p2] 23 (0, 0)) := by rw [← hwb]; exact (Below.heap_alloc _ _ _ (by simp)).trans (block_alloc w _)
  have hbB : wb.heap[w.heap.size + 1]? = some (.cells #[.int .i64 q1, .int .i64 q2] 23 (0, 0)) := by rw [← hwb]; simpa using block_alloc (w.alloc (.cells #[.int .i64 p1, .int .i64 p2] 23)) (.cells #[.int .i64 q1, .int .i64 q2] 23)
  have hFb : Fr (fun _ => False) w wb := by rw [← hwb]; exact (Fr.alloc _ _ _).trans (Fr.alloc (fun _ => False) _ _) (fun _ _ h => h)
  have hC : ∀ wx, Fr (fun _ => False) wb wx → wx.cell? ⟨w.heap.size, 0, none⟩ = some (.int .i64 p1) ∧ wx.cell? ⟨w.heap.size, 1, none⟩ = some (.int .i64 p2) ∧ wx.cell? ⟨w.heap.size + 1, 0, none⟩ = some (.int .i64 q1) ∧ wx.cell? ⟨w.heap.size + 1, 1, none⟩ = some (.int .i64 q2) := fun wx hf => by
    have e1 := (hf.block _ (lt_of_block hbA) id).trans hbA
    have e2 := (hf.block _ (lt_of_block hbB) id).trans hbB
    exact ⟨by rw [cell_of_block e1]; rfl, by rw [cell_of_block e1]; rfl, by rw [cell_of_block e2]; rfl, by rw [cell_of_block e2]; rfl⟩
  obtain ⟨lq, hlq⟩ : ∃ q, less (p1, p2) (q1, q2) = q := ⟨_, rfl⟩
  have hL1 : ∀ w, Calls Try.prog 9 #[.agg #[.int .i64 p1, .int .i64 p2], .agg #[.int .i64 q1, .int .i64 q2]] w fun e w' => e = .returned (.bool lq) ∧ Fr (fun _ => False) w w' := fun w => by
    have := less_any w (p1, p2) (q1, q2); rwa [hlq] at this
  have hL2 : ∀ w, Calls Try.prog 21 #[.agg #[.int .i64 p1, .int .i64 p2], .agg #[.int .i64 q1, .int .i64 q2]] w fun e w' => e = .returned (.bool lq) ∧ Fr (fun _ => False) w w' := fun w => by
    have := rLess_any w (p1, p2) (q1, q2); rwa [hlq] at this
  have hlql : (lq != lq) = false := by simp
  have HWB := hide hwb
  have HFB := hide hFb
  have HC := hide hC
  have HL1 := hide hL1
  have HL2 := hide hL2
  have HR := hide h0
  have HN := hide hn1
  have HG := hide hg0
  clear h0 hn1 hg0 hwb hbA hbB hFb hC hlq hL1 hL2
  go_enter Try.func8, Try.ntmps8
  go_wp2_with fail
  rw [HWB.out]
  refine (newAcd wb).mono ?_
  rintro e w1 ⟨ab, rfl, ha, hf⟩
  have HA1 := hide ha
  have HF1 := hide hf
  clear ha hf
  obtain ⟨w2, hw2⟩ : ∃ w2, w1.alloc (.cells #[.int .i64 0, .int .i64 0, .slice none 0 0] 54) = w2 := ⟨_, rfl⟩
  have hf2 : Fr (fun _ => False) w1 w2 := by rw [← hw2]; exact Fr.alloc _ _ _
  have hr2 : Ra w2 w1.heap.size (.slice none 0 0) (0, 0) [] := ⟨by rw [← hw2]; exact block_alloc _ _, World.ownsRow_nil _ _ _ _⟩
  obtain ⟨c0, c1, c2, c3⟩ := HC.out w2 (HF1.out.trans hf2 (fun _ _ h => h))
  obtain ⟨B, hB⟩ : ∃ B, w.heap.size = B := ⟨_, rfl⟩
  have hP0 : PB w2 B wb.heap.size w1.heap.size ab 0 w1.heap.size (.slice none 0 0) (0, 0) [] :=
    ⟨HA1.out.fr0 hf2, hr2, by rw [← hB]; exact HFB.out.size, hf2.size, by have := HFB.out.size; have := HF1.out.size; omega, by omega, fun k hk => by cases hk⟩
  obtain ⟨rb, hrb⟩ : ∃ rb, w1.heap.size = rb := ⟨_, rfl⟩
  rw [hrb] at hP0
  have HP0 := hide hP0
  have HF2 := hide ((HFB.out.trans HF1.out (fun _ _ h => h)).trans hf2 (fun _ _ h => h))
  have HW2 := hide hw2
  have HB := hide hB
  have HRB := hide hrb
  clear hw2 hf2 hr2 hP0 HA1 hB hrb
  go_upto_region 3 with fail
  rw [HW2.out, HRB.out]
  go_region_held3 (fun w' => w'.cell? ⟨w.heap.size, 0, none⟩ = some (.int .i64 p1) ∧ w'.cell? ⟨w.heap.size, 1, none⟩ = some (.int .i64 p2) ∧ w'.cell? ⟨w.heap.size + 1, 0, none⟩ = some (.int .i64 q1) ∧ w'.cell? ⟨w.heap.size + 1, 1, none⟩ = some (.int .i64 q2)) (go_keep)
    (first
      | (go_at_call 9; with_reducible refine (HL1.out _).mono ?_; rintro e y1 ⟨rfl, hf3⟩; have hx3 := (Fr.refl (fun _ => False) w2).drew.trans hf3 (fun _ _ h => h); obtain ⟨d0, d1, d2, d3⟩ := HC.out y1 ((HF1.out.trans (Hid.out (hide (show Fr (fun _ => False) w1 w2 from by rw [← HW2.out]; exact Fr.alloc _ _ _))) (fun _ _ h => h)).trans hx3 (fun _ _ h => h)); have HX3 := hide hx3; clear hf3 hx3)
      | (go_at_call 21; with_reducible refine (HL2.out _).mono ?_; rintro e y2 ⟨rfl, hf4⟩; have hx4 := HX3.out.trans hf4 (fun _ _ h => h); obtain ⟨d4, d5, d6, d7⟩ := HC.out y2 ((HF1.out.trans (Hid.out (hide (show Fr (fun _ => False) w1 w2 from by rw [← HW2.out]; exact Fr.alloc _ _ _))) (fun _ _ h => h)).trans hx4 (fun _ _ h => h)); have HX4 := hide hx4; clear hf4 hx4))
  all_goals
    have hP := HP0.out.fr HX4.out
    have HPS := hide hP
    have HFS := hide ((HF2.out.trans HX4.out (fun _ _ h => h)).mono (S' := fun k => B ≤ k) (fun _ _ h => h.elim))
    clear hP c0 c1 c2 c3 d0 d1 d2 d3 d4 d5 d6 d7 HX3 HX4 HL1 HL2 HC hlql HP0 HF2 HW2 HFB HF1 HWB
    go_wp2_with fail
    go_loopw [7, 9] (fun t i wr => ∃ (k n ab B1 D1 : Nat) (u : Value) (p : Bt) (l : List Vt), t = .pointer (some ⟨ab, 0, none⟩) ∧ i = .int .i64 k ∧ k ≤ n1 ∧ k ≤ 60 ∧ n ≤ 512 + k ∧ PB wr B B1 D1 ab n rb u p l ∧ BI p l ∧ Fr (fun k => B ≤ k) w wr)
      (fun _ i _ => n1 - (intOf i).toNat)
    case atStart => exact ⟨0, 0, ab, _, _, _, (0, 0), [], rfl, rfl, Nat.zero_le _, by omega, by omega, HPS.out, BI.start, HFS.out⟩
    case round =>
      obtain ⟨k, n, ab, B1, D1, u, p, l, rfl, rfl, hk1, hk2, hn, hp, hi, hf⟩ := hrel
      have HP := hide hp
      have HI := hide hi
      have HF := hide hf
      clear hp hi hf HPS HFS
      by_cases hgo : k < n1 ∧ k < 60
      · obtain ⟨hg1, hg2⟩ := hgo
        have ik1 : (k : Int) < (n1 : Int) := by omega
        have ik2 : (k : Int) < 60 := by omega
        have ik0 : (0 : Int) ≤ (k : Int) := by omega
        obtain ⟨x, hx⟩ : ∃ x, l0[k]? = some x := ⟨_, List.getElem?_eq_getElem (by have := HN.out; omega)⟩
        obtain ⟨wf1, wf2, wf3, wf4⟩ := HG.out x (List.mem_of_getElem? hx)
        obtain ⟨b0, o0, rfl, hlt0, hcells⟩ := row_cells (toC := cellsAsk) (s := 5) (fun _ => rfl) HR.out hx (by decide)
        obtain ⟨kd, sl, ⟨r1, r2⟩, v⟩ := x
        simp only at wf1 wf2 wf3 wf4
        have hbl := HF.out.block b0 hlt0 (by have := HB.out; omega)
        have e0 := hcells 0 (.int .i64 kd) rfl wr hbl
        rw [Nat.add_zero] at e0
        have e1 := hcells 1 (.int .i64 sl) rfl wr hbl
        have e2 := hcells 2 (.int .i64 r1) rfl wr hbl
        have e3 := hcells 3 (.int .i64 r2) rfl wr hbl
        have e4 := hcells 4 (.string v) rfl wr hbl
        obtain ⟨xb, hxb⟩ : ∃ xb, wr.heap.size = xb := ⟨_, rfl⟩
        obtain ⟨wc, hwc⟩ : ∃ wc, wr.alloc (.cells #[.int .i64 kd, .int .i64 sl, .int .i64 r1, .int .i64 r2, .string v] 31) = wc := ⟨_, rfl⟩
        have hfc : Fr (fun _ => False) wr wc := by rw [← hwc]; exact Fr.alloc _ _ _
        have hbc : wc.heap[xb]? = some (.cells #[.int .i64 kd, .int .i64 sl, .int .i64 r1, .int .i64 r2, .string v] 31 (0, 0)) := by rw [← hwc, ← hxb]; exact block_alloc _ _
        have z0 : wc.cell? ⟨xb, 0, none⟩ = some (.int .i64 kd) := by rw [cell_of_block hbc]; rfl
        have z4 : wc.cell? ⟨xb, 4, none⟩ = some (.string v) := by rw [cell_of_block hbc]; rfl
        have f4 : wc.frozen? ⟨xb, 4, none⟩ = false := free_of_block hbc
        have HPC := hide (HP.out.fr hfc)
        have HFC := hide (HF.out.trans hfc (fun _ _ h => h.elim))
        have HBC := hide hbc
        have HWC := hide hwc
        have HXB := hide hxb
        clear hx hcells hbl hfc hbc hwc hxb
        go_upto_region 9 with fail
        rw [HWC.out, HXB.out]
        clear e0 e1 e2 e3 e4
        have hvv : (200 : Int) < (v.size : Int) ∨ ¬ (200 : Int) < (v.size : Int) := by omega
        refine hvv.elim (fun hv => ?_) (fun hv => ?_)
        case' refine_1 =>
          go_upto_region 11 with fail
          obtain ⟨v', wD, he, hv', HBD, HPD, HFD⟩ : ∃ (v' : ByteArray) (wD : World), (wc.setCell ⟨xb, 4, none⟩ (.string (v.extract 0 200)) = wD) ∧ v'.size ≤ 200 ∧ Hid (wD.heap[xb]? = some (.cells #[.int .i64 kd, .int .i64 sl, .int .i64 r1, .int .i64 r2, .string v'] 31 (0, 0))) ∧ Hid (PB wD B B1 D1 ab n rb u p l) ∧ Hid (Fr (fun k => B ≤ k) w wD) := by
            have hsc : Fr (fun j => j = xb) wc (wc.setCell ⟨xb, 4, none⟩ (.string (v.extract 0 200))) := Fr.setCell _ _ _ rfl
            have hxbs : wr.heap.size = xb := HXB.out
            have hp := HP.out
            have hpc := HPC.out
            refine ⟨v.extract 0 200, _, rfl, by rw [ByteArray.size_extract]; omega, ?_, ?_, HFC.out.trans hsc (fun j _ h => ?_)⟩
            · show _ = _
              rw [block_setCell HBC.out]; rfl
            · refine ⟨hpc.a.fr hsc (fun k h1 h2 e => by have := hp.d1; omega), hpc.r.fr hsc (fun e => by have := lt_of_block hp.r.blk; omega) (fun k hk e => by have := (hp.r.own.lt k hk).2; omega), hpc.b1, Nat.le_trans hpc.d1 hsc.size, hpc.br, hpc.nr, hpc.nu⟩
            · have := HF.out.size; have := HB.out; omega
          rw [he]
          clear he
        case' refine_2 =>
          go_upto_region 11 with fail
          obtain ⟨v', wD, he, hv', HBD, HPD, HFD⟩ : ∃ (v' : ByteArray) (wD : World), (wc = wD) ∧ v'.size ≤ 200 ∧ Hid (wD.heap[xb]? = some (.cells #[.int .i64 kd, .int .i64 sl, .int .i64 r1, .int .i64 r2, .string v'] 31 (0, 0))) ∧ Hid (PB wD B B1 D1 ab n rb u p l) ∧ Hid (Fr (fun k => B ≤ k) w wD) :=
            ⟨v, _, rfl, by omega, HBC.out, HPC.out, HFC.out⟩
          rw [he]
          clear he
        all_goals
          clear z0 z4 f4 hv HPC HFC HBC HWC wf4
          have hcell : ∀ wx, Fr (fun j => j ≠ xb) wD wx → wx.cell? ⟨xb, 0, none⟩ = some (.int .i64 kd) ∧ wx.cell? ⟨xb, 1, none⟩ = some (.int .i64 sl) ∧ wx.cell? ⟨xb, 2, none⟩ = some (.int .i64 r1) ∧ wx.cell? ⟨xb, 3, none⟩ = some (.int .i64 r2) ∧ wx.cell? ⟨xb, 4, none⟩ = some (.string v') := fun wx hf => by
            have := (hf.block xb (lt_of_block HBD.out) (fun h => h rfl)).trans HBD.out
            exact ⟨by rw [cell_of_block this]; rfl, by rw [cell_of_block this]; rfl, by rw [cell_of_block this]; rfl, by rw [cell_of_block this]; rfl, by rw [cell_of_block this]; rfl⟩
          obtain ⟨z0, z1, z2, z3, z4⟩ := hcell wD (Fr.refl _ _)
          have hltx : D1 ≤ xb ∧ rb < xb ∧ ∀ k, u.ownBlock = some k → k < xb := by
            rw [← HXB.out]
            exact ⟨HP.out.d1, lt_of_block HP.out.r.blk, fun k hk => (HP.out.r.own.lt k hk).2⟩
          have hll : l.length ≤ 512 := HP.out.a.acc.votes_le
          have HCELL := hide hcell
          have HLT := hide hltx
          have hxB : B ≤ xb := by rw [← HXB.out]; have := HF.out.size; have := HB.out; omega
          clear hcell hltx
          have hkind : ((kd == 1) = true) ∨ ((kd == 1) = false ∧ (kd == 2) = true) ∨ ((kd == 1) = false ∧ (kd == 2) = false ∧ (kd == 3) = true) ∨ ((kd == 1) = false ∧ (kd == 2) = false ∧ (kd == 3) = false) := by
            cases h1 : kd == 1 <;> cases h2 : kd == 2 <;> cases h3 : kd == 3 <;> simp
          rcases hkind with kd1 | ⟨kd1, kd2⟩ | ⟨kd1, kd2, kd3⟩ | ⟨kd1, kd2, kd3⟩
          case' inl =>
            have h1 := prepareAcd wD B1 D1 ab n p l HPD.out.a (by omega) (r1, r2) sl
            have h2 : ∀ y, Fr (Mid B1 D1) wD y → Calls Try.prog 22 #[.pointer (some ⟨rb, 0, none⟩), .agg #[.int .i64 r1, .int .i64 r2], .int .i64 sl] y _ := fun y hf => rPrepareAll y rb u p l (HPD.out.mid hf) (by omega) (r1, r2) sl
            have HBI2 := hide (HI.out.prepare (r1, r2) wf3)
            obtain ⟨q, hq⟩ : ∃ q, less p (r1, r2) = q := ⟨_, rfl⟩
            obtain ⟨L, hL⟩ : ∃ L, (if less p (r1, r2) then fromV l sl else []) = L := ⟨_, rfl⟩
            have HLL : Hid (L.length ≤ 9223372036854775807) := by
              rw [← hL]; show _ ≤ _
              split
              · have := List.length_filter_le (fun x : Vt => decide (sl ≤ x.1)) l
                unfold fromV; omega
              · simp
            obtain ⟨P2, hP2⟩ : ∃ P2, (if less p (r1, r2) then (r1, r2) else p) = P2 := ⟨_, rfl⟩
            rw [hP2] at HBI2
            rw [hL, hP2, hq] at h1
            rw [hL, hP2, hq] at h2
            have hqq : (q != q) = false := by simp
            have H1 : Hid (Calls Try.prog 15 #[.pointer (some ⟨ab, 0, none⟩), .agg #[.int .i64 r1, .int .i64 r2], .int .i64 sl] wD _) := h1
            have H2 := hide h2
            clear h1 h2 hq hL hP2
            go_wp2_with fail
            refine H1.out.mono ?_
            rintro e y1 ⟨V1, rfl, ha1, ho1, hf1⟩
            obtain ⟨q0, q1, q2, q3, q4⟩ := HCELL.out y1 (hf1.mono (fun j _ h e => by have := HLT.out.1; have := h.2; omega))
            obtain ⟨a1, c1, rfl⟩ := own_shape ho1
            have HA1 := hide ha1
            have HO1 := hide ho1
            have HF1 := hide hf1
            have H2' := hide (H2.out y1 hf1)
            clear ha1 ho1 hf1
            go_wp2_with fail
            refine H2'.out.mono ?_
            rintro e y2 ⟨V2, rfl, hra, ho2⟩
            obtain ⟨u2, hpb, hfb⟩ := HPD.out.both HA1.out HF1.out hra
            obtain ⟨a2, c2, rfl⟩ := own_shape ho2
            have hfr2 : Fr (fun k => k = rb) y1 y2 := by obtain ⟨_, _, _, h⟩ := hra; exact h
            have HK := hide (keepVotes_any y2 _ _ L L (Reads.of_own (ownsRow_fr HO1.out hfr2 (fun j hj e => by have := (HO1.out.lt j hj).1; have := lt_of_block HPD.out.r.blk; omega))) (Reads.of_own ho2) HLL.out)
            rw [show decide (L = L) = true by simp] at HK
            have HPB := hide hpb
            have HFB := hide hfb
            clear hra ho2 hpb hfb hfr2
            go_wp2_with fail
            refine HK.out.mono ?_
            rintro e y3 ⟨rfl, m3, rfl⟩
            go_upto_region 27 with fail
            obtain ⟨n', ab', B1', D1', u', p', l', hnn, hn', HP', HI', HX', HF'⟩ : ∃ (n' ab' B1' D1' : Nat) (u' : Value) (p' : Bt) (l' : List Vt), Value.pointer (some ⟨ab, 0, none⟩) = .pointer (some ⟨ab', 0, none⟩) ∧ n' ≤ 512 + (k + 1) ∧ Hid (PB (y2.drewN m3) B B1' D1' ab' n' rb u' p' l') ∧ Hid (BI p' l') ∧ Hid (Fr (fun j => j ≠ xb) wD (y2.drewN m3)) ∧ Hid (Fr (fun k => B ≤ k) w (y2.drewN m3)) := by
              have hd : Fr (fun _ => False) y2 (y2.drewN m3) := (Fr.refl (fun _ => False) y2).drewN m3
              have hp := HPD.out
              refine ⟨n, ab, B1, D1, u2, P2, l, rfl, by omega, HPB.out.fr hd, HBI2.out, (HFB.out.trans hd (fun _ _ h => h.elim)).mono (fun j _ h e => ?_), (HFD.out.trans HFB.out (fun j _ h => ?_)).trans hd (fun _ _ h => h.elim)⟩
              · have h1 := HLT.out.1; have h2 := HLT.out.2.1; rcases h with h | h
                · have := h.2; omega
                · omega
              · rcases h with h | h
                · exact Nat.le_trans hp.b1 h.1
                · subst h; exact hp.br
            rw [hnn]
            clear hqq HK HPB HFB H1 H2 H2' HA1 HO1 HF1 HBI2 HLL q0 q1 q2 q3 q4 z0 z1 z2 z3 z4
            generalize y2.drewN m3 = wE at *
          case' inr.inl =>
            have hfd0 : Fr (fun _ => False) wD wD.drew := (Fr.refl (fun _ => False) wD).drew
            have h1 := acceptAcd wD.drew B1 D1 ab n p l (HPD.out.a.fr0 hfd0) (by omega) (r1, r2) sl v'
            have h2 : ∀ y, Fr (Mid B1 D1) wD.drew y → Calls Try.prog 23 #[.pointer (some ⟨rb, 0, none⟩), .agg #[.int .i64 r1, .int .i64 r2], .int .i64 sl, .string v'] y _ := fun y hf => rAcceptAll y rb u p l ((HPD.out.fr hfd0).mid hf) (by omega) HP.out.a.sorted (r1, r2) sl v'
            have HBI2 := hide (HI.out.accept HP.out.a.sorted (r1, r2) sl v' wf3 hv')
            obtain ⟨q, hq⟩ : ∃ q, acceptB p (r1, r2) sl = q := ⟨_, rfl⟩
            obtain ⟨L, hL⟩ : ∃ L, acceptL p (r1, r2) sl l v' = L := ⟨_, rfl⟩
            obtain ⟨P2, hP2⟩ : ∃ P2, acceptP p (r1, r2) sl = P2 := ⟨_, rfl⟩
            rw [hP2, hL] at HBI2
            rw [hL, hP2, hq] at h1
            rw [hL, hP2, hq] at h2
            have hqq : (q != q) = false := by simp
            have H1 : Hid (Calls Try.prog 16 #[.pointer (some ⟨ab, 0, none⟩), .agg #[.int .i64 r1, .int .i64 r2], .int .i64 sl, .string v'] wD.drew _) := h1
            have H2 := hide h2
            have HPDD := hide (HPD.out.fr hfd0)
            have HFD0 := hide hfd0
            clear h1 h2 hq hL hP2 hfd0
            go_wp2_with fail
            go_region_held3 (fun w' => w'.cell? ⟨xb, 1, none⟩ = some (.int .i64 sl) ∧ w'.cell? ⟨xb, 2, none⟩ = some (.int .i64 r1) ∧ w'.cell? ⟨xb, 3, none⟩ = some (.int .i64 r2) ∧ w'.cell? ⟨xb, 4, none⟩ = some (.string v')) (go_keep)
              (first
                | (go_at_call 16; with_reducible refine H1.out.mono ?_; rintro e y1 ⟨rfl, ha1, hf1⟩; have hx := (HFD0.out.mono (S' := fun j => j ≠ xb) (fun _ _ h => h.elim)).trans (hf1.mono (S' := fun j => j ≠ xb) (fun j _ h e => by have := HLT.out.1; have := h.2; omega)) (fun _ _ h => h); obtain ⟨g0, g1, g2, g3, g4⟩ := HCELL.out y1 hx; have HA1 := hide ha1; have HF1 := hide hf1; have HX1 := hide hx; clear ha1 hf1 hx)
                | (go_at_call 23; with_reducible refine (H2.out _ HF1.out).mono ?_; rintro e y2 ⟨rfl, hra⟩; obtain ⟨u2, hpb, hfb⟩ := HPDD.out.both HA1.out HF1.out hra; have hx := (HFD0.out.mono (S' := fun j => j ≠ xb) (fun _ _ h => h.elim)).trans (hfb.mono (S' := fun j => j ≠ xb) (fun j _ h e => h.elim (fun h => by have := HLT.out.1; have := h.2; omega) (fun h => by have := HLT.out.2.1; omega))) (fun _ _ h => h); obtain ⟨g5, g6, g7, g8, g9⟩ := HCELL.out y2 hx; have HPB := hide hpb; have HFB := hide hfb; have HX2 := hide hx; clear hra hx hpb hfb))
            all_goals
              go_upto_region 27 with fail
              obtain ⟨n', ab', B1', D1', u', p', l', hnn, hn', HP', HI', HX', HF'⟩ : ∃ (n' ab' B1' D1' : Nat) (u' : Value) (p' : Bt) (l' : List Vt), Value.pointer (some ⟨ab, 0, none⟩) = .pointer (some ⟨ab', 0, none⟩) ∧ n' ≤ 512 + (k + 1) ∧ Hid (PB y2 B B1' D1' ab' n' rb u' p' l') ∧ Hid (BI p' l') ∧ Hid (Fr (fun j => j ≠ xb) wD y2) ∧ Hid (Fr (fun k => B ≤ k) w y2) := by
                have hp := HPD.out
                refine ⟨n + 1, ab, B1, D1, u2, P2, L, rfl, by omega, HPB.out, HBI2.out, HX2.out, ((HFD.out.trans HFD0.out (fun _ _ h => h.elim)).trans HFB.out (fun j _ h => ?_))⟩
                rcases h with h | h
                · exact Nat.le_trans hp.b1 h.1
                · subst h; exact hp.br
              rw [hnn]
              clear hqq HPB HFB H1 H2 HA1 HF1 HX1 HX2 HBI2 HPDD HFD0 g0 g1 g2 g3 g4 g5 g6 g7 g8 g9 z0 z1 z2 z3 z4
              generalize y2 = wE at *
          case' inr.inr.inl =>
            have H1 := hide (forgetAcd wD B1 D1 ab n p l HPD.out.a sl)
            have H2 : Hid (∀ y, Fr (Mid B1 D1) wD y → Calls Try.prog 24 #[.pointer (some ⟨rb, 0, none⟩), .int .i64 sl] y _) := fun y hf => rForget_any y rb u p l (HPD.out.mid hf) (by omega) sl
            have HBI2 := hide (HI.out.forget sl)
            obtain ⟨L, hL⟩ : ∃ L, fromV l sl = L := ⟨_, rfl⟩
            rw [hL] at H1 H2 HBI2
            clear hL
            go_wp2_with fail
            refine H1.out.mono ?_
            rintro e y1 ⟨rfl, ha1, hf1⟩
            obtain ⟨q0, q1, q2, q3, q4⟩ := HCELL.out y1 (hf1.mono (fun j _ h e => by have := HLT.out.1; have := h.2; omega))
            have HA1 := hide ha1
            have HF1 := hide hf1
            have H2' := hide (H2.out y1 hf1)
            clear ha1 hf1
            go_wp2_with fail
            refine H2'.out.mono ?_
            rintro e y2 ⟨rfl, hra⟩
            obtain ⟨u2, hpb, hfb⟩ := HPD.out.both HA1.out HF1.out hra
            have HPB := hide hpb
            have HFB := hide hfb
            clear hra hpb hfb
            go_upto_region 27 with fail
            obtain ⟨n', ab', B1', D1', u', p', l', hnn, hn', HP', HI', HX', HF'⟩ : ∃ (n' ab' B1' D1' : Nat) (u' : Value) (p' : Bt) (l' : List Vt), Value.pointer (some ⟨ab, 0, none⟩) = .pointer (some ⟨ab', 0, none⟩) ∧ n' ≤ 512 + (k + 1) ∧ Hid (PB y2 B B1' D1' ab' n' rb u' p' l') ∧ Hid (BI p' l') ∧ Hid (Fr (fun j => j ≠ xb) wD y2) ∧ Hid (Fr (fun k => B ≤ k) w y2) := by
              have hp := HPD.out
              refine ⟨n, ab, B1, D1, u2, p, L, rfl, by omega, HPB.out, HBI2.out, HFB.out.mono (fun j _ h e => ?_), HFD.out.trans HFB.out (fun j _ h => ?_)⟩
              · have h1 := HLT.out.1; have h2 := HLT.out.2.1; rcases h with h | h
                · have := h.2; omega
                · omega
              · rcases h with h | h
                · exact Nat.le_trans hp.b1 h.1
                · subst h; exact hp.br
            rw [hnn]
            clear HPB HFB H1 H2 H2' HA1 HF1 HBI2 q0 q1 q2 q3 q4 z0 z1 z2 z3 z4
            generalize y2 = wE at *
          case' inr.inr.inr =>
            have hgood := HI.out.good HP.out.a.sorted HP.out.a.slots hll
            have hsl := sv_le (p := p) HI.out.sz
            have hsl2 : (sv p l).length ≤ 200000 := by omega
            have H1 := hide (save_any wD B1 D1 ab n p l HPD.out.a (by omega) HPD.out.d1 (by omega))
            have HGOOD := hide hgood
            clear hgood hsl
            go_wp2_with fail
            refine H1.out.mono ?_
            rintro e y1 ⟨V8, rfl, ho8, _, hf8⟩
            have H2 := hide (load_any y1 V8 (sv p l) (Reads.of_own ho8) (by omega))
            obtain ⟨a8, c8, rfl⟩ := own_shape ho8
            have HF8 := hide hf8
            clear ho8 hf8
            go_wp2_with fail
            refine H2.out.mono ?_
            rintro e y2 ⟨hlo, hf9⟩
            have hlo2 : ∃ ab2 mb2, e = .returned (.tuple #[.pointer (some ⟨ab2, 0, none⟩), .int .i64 0]) ∧ Ac y2 ab2 mb2 512 p l ∧ y1.heap.size ≤ ab2 ∧ y1.heap.size ≤ mb2 := by
              rcases hlo with ⟨h1, _⟩ | ⟨p9, l9, ab2, mb2, h1, h2, h3, h4, h5⟩
              · rw [loadV_saved HGOOD.out] at h1; cases h1
              · rw [loadV_saved HGOOD.out] at h1; cases h1; exact ⟨ab2, mb2, h2, h3, h4, h5⟩
            obtain ⟨ab2, mb2, rfl, hac2, hab2, hmb2⟩ := hlo2
            have hff := HF8.out.trans hf9 (fun _ _ h => h)
            have HAC2 := hide hac2
            have HFF := hide hff
            clear hlo hac2 hff
            go_upto_region 27 with fail
            obtain ⟨n', ab', B1', D1', u', p', l', hnn, hn', HP', HI', HX', HF'⟩ : ∃ (n' ab' B1' D1' : Nat) (u' : Value) (p' : Bt) (l' : List Vt), Value.pointer (some ⟨ab2, 0, none⟩) = .pointer (some ⟨ab', 0, none⟩) ∧ n' ≤ 512 + (k + 1) ∧ Hid (PB y2 B B1' D1' ab' n' rb u' p' l') ∧ Hid (BI p' l') ∧ Hid (Fr (fun j => j ≠ xb) wD y2) ∧ Hid (Fr (fun k => B ≤ k) w y2) := by
              have hp := HPD.out
              have hy1 := HF8.out.size
              have hrl := lt_of_block hp.r.blk
              have hbx := hp.b1
              have hd1 := hp.d1
              have hsz := HFD.out.size
              have hwB := HB.out
              refine ⟨512, ab2, y1.heap.size, y2.heap.size, u, p, l, rfl, by omega, ⟨⟨mb2, HAC2.out, ⟨hab2, lt_of_block HAC2.out.blk⟩, ⟨hmb2, HAC2.out.map.lt⟩⟩, hp.r.fr0 HFF.out, by omega, Nat.le_refl _, hp.br, by omega, fun k hk => by have := (hp.r.own.lt k hk).2; omega⟩, HI.out, HFF.out.mono (fun _ _ h => h.elim), HFD.out.trans HFF.out (fun _ _ h => h.elim)⟩
            rw [hnn]
            clear H1 H2 HF8 HFF HAC2 HGOOD z0 z1 z2 z3 z4
            generalize y2 = wE at *
          all_goals
            obtain ⟨P1', P2'⟩ := p'
            have hc3 : ∀ wx, Fr (fun _ => False) wE wx → wx.cell? ⟨rb, 0, none⟩ = some (.int .i64 P1') ∧ wx.cell? ⟨rb, 1, none⟩ = some (.int .i64 P2') ∧ wx.cell? ⟨xb, 1, none⟩ = some (.int .i64 sl) := fun wx hf => by
              obtain ⟨_, r1, _⟩ := HCELL.out wx (HX'.out.trans hf (fun _ _ h => h.elim))
              have hr := (HP'.out.fr hf).r.blk
              exact ⟨by rw [cell_of_block hr]; rfl, by rw [cell_of_block hr]; rfl, r1⟩
            have hll' : l'.length ≤ 512 := HP'.out.a.acc.votes_le
            have hlenF : ∀ s, (fromV l' s).length ≤ 512 := fun s => by
              have := List.length_filter_le (fun x : Vt => decide (s ≤ x.1)) l'
              unfold fromV; omega
            have hd : Fr (fun _ => False) wE wE.drew := (Fr.refl (fun _ => False) wE).drew
            have hne : ∀ w, (binOp .neq 23 (.agg #[.int .i64 P1', .int .i64 P2']) (.agg #[.int .i64 P1', .int .i64 P2'])).run Try.prog w = .ok (.bool false) w := fun w => by rw [run_neqB]; simp
            have HPM : Hid (Calls Try.prog 13 #[.pointer (some ⟨ab', 0, none⟩)] wE.drew fun e w' => e = .returned (.agg #[.int .i64 P1', .int .i64 P2']) ∧ Acd w' B1' D1' ab' n' (P1', P2') l' ∧ Fr (fun _ => False) wE.drew w') := promisedAcd wE.drew B1' D1' ab' n' (P1', P2') l' (HP'.out.a.fr0 hd)
            have HVT : Hid (∀ y, Fr (fun _ => False) wE y → ∀ s, Calls Try.prog 14 #[.pointer (some ⟨ab', 0, none⟩), .int .i64 s] y fun e w' => ∃ v', e = .returned v' ∧ w'.ownsRow y.heap.size 40 4 v' (fromV l' s).length (rowV (fromV l' s)) ∧ Acd w' B1' D1' ab' n' (P1', P2') l' ∧ Fr (fun _ => False) y w') := fun y hf s => votesAcd y B1' D1' ab' n' (P1', P2') l' (HP'.out.a.fr0 hf) (by omega) s
            have HVR : Hid (∀ y, Fr (fun _ => False) wE y → ∀ s, Calls Try.prog 25 #[.pointer (some ⟨rb, 0, none⟩), .int .i64 s] y fun e w' => ∃ v', e = .returned v' ∧ w'.ownsRow y.heap.size 40 4 v' (fromV l' s).length (rowV (fromV l' s)) ∧ Fr (fun _ => False) y w') := fun y hf s => rVotes_any y rb u' (P1', P2') l' (HP'.out.r.fr0 hf) (by omega) s
            obtain ⟨L0, hL0⟩ : ∃ L, fromV l' 0 = L := ⟨_, rfl⟩
            obtain ⟨Ls, hLs⟩ : ∃ L, fromV l' sl = L := ⟨_, rfl⟩
            have HLEN0 : Hid (L0.length ≤ 9223372036854775807) := by rw [← hL0]; have := hlenF 0; show _ ≤ _; omega
            have HLENs : Hid (Ls.length ≤ 9223372036854775807) := by rw [← hLs]; have := hlenF sl; show _ ≤ _; omega
            have HV0 : Hid (∀ y, Fr (fun _ => False) wE y → Calls Try.prog 14 #[.pointer (some ⟨ab', 0, none⟩), .int .i64 0] y _) := fun y hf => HVT.out y hf 0
            have HR0 : Hid (∀ y, Fr (fun _ => False) wE y → Calls Try.prog 25 #[.pointer (some ⟨rb, 0, none⟩), .int .i64 0] y _) := fun y hf => HVR.out y hf 0
            have HVs : Hid (∀ y, Fr (fun _ => False) wE y → Calls Try.prog 14 #[.pointer (some ⟨ab', 0, none⟩), .int .i64 sl] y _) := fun y hf => HVT.out y hf sl
            have HRs : Hid (∀ y, Fr (fun _ => False) wE y → Calls Try.prog 25 #[.pointer (some ⟨rb, 0, none⟩), .int .i64 sl] y _) := fun y hf => HVR.out y hf sl
            rw [hL0] at HV0 HR0
            rw [hLs] at HVs HRs
            have HK0 : Hid (∀ y v1 v2, Reads y v1 L0.length 4 (rowV L0) → Reads y v2 L0.length 4 (rowV L0) → Calls Try.prog 18 #[v1, v2] y fun e w' => e = .returned (.bool true) ∧ ∃ m, w' = y.drewN m) := fun y v1 v2 h1 h2 => by
              have := keepVotes_any y v1 v2 L0 L0 h1 h2 HLEN0.out
              rwa [show decide (L0 = L0) = true by simp] at this
            have HKs : Hid (∀ y v1 v2, Reads y v1 Ls.length 4 (rowV Ls) → Reads y v2 Ls.length 4 (rowV Ls) → Calls Try.prog 18 #[v1, v2] y fun e w' => e = .returned (.bool true) ∧ ∃ m, w' = y.drewN m) := fun y v1 v2 h1 h2 => by
              have := keepVotes_any y v1 v2 Ls Ls h1 h2 HLENs.out
              rwa [show decide (Ls = Ls) = true by simp] at this
            have HC3 := hide hc3
            have HD := hide hd
            obtain ⟨t1, t2, t3⟩ := hc3 wE (Fr.refl _ _)
            clear hc3 hd hL0 hLs hll' hlenF HVT HVR hnn
            go_region_held3 (fun w' => w'.cell? ⟨rb, 0, none⟩ = some (.int .i64 P1') ∧ w'.cell? ⟨rb, 1, none⟩ = some (.int .i64 P2') ∧ w'.cell? ⟨xb, 1, none⟩ = some (.int .i64 sl)) (go_keep)
              (first
                | (go_at_call 13; with_reducible refine HPM.out.mono ?_; rintro e y1 ⟨rfl, _, hf1⟩; have hy := HD.out.trans hf1 (fun _ _ h => h); obtain ⟨g0, g1, g2⟩ := HC3.out y1 hy; have HY1 := hide hy; clear hf1 hy)
                | (go_at_call 14; with_reducible refine (HV0.out _ HY1.out).mono ?_; rintro e y2 ⟨w2v, rfl, ho2, _, hf2⟩; obtain ⟨a2, c2, rfl⟩ := own_shape ho2; have hy := HY1.out.trans hf2 (fun _ _ h => h); obtain ⟨g3, g4, g5⟩ := HC3.out y2 hy; have HO2 := hide (Reads.of_own ho2); have HY2 := hide hy; clear ho2 hf2 hy)
                | (go_at_call 25; with_reducible refine (HR0.out _ HY2.out).mono ?_; rintro e y3 ⟨w3v, rfl, ho3, hf3⟩; obtain ⟨a3, c3, rfl⟩ := own_shape ho3; have hy := HY2.out.trans hf3 (fun _ _ h => h); obtain ⟨g6, g7, g8⟩ := HC3.out y3 hy; have HO3 := hide (Reads.of_own ho3); have HO2' := hide (reads_old HO2.out hf3 (fun _ _ => id)); have HY3 := hide hy; clear ho3 hf3 hy)
                | (go_at_call 18; with_reducible refine (HK0.out _ _ _ HO2'.out HO3.out).mono ?_; rintro e y4 ⟨rfl, m4, rfl⟩; have hy := HY3.out.drewN m4; obtain ⟨g9, g10, g11⟩ := HC3.out _ hy; have HY4 := hide hy; clear hy)
                | (go_at_call 14; with_reducible refine (HVs.out _ HY4.out).mono ?_; rintro e y5 ⟨w5v, rfl, ho5, _, hf5⟩; obtain ⟨a5, c5, rfl⟩ := own_shape ho5; have hy := HY4.out.trans hf5 (fun _ _ h => h); obtain ⟨g12, g13, g14⟩ := HC3.out y5 hy; have HO5 := hide (Reads.of_own ho5); have HY5 := hide hy; clear ho5 hf5 hy)
                | (go_at_call 25; with_reducible refine (HRs.out _ HY5.out).mono ?_; rintro e y6 ⟨w6v, rfl, ho6, hf6⟩; obtain ⟨a6, c6, rfl⟩ := own_shape ho6; have hy := HY5.out.trans hf6 (fun _ _ h => h); obtain ⟨g15, g16, g17⟩ := HC3.out y6 hy; have HO6 := hide (Reads.of_own ho6); have HO5' := hide (reads_old HO5.out hf6 (fun _ _ => id)); have HY6 := hide hy; clear ho6 hf6 hy)
                | (go_at_call 18; with_reducible refine (HKs.out _ _ _ HO5'.out HO6.out).mono ?_; rintro e y7 ⟨rfl, m7, rfl⟩; have hy := HY6.out.drewN m7; obtain ⟨g18, g19, g20⟩ := HC3.out _ hy; have HY7 := hide hy; clear hy))
            all_goals
              go_wp2_with fail
              go_roundw
              case rel => exact ⟨k + 1, n', ab', B1', D1', u', (P1', P2'), l', rfl, by go_num, by omega, by omega, by omega, HP'.out.fr HY7.out, HI'.out, HF'.out.trans HY7.out (fun _ _ h => h.elim)⟩
              case measure => simp [intOf]; omega
      · have hex : (k : Int) < (n1 : Int) ∧ ¬ (k : Int) < 60 ∨ ¬ (k : Int) < (n1 : Int) := by omega
        clear hgo
        rcases hex with ⟨ik1, ik2⟩ | ik1
        all_goals
          go_wp2_with fail
          refine (known_any _).mono ?_
          rintro e w10 ⟨rfl, hf10⟩
          go_wp2_with fail
          go_ret
          exact ⟨rfl, (HF.out.trans hf10 (fun j _ hj => hj.elim)).toBelow (Nat.le_refl _) (fun j hj h => by have := HB.out; omega)⟩
end Go.Proofs.Ythekgecaeblbbaa.BallotPlays
