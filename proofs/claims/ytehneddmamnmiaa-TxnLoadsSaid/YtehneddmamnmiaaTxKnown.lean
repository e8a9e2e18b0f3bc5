/- known of transactions. -/
import Derived.Test.YtehneddmamnmiaaTxReply
import Derived.Test.YtehneddmamnmiaaTxNewNo
import Derived.Test.YtehneddmamnmiaaTxKeep
namespace Go.Proofs.Ytehneddmamnmiaa
open Go.RowKit Go.Maps Go.Cv Go.Shelf
set_option linter.unusedVariables false

section
variable {w w' : World} {X X' : Nat → Prop} {b0 tb : Nat} {r : TxR}
theorem TX.mix (h : TX w X b0 tb r) {S : Nat → Prop} (g : Fr S w w') (hS : ∀ k, k < w.heap.size → S k → X k) : TX w' (fun k => X k ∨ (w.heap.size ≤ k ∧ k < w'.heap.size)) b0 tb r := by
  obtain ⟨B, vb, kb, vo, vp, vg, va, vs, vals, h⟩ := h
  have h2 := h.fr g hS
  have hf : ∀ v, FB w.heap.size X tb vb kb v → FB w'.heap.size (fun k => X k ∨ (w.heap.size ≤ k ∧ k < w'.heap.size)) tb vb kb v := fun v hv a n c e => by
    obtain ⟨⟨q1, q2⟩, q3⟩ := hv a n c e
    exact ⟨⟨fun hx => hx.elim q1 (fun h => by omega), q2⟩, Nat.lt_of_lt_of_le q3 g.size⟩
  have l1 := h.lt
  have l2 := h.vm.lt
  have l3 := h.ak.lt
  exact ⟨B, vb, kb, vo, vp, vg, va, vs, vals, h2.blk, h2.ops, h2.prt, h2.sp, h2.vm, h2.rd, h2.ak, h.t0, h.v0, h.k0, h.tB, h.vB, h.kB, h.d1, h.d2, h.d3, fun hx => hx.elim h.xt (fun h => by omega), fun hx => hx.elim h.xv (fun h => by omega), fun hx => hx.elim h.xk (fun h => by omega), hf _ h.xo, hf _ h.xp,
    fun k hk hx => hx.elim (h.xs k hk) (fun h3 => by have := (h.sp.lt k hk).2; omega), fun x hx => hf _ (h.xr x hx), fun k hk => hk.elim (fun h3 => Nat.lt_of_lt_of_le (h.xl k h3) g.size) (fun h => h.2), h.nd⟩
theorem TX.low (h : TX w X b0 tb r) {b : Nat} (hb : b ≤ b0) : TX w X b tb r := by
  obtain ⟨B, vb, kb, vo, vp, vg, va, vs, vals, h⟩ := h
  exact ⟨B, vb, kb, vo, vp, vg, va, vs, vals, h.blk, h.ops, h.prt, h.sp, h.vm, h.rd, h.ak, Nat.le_trans hb h.t0, Nat.le_trans hb h.v0, Nat.le_trans hb h.k0, h.tB, h.vB, h.kB, h.d1, h.d2, h.d3, h.xt, h.xv, h.xk, h.xo, h.xp, h.xs, h.xr, h.xl, h.nd⟩
theorem TX.nodup (h : TX w X b0 tb r) : (r.V.map (·.1)).Nodup := by obtain ⟨B, vb, kb, vo, vp, vg, va, vs, vals, h⟩ := h; exact h.nd
theorem TX.xl (h : TX w X b0 tb r) : ∀ k, X k → k < w.heap.size := by obtain ⟨B, vb, kb, vo, vp, vg, va, vs, vals, h⟩ := h; exact h.xl
end
/-- Two transactions beside each other, all at blocks from N on. -/
structure Two (N : Nat) (w : World) (tb ub : Nat) (r s : TxR) (Xt Xu : Nat → Prop) (bt bu : Nat) : Prop where
  t : TX w Xt bt tb r
  u : TX w Xu bu ub s
  nt : N ≤ bt
  nu : N ≤ bu
  lt : bt ≤ w.heap.size
  lu : bu ≤ w.heap.size
  tu : ∀ k, k < w.heap.size → Own Xt bt k → Xu k
  ut : ∀ k, k < w.heap.size → Own Xu bu k → Xt k
section
variable {w w' : World} {N tb ub bt bu : Nat} {r s r' s' : TxR} {Xt Xu : Nat → Prop}
theorem Two.left (h : Two N w tb ub r s Xt Xu bt bu) (ht : TX w' Xt bt tb r') (g : Fr (Own Xt bt) w w') : Two N w' tb ub r' s Xt (fun k => Xu k ∨ (w.heap.size ≤ k ∧ k < w'.heap.size)) bt bu :=
  ⟨ht, h.u.mix g h.tu, h.nt, h.nu, Nat.le_trans h.lt g.size, Nat.le_trans h.lu g.size,
    fun k hk ho => by
      by_cases hkw : k < w.heap.size
      · exact .inl (h.tu k hkw ho)
      · exact .inr ⟨by omega, hk⟩,
    fun k hk ho => by
      by_cases hkw : k < w.heap.size
      · exact h.ut k hkw ⟨ho.1, fun hx => ho.2 (.inl hx)⟩
      · exact absurd (.inr ⟨by omega, hk⟩) ho.2⟩
theorem Two.swap (h : Two N w tb ub r s Xt Xu bt bu) : Two N w ub tb s r Xu Xt bu bt := ⟨h.u, h.t, h.nu, h.nt, h.lu, h.lt, h.ut, h.tu⟩
theorem Two.fr0 (h : Two N w tb ub r s Xt Xu bt bu) (g : Fr (fun _ => False) w w') : Two N w' tb ub r s (fun k => Xt k ∨ (w.heap.size ≤ k ∧ k < w'.heap.size)) (fun k => Xu k ∨ (w.heap.size ≤ k ∧ k < w'.heap.size)) bt bu :=
  ⟨h.t.more g, h.u.more g, h.nt, h.nu, Nat.le_trans h.lt g.size, Nat.le_trans h.lu g.size,
    fun k hk ho => by
      by_cases hkw : k < w.heap.size
      · exact .inl (h.tu k hkw ⟨ho.1, fun hx => ho.2 (.inl hx)⟩)
      · exact .inr ⟨by omega, hk⟩,
    fun k hk ho => by
      by_cases hkw : k < w.heap.size
      · exact .inl (h.ut k hkw ⟨ho.1, fun hx => ho.2 (.inl hx)⟩)
      · exact .inr ⟨by omega, hk⟩⟩
end
/-- One operation of four cells, as a slice. -/
theorem reads_ops1 (w : World) (x : O4) (t : TypeId) : Reads (w.alloc (.cells (oc x).toArray t)) (.slice (some ⟨w.heap.size, 0, none⟩) 1 1) 1 4 (rowO [x]) :=
  ⟨by simp [rowO, oc], some ⟨w.heap.size, 0, none⟩, 1, rfl, (by intro h; cases h), Nat.le_refl _, fun i u hu => ⟨_, 0, rfl, by rw [cell_of_block (block_alloc w _)]; simpa [rowO] using hu⟩⟩
def rdO (s : ByteArray) : O4 := (5, s, ⟨#[]⟩, 0)
theorem ownF_one (h : Int) : ownF (newP 1 1) h = 0 := by
  have : newP 1 1 = [(0, 256, 0)] := by decide
  rw [this]; unfold ownF own?
  rw [List.find?_cons]; split <;> simp
theorem newR_one (tx s : ByteArray) : newR tx [rdO s] 1 (newP 1 1) = ⟨tx, [rdO s], 1, newP 1 1, [(0, [0])], [], [], 0, 0, 0⟩ := by
  unfold newR
  have h0 : ∀ k, ownAt (newP 1 1) [rdO s] k = 0 := by
    intro k; unfold ownAt; split <;> first | exact ownF_one _ | rfl
  have : splitG (ownAt (newP 1 1) [rdO s]) [rdO s].length 3 = [(0, [0])] := by
    have e : ownAt (newP 1 1) [rdO s] = fun _ => 0 := funext h0
    rw [e]; show splitG (fun _ => 0) 1 3 = _; decide
  rw [this]
def rK (tx : ByteArray) : TxR := ⟨tx, [rdO ⟨#[97]⟩], 1, newP 1 1, [(0, [0])], [], [], 0, 0, 0⟩
def rK1 (tx : ByteArray) : TxR := ⟨tx, [rdO ⟨#[97]⟩], 1, newP 1 1, [(0, [0])], [(0, [⟨#[120]⟩])], [], 1, 0, 0⟩
def rK2 (tx : ByteArray) : TxR := ⟨tx, [rdO ⟨#[97]⟩], 1, newP 1 1, [(0, [0])], [], [], 2, 0, 0⟩
theorem voteK (tx : ByteArray) : voteR (rK tx) 0 true [⟨#[120]⟩] 0 0 = rK1 tx := by
  unfold voteR; rw [if_neg (by simp [rK, grp, keys]), if_neg (by simp), if_neg (by simp [rK, atOf])]; rfl
theorem lateK (tx : ByteArray) : lateR (rK tx) = rK2 tx := rfl
theorem voteK2 (tx : ByteArray) : voteR (rK2 tx) 0 true [⟨#[120]⟩] 0 0 = rK2 tx := by
  unfold voteR; rw [if_pos (.inl (by simp [rK2]))]
theorem textsK (tx : ByteArray) : textsR (rK1 tx) = [⟨#[120]⟩] := by
  unfold textsR; rw [show (rK1 tx).o = 1 from rfl, if_pos rfl]; rfl
theorem okK (tx : ByteArray) : OkR (rK1 tx) where
  pl := by intro x hx a ha; simp [rK1] at hx; subst hx; simp at ha; subst ha; simp [rK1]
  all := by intro _ x hx; simp [rK1] at hx; subst hx; exact ⟨[⟨#[120]⟩], by simp [rK1], rfl⟩
  len := by simp [rK1]
  few := by simp [rK1]
  wf := by intro x hx; simp [rK1] at hx; subst hx; decide
  pn := by intro x hx; simp [rK1] at hx; subst hx; simp
end Go.Proofs.Ytehneddmamnmiaa
