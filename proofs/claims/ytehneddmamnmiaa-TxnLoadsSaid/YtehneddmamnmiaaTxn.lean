/- A transaction: its state; what reads and turns its fields. -/
import Derived.Test.YtehneddmamnmiaaRgSplit2
import Derived.Test.YtehneddmamnmiaaTxClone
import Derived.Test.YtehneddmamnmiaaTxIdx
import Derived.Test.YtehneddmamnmiaaMapN
namespace Go.Proofs.Ytehneddmamnmiaa
open Go.RowKit Go.Maps Go.Cv Go.Shelf
set_option linter.unusedVariables false

theorem law : Keyed Try.prog 3 := int_keyed Try.underlying3
theorem Fr.al {S : Nat → Prop} {a b : World} (h : Fr S a b) (o : Obj) : Fr S a (b.alloc o) := h.trans (Fr.alloc (fun _ => False) b o) (fun _ _ h => h.elim)

/-- What is known of a transaction: its groups with their places, the votes in the order in which they came, who acked, what was decided. -/
structure TxR where
  tx : ByteArray
  ops : List O4
  ep : Int
  parts : List P3
  S : List (Int × List Int)
  V : List (Int × List ByteArray)
  K : List Int
  o : Int
  pos : Int
  why : Int
/-- What the votes' map holds. -/
def votF (V : List (Int × List ByteArray)) (vals : Int → Value) : Lit → Option Value
  | .int .i64 g => if g ∈ V.map (·.1) then some (vals g) else none
  | _ => none
/-- A slice's block is none of these. -/
def FB (N : Nat) (X : Nat → Prop) (tb vb kb : Nat) (v : Value) : Prop := ∀ a n c, v = .slice (some a) n c → (¬ X a.block ∧ a.block ≠ tb ∧ a.block ≠ vb ∧ a.block ≠ kb) ∧ a.block < N
theorem FB.up {N N' : Nat} {X : Nat → Prop} {tb vb kb : Nat} {v : Value} (h : FB N X tb vb kb v) (hN : N ≤ N') : FB N' X tb vb kb v := fun a n c e => ⟨(h a n c e).1, Nat.lt_of_lt_of_le (h a n c e).2 hN⟩
abbrev tcells (r : TxR) (vo vp vg va : Value) (vb kb : Nat) : Array Value :=
  #[.string r.tx, vo, .int .i64 r.ep, vp, vg, va, .map (some vb), .map (some kb), .int .i64 r.o, .int .i64 r.pos, .int .i64 r.why]

structure Tx (w : World) (X : Nat → Prop) (b0 B tb vb kb : Nat) (vo vp vg va : Value) (vs : List Value) (vals : Int → Value) (r : TxR) : Prop where
  blk : w.heap[tb]? = some (.cells (tcells r vo vp vg va vb kb) 85 (0, 0))
  ops : Reads w vo r.ops.length 4 (rowO r.ops)
  prt : Reads w vp r.parts.length 3 (rowP r.parts)
  sp : SP w B vg va r.S vs
  vm : mapN w Try.prog 3 vb r.V.length (votF r.V vals)
  rd : ∀ x ∈ r.V, Reads w (vals x.1) x.2.length 1 (x.2.map .string)
  ak : mapN w Try.prog 3 kb r.K.length (setF r.K)
  t0 : b0 ≤ tb
  v0 : b0 ≤ vb
  k0 : b0 ≤ kb
  tB : tb < B
  vB : vb < B
  kB : kb < B
  d1 : tb ≠ vb
  d2 : tb ≠ kb
  d3 : vb ≠ kb
  xt : ¬ X tb
  xv : ¬ X vb
  xk : ¬ X kb
  xo : FB w.heap.size X tb vb kb vo
  xp : FB w.heap.size X tb vb kb vp
  xs : ∀ k, OB vg va vs k → ¬ X k
  xr : ∀ x ∈ r.V, FB w.heap.size X tb vb kb (vals x.1)
  xl : ∀ k, X k → k < w.heap.size
  nd : (r.V.map (·.1)).Nodup
section
variable {w w' : World} {X : Nat → Prop} {b0 B tb vb kb : Nat} {vo vp vg va : Value} {vs : List Value} {vals : Int → Value} {r : TxR}
theorem Tx.c (h : Tx w X b0 B tb vb kb vo vp vg va vs vals r) (j : Nat) : w.cell? ⟨tb, j, none⟩ = (tcells r vo vp vg va vb kb)[j]? := cell_of_block h.blk
theorem Tx.lt (h : Tx w X b0 B tb vb kb vo vp vg va vs vals r) : tb < w.heap.size := lt_of_block h.blk
theorem Tx.free (h : Tx w X b0 B tb vb kb vo vp vg va vs vals r) (j : Nat) : w.frozen? ⟨tb, j, none⟩ = false := free_of_block h.blk
/-- Worlds that differ in foreign blocks alone. -/
theorem Tx.fr (h : Tx w X b0 B tb vb kb vo vp vg va vs vals r) {S : Nat → Prop} (g : Fr S w w') (hS : ∀ k, k < w.heap.size → S k → X k) : Tx w' X b0 B tb vb kb vo vp vg va vs vals r := by
  have hb : ∀ k, k < w.heap.size → ¬ X k → w'.heap[k]? = w.heap[k]? := fun k hk hx => g.block k hk (fun h => hx (hS k hk h))
  have hrd : ∀ v n s xs, Reads w v n s xs → FB w.heap.size X tb vb kb v → Reads w' v n s xs := fun v n s xs h1 h2 => by
    have g2 : Fr (fun k => S k ∧ k < w.heap.size) w w' := g.mono (fun k hk h => ⟨h, hk⟩)
    exact h1.fr g2 (fun a n c e hx => (h2 a n c e).1.1 (hS _ hx.2 hx.1))
  refine ⟨(hb tb h.lt h.xt).trans h.blk, hrd _ _ _ _ h.ops h.xo, hrd _ _ _ _ h.prt h.xp, ?_, h.vm.of_block (hb vb h.vm.lt h.xv), fun x hx => hrd _ _ _ _ (h.rd x hx) (h.xr x hx), h.ak.of_block (hb kb h.ak.lt h.xk), h.t0, h.v0, h.k0, h.tB, h.vB, h.kB, h.d1, h.d2, h.d3, h.xt, h.xv, h.xk, h.xo.up g.size, h.xp.up g.size, h.xs, fun x hx => (h.xr x hx).up g.size, fun k hk => Nat.lt_of_lt_of_le (h.xl k hk) g.size, h.nd⟩
  have g2 : Fr (fun k => S k ∧ k < w.heap.size) w w' := g.mono (fun k hk h => ⟨h, hk⟩)
  exact h.sp.fr g2 (fun k hk hx => h.xs k hk (hS k hx.2 hx.1))
theorem Tx.fr0 (h : Tx w X b0 B tb vb kb vo vp vg va vs vals r) (g : Fr (fun _ => False) w w') : Tx w' X b0 B tb vb kb vo vp vg va vs vals r := h.fr g (fun _ _ h => h.elim)
/-- A field set. -/
theorem Tx.field (h : Tx w X b0 B tb vb kb vo vp vg va vs vals r) (r' : TxR) (hb : w'.heap[tb]? = some (.cells (tcells r' vo vp vg va vb kb) 85 (0, 0))) (g : Fr (fun k => k = tb) w w')
    (e1 : r'.ops = r.ops) (e2 : r'.parts = r.parts) (e3 : r'.S = r.S) (e4 : r'.V = r.V) (e5 : r'.K = r.K) : Tx w' X b0 B tb vb kb vo vp vg va vs vals r' := by
  have hrd : ∀ v n s xs, Reads w v n s xs → FB w.heap.size X tb vb kb v → Reads w' v n s xs := fun v n s xs h1 h2 => h1.fr g (fun a n c e hx => (h2 a n c e).1.2.1 hx)
  refine ⟨hb, by rw [e1]; exact hrd _ _ _ _ h.ops h.xo, by rw [e2]; exact hrd _ _ _ _ h.prt h.xp, by rw [e3]; exact h.sp.fr g (fun k hk hx => by have := (h.sp.lt k hk).1; have := h.tB; omega), by rw [e4]; exact h.vm.of_block (g.block vb h.vm.lt (fun e => h.d1 e.symm)), by rw [e4]; exact fun x hx => hrd _ _ _ _ (h.rd x hx) (h.xr x hx), by rw [e5]; exact h.ak.of_block (g.block kb h.ak.lt (fun e => h.d2 e.symm)), h.t0, h.v0, h.k0, h.tB, h.vB, h.kB, h.d1, h.d2, h.d3, h.xt, h.xv, h.xk, h.xo.up g.size, h.xp.up g.size, h.xs, by rw [e4]; exact fun x hx => (h.xr x hx).up g.size, fun k hk => Nat.lt_of_lt_of_le (h.xl k hk) g.size, by rw [e4]; exact h.nd⟩
/-- Acks turned. -/
theorem Tx.acked (h : Tx w X b0 B tb vb kb vo vp vg va vs vals r) (K' : List Int) (hk : mapN w' Try.prog 3 kb K'.length (setF K')) (g : Fr (fun k => k = kb) w w') : Tx w' X b0 B tb vb kb vo vp vg va vs vals { r with K := K' } := by
  have hrd : ∀ v n s xs, Reads w v n s xs → FB w.heap.size X tb vb kb v → Reads w' v n s xs := fun v n s xs h1 h2 => h1.fr g (fun a n c e hx => (h2 a n c e).1.2.2.2 hx)
  exact ⟨(g.block tb h.lt h.d2).trans h.blk, hrd _ _ _ _ h.ops h.xo, hrd _ _ _ _ h.prt h.xp, h.sp.fr g (fun k hk hx => by have := (h.sp.lt k hk).1; have := h.kB; omega), h.vm.of_block (g.block vb h.vm.lt h.d3), fun x hx => hrd _ _ _ _ (h.rd x hx) (h.xr x hx), hk, h.t0, h.v0, h.k0, h.tB, h.vB, h.kB, h.d1, h.d2, h.d3, h.xt, h.xv, h.xk, h.xo.up g.size, h.xp.up g.size, h.xs, fun x hx => (h.xr x hx).up g.size, fun k hk => Nat.lt_of_lt_of_le (h.xl k hk) g.size, h.nd⟩
/-- A vote more. -/
theorem Tx.voted (h : Tx w X b0 B tb vb kb vo vp vg va vs vals r) (y : Int) (ts : List ByteArray) (v : Value) (hy : y ∉ r.V.map (·.1)) (hr : Reads w v ts.length 1 (ts.map .string)) (hv : FB w.heap.size X tb vb kb v)
    (hk : mapN w' Try.prog 3 vb (r.V.length + 1) (put (votF r.V vals) (.int .i64 y) v)) (g : Fr (fun k => k = vb) w w') : Tx w' X b0 B tb vb kb vo vp vg va vs (fun x => if x = y then v else vals x) { r with V := r.V ++ [(y, ts)] } := by
  have hrd : ∀ v n s xs, Reads w v n s xs → FB w.heap.size X tb vb kb v → Reads w' v n s xs := fun v n s xs h1 h2 => h1.fr g (fun a n c e hx => (h2 a n c e).1.2.2.1 hx)
  have hne : ∀ x ∈ r.V, x.1 ≠ y := fun x hx e => hy (by rw [← e]; exact List.mem_map_of_mem hx)
  refine ⟨(g.block tb h.lt h.d1).trans h.blk, hrd _ _ _ _ h.ops h.xo, hrd _ _ _ _ h.prt h.xp, h.sp.fr g (fun k hk hx => by have := (h.sp.lt k hk).1; have := h.vB; omega), ?_, fun x hx => ?_, h.ak.of_block (g.block kb h.ak.lt (fun e => h.d3 e.symm)), h.t0, h.v0, h.k0, h.tB, h.vB, h.kB, h.d1, h.d2, h.d3, h.xt, h.xv, h.xk, h.xo.up g.size, h.xp.up g.size, h.xs, fun x hx => ?_, fun k hk => Nat.lt_of_lt_of_le (h.xl k hk) g.size, ?_⟩
  · have e : (r.V ++ [(y, ts)]).length = r.V.length + 1 := by simp
    show mapN w' Try.prog 3 vb (r.V ++ [(y, ts)]).length _
    rw [e]
    refine hk.congr (fun l => ?_)
    unfold put
    split
    · rename_i e2; subst e2; simp [votF]
    · rename_i e2
      match l, e2 with
      | .int .i64 i, e2 =>
        have : i ≠ y := fun e => e2 (by rw [e])
        have e3 : (i ∈ (r.V ++ [(y, ts)]).map (·.1)) ↔ i ∈ r.V.map (·.1) := by rw [List.map_append, List.mem_append]; simp [this]
        show (if i ∈ (r.V ++ [(y, ts)]).map (·.1) then some (if i = y then v else vals i) else none) = (if i ∈ r.V.map (·.1) then some (vals i) else none)
        by_cases hh : i ∈ r.V.map (·.1)
        · rw [if_pos (e3.2 hh), if_pos hh, if_neg this]
        · rw [if_neg (fun h => hh (e3.1 h)), if_neg hh]
      | .int .i8 _, _ | .int .i16 _, _ | .int .i32 _, _ | .int .u8 _, _ | .int .u16 _, _ | .int .u32 _, _ | .int .u64 _, _ => rfl
      | .bool _, _ | .float _ _, _ | .string _, _ | .nil, _ => rfl
  · rcases List.mem_append.1 hx with hx | hx
    · show Reads w' (if x.1 = y then v else vals x.1) _ _ _
      rw [if_neg (hne x hx)]; exact hrd _ _ _ _ (h.rd x hx) (h.xr x hx)
    · simp at hx; subst hx
      show Reads w' (if y = y then v else vals y) _ _ _
      rw [if_pos rfl]; exact hrd _ _ _ _ hr hv
  · rcases List.mem_append.1 hx with hx | hx
    · show FB w'.heap.size X tb vb kb (if x.1 = y then v else vals x.1)
      rw [if_neg (hne x hx)]; exact (h.xr x hx).up g.size
    · simp at hx; subst hx
      show FB w'.heap.size X tb vb kb (if y = y then v else vals y)
      rw [if_pos rfl]; exact hv.up g.size
  · show ((r.V ++ [(y, ts)]).map (·.1)).Nodup
    rw [List.map_append]
    refine List.nodup_append.2 ⟨h.nd, by simp, fun a ha b hb e => ?_⟩
    simp at hb; subst hb; exact hy (e ▸ ha)
end
/-- A transaction at block tb, beside the blocks in X, all that is turned at b0 or behind. -/
def TX (w : World) (X : Nat → Prop) (b0 tb : Nat) (r : TxR) : Prop := ∃ B vb kb vo vp vg va vs vals, Tx w X b0 B tb vb kb vo vp vg va vs vals r
abbrev Own (X : Nat → Prop) (b0 : Nat) : Nat → Prop := fun k => b0 ≤ k ∧ ¬ X k
section
variable {w w' : World} {X X' : Nat → Prop} {b0 tb : Nat} {r : TxR}
theorem TX.fr (h : TX w X b0 tb r) {S : Nat → Prop} (g : Fr S w w') (hS : ∀ k, k < w.heap.size → S k → X k) : TX w' X b0 tb r := by
  obtain ⟨B, vb, kb, vo, vp, vg, va, vs, vals, h⟩ := h; exact ⟨B, vb, kb, vo, vp, vg, va, vs, vals, h.fr g hS⟩
theorem TX.fr0 (h : TX w X b0 tb r) (g : Fr (fun _ => False) w w') : TX w' X b0 tb r := h.fr g (fun _ _ h => h.elim)
theorem TX.less (h : TX w X b0 tb r) (hX : ∀ k, X' k → X k) : TX w X' b0 tb r := by
  obtain ⟨B, vb, kb, vo, vp, vg, va, vs, vals, h⟩ := h
  have hf : ∀ v, FB w.heap.size X tb vb kb v → FB w.heap.size X' tb vb kb v := fun v hv a n c e => ⟨⟨fun hx => (hv a n c e).1.1 (hX _ hx), (hv a n c e).1.2⟩, (hv a n c e).2⟩
  exact ⟨B, vb, kb, vo, vp, vg, va, vs, vals, h.blk, h.ops, h.prt, h.sp, h.vm, h.rd, h.ak, h.t0, h.v0, h.k0, h.tB, h.vB, h.kB, h.d1, h.d2, h.d3, fun hx => h.xt (hX _ hx), fun hx => h.xv (hX _ hx), fun hx => h.xk (hX _ hx), hf _ h.xo, hf _ h.xp, fun k hk hx => h.xs k hk (hX _ hx), fun x hx => hf _ (h.xr x hx), fun k hk => h.xl k (hX _ hk), h.nd⟩
/-- Blocks that were made meanwhile are foreign. -/
theorem TX.more (h : TX w X b0 tb r) (g : Fr (fun _ => False) w w') : TX w' (fun k => X k ∨ (w.heap.size ≤ k ∧ k < w'.heap.size)) b0 tb r := by
  obtain ⟨B, vb, kb, vo, vp, vg, va, vs, vals, h⟩ := h
  have h2 := h.fr0 g
  have hf : ∀ v, FB w.heap.size X tb vb kb v → FB w'.heap.size (fun k => X k ∨ (w.heap.size ≤ k ∧ k < w'.heap.size)) tb vb kb v := fun v hv a n c e => by
    obtain ⟨⟨q1, q2⟩, q3⟩ := hv a n c e
    exact ⟨⟨fun hx => hx.elim q1 (fun h => by omega), q2⟩, Nat.lt_of_lt_of_le q3 g.size⟩
  have l1 := h.lt
  have l2 := h.vm.lt
  have l3 := h.ak.lt
  exact ⟨B, vb, kb, vo, vp, vg, va, vs, vals, h2.blk, h2.ops, h2.prt, h2.sp, h2.vm, h2.rd, h2.ak, h.t0, h.v0, h.k0, h.tB, h.vB, h.kB, h.d1, h.d2, h.d3, fun hx => hx.elim h.xt (fun h => by omega), fun hx => hx.elim h.xv (fun h => by omega), fun hx => hx.elim h.xk (fun h => by omega), hf _ h.xo, hf _ h.xp,
    fun k hk hx => hx.elim (h.xs k hk) (fun h3 => by have := (h.sp.lt k hk).2; omega), fun x hx => hf _ (h.xr x hx), fun k hk => hk.elim (fun h3 => Nat.lt_of_lt_of_le (h.xl k h3) g.size) (fun h => h.2), h.nd⟩
end
end Go.Proofs.Ytehneddmamnmiaa
