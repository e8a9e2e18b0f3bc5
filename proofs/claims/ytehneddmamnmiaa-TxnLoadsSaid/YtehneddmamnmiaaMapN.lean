/- Of no program: a map with the number of its entries. -/
import Derived.Test.YtehneddmamnmiaaKit
namespace Go.Cv
open Go.RowKit Go.Maps
open Go.WideElems (Fit rd rg pl rd_val elemAt)
set_option linter.unusedVariables false

/-- Block b is a map of just c entries that holds f. -/
def mapN (w : World) (P : Program) (k : TypeId) (b c : Nat) (f : Lit → Option Value) : Prop :=
  ∃ D : DataW Value, w.ownsMap P k hv b c D ∧ (∀ l z, D.atKey l z = match f l with | some v => .held v | none => z) ∧ Maps.size D = c

variable {P : Program} {k : TypeId} {w : World} {b n c : Nat} {f : Lit → Option Value}

theorem ownsMap_tight {D : DataW Value} (h : w.ownsMap P k hv b n D) (hc : Maps.size D = c) : w.ownsMap P k hv b c D := by
  obtain ⟨es, clock, h1, h2, h3, h4⟩ := h
  refine ⟨es, clock, h1, h2, ?_, h4⟩
  have e1 : Maps.size (DataW.map ((es.toList.map (rg P k hv)).foldr DataW.insert [])) = es.size := by simp [Maps.size, length_sorted]
  rw [← h4, hc] at e1; omega
theorem mapN_made (w : World) (P : Program) (k : TypeId) : mapN (w.alloc (.map #[] 0)) P k w.heap.size 0 (fun _ => none) :=
  ⟨_, World.ownsMap_made w P k hv, fun _ _ => rfl, rfl⟩
theorem mapN.toF (h : mapN w P k b c f) : mapF w P k b c f := by obtain ⟨D, h1, h2, _⟩ := h; exact ⟨D, h1, h2⟩
theorem mapN.lt (h : mapN w P k b c f) : b < w.heap.size := h.toF.lt
theorem mapN.of_block {w' : World} (h : mapN w P k b c f) (hb : w'.heap[b]? = w.heap[b]?) : mapN w' P k b c f := by
  obtain ⟨D, ⟨es, clock, h1, r⟩, h2⟩ := h
  exact ⟨D, ⟨es, clock, hb.trans h1, r⟩, h2⟩
theorem mapN.congr {f' : Lit → Option Value} (h : mapN w P k b c f) (e : ∀ l, f' l = f l) : mapN w P k b c f' := by
  obtain ⟨D, h1, h2, h3⟩ := h; exact ⟨D, h1, fun l z => by rw [h2, e], h3⟩
theorem mapN.len {t e : TypeId} (h : mapN w P k b c f) (ht : P.underlying t = some (.map k e)) (ty : TypeId) : (Builtin.len_ #[t] ty #[.map (some b)]).run P w = .ok (.int .i64 c) w := by
  obtain ⟨D, h1, h2, h3⟩ := h
  rw [h1.len ht, h3]
open Classical in
theorem mapN.store {t e : TypeId} (h : mapN w P k b c f) (K : Keyed P k) (ht : P.underlying t = some (.map k e)) (hn : c < maxLen) {key : Value} (val : Value) {kl : Lit}
    (hkey : keyOf P k key = some kl) : ∃ w', (Instr.mapUpdate t (.map (some b)) key val).run P w = .ok () w' ∧ mapN w' P k b (if (f kl).isSome then c else c + 1) (put f kl val) ∧ w.mapTurned w' b := by
  obtain ⟨D, h1, h2, h0⟩ := h
  obtain ⟨w', hrun, h3, h4⟩ := h1.store K ht hn hkey (val := val) (d := .held val) (ps := []) rfl
  have hs : Maps.size (D.put kl (.held val)) = if (f kl).isSome then c else c + 1 := by
    rw [Maps.size_put (h1.tidy K), h0]
    cases hf : f kl with
    | none => rw [Maps.has_false_of_atKey (fun z => by rw [h2, hf])]; simp
    | some u => rw [Maps.has_true_of_atKey (y := .held u) (fun z => by rw [h2, hf])]; simp
  refine ⟨w', hrun, ⟨_, ownsMap_tight h3 hs, fun l z => ?_, hs⟩, h4⟩
  by_cases hl : l = kl
  · subst hl
    rw [Maps.atKey_put_same h1.isMap (K.key hkey)]; simp [put]
  · rw [Maps.atKey_put_other hl, h2]; simp [put, hl]

theorem wpList_len_n (w : World) {ops : Array Oper} {rest : List Oper} {o : Oper} {a : Act} {Q : Exit → Act → World → Prop} (hg : o.guard = none) (m : Operand) (t : TypeId) (hop : o.op = Op.call { callee := Callee.builtin Builtin.len, args := #[m], argTypes := #[t] })
    (k e : TypeId) (ht : P.underlying t = some (.map k e)) (b c : Nat) (f : Lit → Option Value) (hm : a.eval m = .map (some b)) (hown : mapN w P k b c f)
    (hK : wpList P ops Q rest (a.put o.dst (.int .i64 c)) w) :
    wpList P ops Q (o :: rest) a w := by
  refine wpList_plain hg fun K' hK' => ?_
  unfold Oper.wp
  simp [execOp, hop, resolve, invoke, builtin, hm, hown.len ht o.type, Result.andThen]
  exact hK' _ _ hK

/-! ### sets of numbers as maps -/
def setF (l : List Int) : Lit → Option Value
  | .int .i64 i => if i ∈ l then some (.int .i64 1) else none
  | _ => none
def addS (l : List Int) (i : Int) : List Int := if i ∈ l then l else l ++ [i]
theorem mem_addS {l : List Int} {i x : Int} : x ∈ addS l i ↔ x ∈ l ∨ x = i := by
  unfold addS; split
  · exact ⟨.inl, fun h => h.elim id (fun e => e ▸ by assumption)⟩
  · simp
theorem setF_add (l : List Int) (i : Int) (q : Lit) : setF (addS l i) q = put (setF l) (.int .i64 i) (.int .i64 1) q := by
  unfold put
  split
  · rename_i h; subst h; simp [setF, mem_addS]
  · rename_i h
    match q, h with
    | .int .i64 x, h =>
      have : x ≠ i := fun e => h (by rw [e])
      simp only [setF, mem_addS, this, or_false]
    | .int .i8 _, _ | .int .i16 _, _ | .int .i32 _, _ | .int .u8 _, _ | .int .u16 _, _ | .int .u32 _, _ | .int .u64 _, _ => rfl
    | .bool _, _ | .float _ _, _ | .string _, _ | .nil, _ => rfl
theorem addS_len (l : List Int) (i : Int) : (addS l i).length = if (setF l (.int .i64 i)).isSome then l.length else l.length + 1 := by
  unfold addS setF
  by_cases h : i ∈ l <;> simp [h]
theorem addS_nodup {l : List Int} (h : l.Nodup) (i : Int) : (addS l i).Nodup := by
  unfold addS; split
  · exact h
  · rename_i hi; exact List.nodup_append.2 ⟨h, by simp, by intro x hx y hy e; simp at hy; subst hy; subst e; exact hi hx⟩
theorem nodup_len : ∀ (m : Nat) (l : List Int), l.Nodup → (∀ x ∈ l, 0 ≤ x ∧ x < m) → l.length ≤ m
  | 0, l, _, hb => by
    cases l with
    | nil => simp
    | cons x t => have := hb x List.mem_cons_self; omega
  | m + 1, l, h, hb => by
    have h1 := nodup_len m (l.erase (m : Int)) (h.erase _) (fun x hx => by
      have h2 := hb x (List.mem_of_mem_erase hx)
      have h3 : x ≠ m := fun e => by subst e; exact (List.Nodup.not_mem_erase h) hx
      omega)
    rw [List.length_erase] at h1
    split at h1 <;> omega
theorem wpList_store_mn (w : World) {ops : Array Oper} {rest : List Oper} {o : Oper} {a : Act} {Q : Exit → Act → World → Prop} (hg : o.guard = none) (m x v : Operand) (t : TypeId) (hop : o.op = Op.mapUpdate t m x v)
    (k e : TypeId) (K : Keyed P k) (ht : P.underlying t = some (.map k e)) (b : Nat) (l : List Int)
    (hm : a.eval m = .map (some b)) (hown : mapN w P k b l.length (setF l)) (hn : l.length < maxLen) (i : Int) (hx : a.eval x = .int .i64 i) (hv : a.eval v = .int .i64 1) (hkey : keyOf P k (.int .i64 i) = some (.int .i64 i))
    (hK : ∀ w', mapN w' P k b (addS l i).length (setF (addS l i)) → w.mapTurned w' b → wpList P ops Q rest (a.put o.dst undef) w') :
    wpList P ops Q (o :: rest) a w := by
  refine wpList_plain hg fun K' hK' => ?_
  obtain ⟨w', hrun, r1, r2⟩ := hown.store K ht hn (.int .i64 1) hkey
  unfold Oper.wp
  simp [execOp, hop, hm, hx, hv, hrun, Result.andThen]
  exact hK' _ _ (hK w' (by rw [addS_len]; exact r1.congr (setF_add l i)) r2)
end Go.Cv
