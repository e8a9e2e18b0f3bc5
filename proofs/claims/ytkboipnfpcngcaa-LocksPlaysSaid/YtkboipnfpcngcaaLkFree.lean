/- Free of a table of locks. -/
import Derived.Test.YtkboipnfpcngcaaLkTell
namespace Go.Cv
open Go.RowKit Go.Maps
variable {P : Program} {k : TypeId} {w : World} {b n c : Nat} {f : Lit → Option Value}
theorem mapN.drop {t e : TypeId} (h : mapN w P k b c f) (K : Keyed P k) (ht : P.underlying t = some (.map k e)) {key : Value} {kl : Lit} (hkey : keyOf P k key = some kl) (ty : TypeId) :
    ∃ w', (Builtin.delete_ #[t, k] ty #[.map (some b), key]).run P w = .ok (.tuple #[]) w' ∧ mapN w' P k b (if (f kl).isSome then c - 1 else c) (del f kl) ∧ w.mapTurned w' b := by
  obtain ⟨D, h1, h2, h0⟩ := h
  obtain ⟨w', hrun, h3, h4⟩ := h1.drop K ht hkey ty
  have hs : Maps.size (D.del kl) = if (f kl).isSome then c - 1 else c := by
    have h5 := Maps.size_del (k := kl) (h1.tidy K)
    rw [h0] at h5
    cases hf : f kl with
    | none => rw [Maps.has_false_of_atKey (fun z => by rw [h2, hf])] at h5; simpa using h5
    | some u => rw [Maps.has_true_of_atKey (y := .held u) (fun z => by rw [h2, hf])] at h5; simp at h5 ⊢; omega
  refine ⟨w', hrun, ⟨_, ownsMap_tight h3 hs, fun l z => ?_, hs⟩, h4⟩
  by_cases hl : l = kl
  · subst hl
    rw [Maps.atKey_del_same]; simp [del]
  · rw [Maps.atKey_del_other hl, h2]; simp [del, hl]
theorem wpList_delete_run (w : World) {ops : Array Oper} {rest : List Oper} {o : Oper} {a : Act} {Q : Exit → Act → World → Prop} (hg : o.guard = none) (m x : Operand) (t k : TypeId) (hop : o.op = Op.call { callee := Callee.builtin Builtin.delete, args := #[m, x], argTypes := #[t, k] })
    (mv xv : Value) (hm : a.eval m = mv) (hx : a.eval x = xv) (w' : World) (hrun : (Builtin.delete_ #[t, k] o.type #[mv, xv]).run P w = .ok (.tuple #[]) w') (hK : wpList P ops Q rest (a.put o.dst (.tuple #[])) w') :
    wpList P ops Q (o :: rest) a w := by
  refine wpList_plain hg fun K' hK' => ?_
  unfold Oper.wp
  simp [execOp, hop, resolve, invoke, builtin, hm, hx, hrun, Result.andThen]
  exact hK' _ _ hK
end Go.Cv
namespace Go.Proofs.Ytkboipnfpcngcaa
open Go.RowKit Go.Maps Go.Cv
set_option linter.unusedVariables false

def ne (u : Bs) (x : Bs) : Bool := decide (x ≠ u)
def unholdT (T : LkT) (s u : Bs) : LkT := { T with whos := fun x => if x = s then (T.whos s).filter (ne u) else T.whos x, how := fun x y => if x = s ∧ y = u then 0 else T.how x y }
def unnameT (T : LkT) (s : Bs) : LkT := { T with names := T.names.filter (ne s) }
def free1 (u : Bs) (T : LkT) (s : Bs) : LkT := if (T.whos s).filter (ne u) = [] then unnameT (unholdT T s u) s else unholdT T s u
def freeT (T : LkT) (u : Bs) : LkT := (heldT T u).foldl (free1 u) T
theorem filter_ne_len {l : List Bs} (h : l.Nodup) {u : Bs} (hu : u ∈ l) : (l.filter (ne u)).length = l.length - 1 := by
  induction l with
  | nil => cases hu
  | cons a t ih =>
    rw [List.nodup_cons] at h
    rcases List.mem_cons.1 hu with rfl | hu
    · have : (u :: t).filter (ne u) = t := by
        rw [List.filter_cons_of_neg (by simp [ne])]
        exact List.filter_eq_self.2 (fun x hx => by simp [ne]; exact fun e => h.1 (e ▸ hx))
      rw [this]; simp
    · have hau : a ≠ u := fun e => h.1 (e ▸ hu)
      rw [List.filter_cons_of_pos (by simp [ne, hau]), List.length_cons, ih h.2 hu, List.length_cons]
      have := List.length_pos_of_mem hu
      omega
theorem free1_ok {T : LkT} (h : LkOk T) (u s : Bs) (hs : s ∈ T.names) : LkOk (free1 u T s) := by
  have e1 : ∀ x, (free1 u T s).whos x = if x = s then (T.whos s).filter (ne u) else T.whos x := by intro x; unfold free1; split <;> rfl
  have e2 : ∀ x y, (free1 u T s).how x y = if x = s ∧ y = u then 0 else T.how x y := by intro x y; unfold free1; split <;> rfl
  have e3 : ∀ x, x ∈ (free1 u T s).names ↔ x ∈ T.names ∧ ((T.whos s).filter (ne u) = [] → x ≠ s) := by
    intro x; unfold free1
    split
    · rename_i hc
      show x ∈ T.names.filter (ne s) ↔ _
      rw [List.mem_filter]; simp [ne, hc]
    · rename_i hc
      show x ∈ T.names ↔ _
      simp [hc]
  refine ⟨?_, fun x => ?_, fun x => ?_, fun x y => ?_, fun x y => ?_, fun x hx => h.ns x ((e3 x).1 hx).1, fun x y hy => ?_⟩
  · unfold free1; split
    · exact h.nn.filter _
    · exact h.nn
  · rw [e1]; split
    · exact (h.wn s).filter _
    · exact h.wn x
  · rw [e3, e1]
    by_cases e : x = s
    · subst e
      rw [if_pos rfl]
      exact ⟨fun q hc => q.2 hc rfl, fun q => ⟨hs, fun hc => absurd hc q⟩⟩
    · rw [if_neg e, ← h.ne x]
      exact ⟨fun q => q.1, fun q => ⟨q, fun _ => e⟩⟩
  · rw [e1, e2]
    by_cases e : x = s
    · subst e
      rw [if_pos rfl, List.mem_filter]
      by_cases e4 : y = u
      · rw [if_pos ⟨rfl, e4⟩]; simp [ne, e4]
      · rw [if_neg (fun q => e4 q.2), ← h.hw]; simp [ne, e4]
    · rw [if_neg e, if_neg (fun q => e q.1)]; exact h.hw x y
  · rw [e2]; split
    · exact .inl rfl
    · exact h.hv x y
  · rw [e1] at hy
    split at hy
    · exact h.ws s y (List.mem_filter.1 hy).1
    · exact h.ws x y hy
theorem free1_other {T : LkT} {u s x : Bs} (hx : x ≠ s) : (free1 u T s).whos x = T.whos x ∧ (x ∈ (free1 u T s).names ↔ x ∈ T.names) ∧ ∀ y, (free1 u T s).how x y = T.how x y := by
  unfold free1
  split
  · exact ⟨if_neg hx, by show x ∈ T.names.filter (ne s) ↔ _; rw [List.mem_filter]; simp [ne, hx], fun y => if_neg (fun q => hx q.1)⟩
  · exact ⟨if_neg hx, Iff.rfl, fun y => if_neg (fun q => hx q.1)⟩
theorem free_other {u x : Bs} : ∀ (l : List Bs) {T : LkT}, x ∉ l → (l.foldl (free1 u) T).whos x = T.whos x ∧ (x ∈ (l.foldl (free1 u) T).names ↔ x ∈ T.names) ∧ ∀ y, (l.foldl (free1 u) T).how x y = T.how x y
  | [], T, _ => ⟨rfl, Iff.rfl, fun _ => rfl⟩
  | s :: r, T, h => by
    have h1 : x ≠ s := fun e => h (by rw [e]; exact List.mem_cons_self)
    obtain ⟨a1, a2, a3⟩ := free_other (u := u) r (T := free1 u T s) (fun q => h (List.mem_cons_of_mem _ q))
    obtain ⟨b1, b2, b3⟩ := free1_other (T := T) (u := u) h1
    exact ⟨a1.trans b1, a2.trans b2, fun y => (a3 y).trans (b3 y)⟩
theorem free_names {u : Bs} : ∀ (l : List Bs) {T : LkT} {x : Bs}, x ∈ (l.foldl (free1 u) T).names → x ∈ T.names
  | [], T, x, h => h
  | s :: r, T, x, h => by
    have h1 := free_names r h
    unfold free1 at h1
    split at h1
    · exact (List.mem_filter.1 h1).1
    · exact h1
theorem free_ok {u : Bs} : ∀ (l : List Bs) {T : LkT}, LkOk T → l.Nodup → (∀ s ∈ l, s ∈ T.names) → LkOk (l.foldl (free1 u) T)
  | [], T, h, _, _ => h
  | s :: r, T, h, hn, hs => by
    rw [List.nodup_cons] at hn
    refine free_ok r (free1_ok h u s (hs s List.mem_cons_self)) hn.2 (fun x hx => ?_)
    have hxs : x ≠ s := fun e => hn.1 (e ▸ hx)
    exact (free1_other hxs).2.1.2 (hs x (List.mem_cons_of_mem _ hx))
theorem held_nodup {T : LkT} (h : LkOk T) (u : Bs) : (heldT T u).Nodup := ((sortB_perm _).nodup_iff.2 h.nn).filter _
theorem mem_held {T : LkT} {u s : Bs} (h : s ∈ heldT T u) : s ∈ T.names ∧ 0 < T.how s u := by
  unfold heldT at h
  rw [List.mem_filter, mem_sortB] at h
  exact ⟨h.1, by simpa using h.2⟩
section
variable {w w' : World} {X : Nat → Prop} {b0 tb ob : Nat} {mb : Bs → Nat} {T : LkT}
theorem Lk.unheld (h : Lk w X b0 tb ob mb T) {s u : Bs} (hs : s ∈ T.names) (hn : (T.whos s).Nodup) (hu : u ∈ T.whos s)
    (hm : mapN w' Try.prog 9 (mb s) (if (innF T s (.string u)).isSome then (T.whos s).length - 1 else (T.whos s).length) (del (innF T s) (.string u))) (ht : w.mapTurned w' (mb s)) : Lk w' X b0 tb ob mb (unholdT T s u) := by
  have hf : Fr (fun k => k = mb s) w w' := Fr.turned ht rfl
  refine ⟨(hf.block tb h.lt (fun e => (h.dt s hs).1 e.symm)).trans h.blk, h.out.of_block (hf.block ob h.out.lt (fun e => (h.dt s hs).2 e.symm)), fun x hx => ?_, h.t0, h.o0, h.m0, h.d, h.dt, h.inj, h.xt, h.xo, h.xm, fun k hk => Nat.lt_of_lt_of_le (h.xl k hk) hf.size⟩
  have hx : x ∈ T.names := hx
  by_cases e : x = s
  · subst e
    have e1 : ((unholdT T x u).whos x).length = if (innF T x (.string u)).isSome then (T.whos x).length - 1 else (T.whos x).length := by
      show (if x = x then (T.whos x).filter (ne u) else T.whos x).length = _
      rw [if_pos rfl, filter_ne_len hn hu]
      show _ = if (if u ∈ T.whos x then some (Value.int .i64 (T.how x u)) else none).isSome then _ else _
      simp [hu]
    rw [e1]
    refine hm.congr (fun l => ?_)
    unfold del
    split
    · rename_i e; subst e
      show (if u ∈ (if x = x then (T.whos x).filter (ne u) else T.whos x) then some (Value.int .i64 (if x = x ∧ u = u then 0 else T.how x u)) else none) = none
      rw [if_pos rfl, if_neg (by rw [List.mem_filter]; simp [ne])]
    · rename_i e
      match l, e with
      | .string y, e =>
        have hyu : y ≠ u := fun e2 => e (by rw [e2])
        show (if y ∈ (if x = x then (T.whos x).filter (ne u) else T.whos x) then some (Value.int .i64 (if x = x ∧ y = u then 0 else T.how x y)) else none) = (if y ∈ T.whos x then some (Value.int .i64 (T.how x y)) else none)
        have e3 : (if x = x ∧ y = u then 0 else T.how x y) = T.how x y := if_neg (fun h => hyu h.2)
        rw [if_pos rfl, e3]
        by_cases hy : y ∈ T.whos x
        · rw [if_pos (List.mem_filter.2 ⟨hy, by simp [ne, hyu]⟩), if_pos hy]
        · rw [if_neg (fun h => hy (List.mem_filter.1 h).1), if_neg hy]
      | .int _ _, _ | .bool _, _ | .float _ _, _ | .nil, _ => rfl
  · have hne : mb x ≠ mb s := fun e2 => e (h.inj x hx s hs e2)
    have e1 : (unholdT T s u).whos x = T.whos x := if_neg e
    rw [e1]
    refine ((h.inn x hx).of_block (hf.block _ (h.inn x hx).lt hne)).congr (fun l => ?_)
    unfold innF
    split
    · rename_i y
      rw [e1]
      show (if y ∈ T.whos x then some (Value.int .i64 (if x = s ∧ y = u then 0 else T.how x y)) else none) = _
      have e3 : (if x = s ∧ y = u then 0 else T.how x y) = T.how x y := if_neg (fun h => e h.1)
      rw [e3]
    · rfl
theorem Lk.unnamed (h : Lk w X b0 tb ob mb T) {s : Bs} (hs : s ∈ T.names) (hn : T.names.Nodup)
    (hm : mapN w' Try.prog 9 ob (if (outF T mb (.string s)).isSome then T.names.length - 1 else T.names.length) (del (outF T mb) (.string s))) (ht : w.mapTurned w' ob) : Lk w' X b0 tb ob mb (unnameT T s) := by
  have hf : Fr (fun k => k = ob) w w' := Fr.turned ht rfl
  have hmem : ∀ x, x ∈ (unnameT T s).names → x ∈ T.names := fun x hx => (List.mem_filter.1 hx).1
  refine ⟨(hf.block tb h.lt h.d).trans h.blk, ?_, fun x hx => (h.inn x (hmem x hx)).of_block (hf.block _ (h.inn x (hmem x hx)).lt (h.dt x (hmem x hx)).2), h.t0, h.o0, fun x hx => h.m0 x (hmem x hx), h.d, fun x hx => h.dt x (hmem x hx), fun x hx y hy => h.inj x (hmem x hx) y (hmem y hy), h.xt, h.xo, fun x hx => h.xm x (hmem x hx), fun k hk => Nat.lt_of_lt_of_le (h.xl k hk) hf.size⟩
  have e1 : (unnameT T s).names.length = if (outF T mb (.string s)).isSome then T.names.length - 1 else T.names.length := by
    show (T.names.filter (ne s)).length = _
    rw [filter_ne_len hn hs]
    show _ = if (if s ∈ T.names then some (Value.map (some (mb s))) else none).isSome then _ else _
    simp [hs]
  rw [e1]
  refine hm.congr (fun l => ?_)
  unfold del
  split
  · rename_i e; subst e
    show (if s ∈ T.names.filter (ne s) then some (Value.map (some (mb s))) else none) = none
    rw [if_neg (by rw [List.mem_filter]; simp [ne])]
  · rename_i e
    match l, e with
    | .string y, e =>
      have hyu : y ≠ s := fun e2 => e (by rw [e2])
      show (if y ∈ T.names.filter (ne s) then some (Value.map (some (mb y))) else none) = (if y ∈ T.names then some (Value.map (some (mb y))) else none)
      by_cases hy : y ∈ T.names
      · rw [if_pos (List.mem_filter.2 ⟨hy, by simp [ne, hyu]⟩), if_pos hy]
      · rw [if_neg (fun h => hy (List.mem_filter.1 h).1), if_neg hy]
    | .int _ _, _ | .bool _, _ | .float _ _, _ | .nil, _ => rfl
end
end Go.Proofs.Ytkboipnfpcngcaa
