/- What Take does to a table: the plain side, and the memory. -/
import Derived.Test.YtkboipnfpcngcaaLkBusy
namespace Go.Proofs.Ytkboipnfpcngcaa
open Go.RowKit Go.Maps Go.Cv
set_option linter.unusedVariables false

def addB (l : List Bs) (u : Bs) : List Bs := if u ∈ l then l else l ++ [u]
theorem mem_addB {l : List Bs} {u x : Bs} : x ∈ addB l u ↔ x ∈ l ∨ x = u := by
  unfold addB; split
  · exact ⟨.inl, fun h => h.elim id (fun e => e ▸ by assumption)⟩
  · simp
theorem addB_nodup {l : List Bs} (h : l.Nodup) (u : Bs) : (addB l u).Nodup := by
  unfold addB; split
  · exact h
  · rename_i hi; exact List.nodup_append.2 ⟨h, by simp, fun x hx y hy e => by simp at hy; subst hy; subst e; exact hi hx⟩
/-- A name more. -/
def nameT (T : LkT) (c : Bs) : LkT := { T with names := addB T.names c }
/-- Who holds c, and how. -/
def setT (T : LkT) (c u : Bs) (v : Int) : LkT := { T with whos := fun s => if s = c then addB (T.whos c) u else T.whos s, how := fun s x => if s = c ∧ x = u then v else T.how s x }
def wantN (b : Bool) : Int := if b then 2 else 1
def putW (tx : Bs) (T : LkT) (x : WantT) : LkT := setT (nameT T x.1.data.toList) x.1.data.toList tx (max (wantN x.2) (T.how x.1.data.toList tx))
def takeT (T : LkT) (tx : Bs) (l : List WantT) : LkT := l.foldl (putW tx) T
theorem put_ok {T : LkT} (h : LkOk T) (tx : Bs) (htx : tx.length ≤ maxLen) (x : WantT) (hx : x.1.size ≤ maxLen) : LkOk (putW tx T x) := by
  obtain ⟨c, b⟩ := x
  have hcl : c.data.toList.length ≤ maxLen := by simpa using hx
  have hp : max (wantN b) (T.how c.data.toList tx) = 1 ∨ max (wantN b) (T.how c.data.toList tx) = 2 := by
    rcases h.hv c.data.toList tx with e | e | e <;> rw [e] <;> cases b <;> decide
  refine ⟨addB_nodup h.nn _, fun s => ?_, fun s => ?_, fun s u => ?_, fun s u => ?_, fun s hs => ?_, fun s u hu => ?_⟩
  · show (if s = _ then addB (T.whos _) tx else T.whos s).Nodup
    split
    · exact addB_nodup (h.wn _) _
    · exact h.wn s
  · show s ∈ addB T.names c.data.toList ↔ (if s = c.data.toList then addB (T.whos c.data.toList) tx else T.whos s) ≠ []
    rw [mem_addB]
    by_cases e : s = c.data.toList
    · rw [if_pos e]
      refine ⟨fun _ h2 => ?_, fun _ => .inr e⟩
      have : tx ∈ addB (T.whos c.data.toList) tx := mem_addB.2 (.inr rfl)
      rw [h2] at this; cases this
    · rw [if_neg e, ← h.ne s]
      exact ⟨fun h => h.elim (fun h => h) (fun h => absurd h e), .inl⟩
  · show u ∈ (if s = c.data.toList then addB (T.whos c.data.toList) tx else T.whos s) ↔ (if s = c.data.toList ∧ u = tx then max (wantN b) (T.how c.data.toList tx) else T.how s u) ≠ 0
    by_cases e : s = c.data.toList
    · rw [if_pos e]
      by_cases e2 : u = tx
      · rw [if_pos ⟨e, e2⟩, mem_addB]
        exact ⟨fun _ => by omega, fun _ => .inr e2⟩
      · rw [if_neg (fun h => e2 h.2), mem_addB, e, ← h.hw]
        exact ⟨fun h => h.elim (fun h => h) (fun h => absurd h e2), .inl⟩
    · rw [if_neg e, if_neg (fun h => e h.1)]; exact h.hw s u
  · by_cases e : s = c.data.toList ∧ u = tx
    · have e2 : (putW tx T (c, b)).how s u = max (wantN b) (T.how c.data.toList tx) := if_pos e
      rw [e2]; exact .inr hp
    · have e2 : (putW tx T (c, b)).how s u = T.how s u := if_neg e
      rw [e2]; exact h.hv s u
  · rcases mem_addB.1 hs with hs | hs
    · exact h.ns s hs
    · subst hs; exact hcl
  · have hu : u ∈ (if s = c.data.toList then addB (T.whos c.data.toList) tx else T.whos s) := hu
    split at hu
    · rcases mem_addB.1 hu with hu | hu
      · exact h.ws _ u hu
      · subst hu; exact htx
    · exact h.ws s u hu
theorem take_ok {tx : Bs} (htx : tx.length ≤ maxLen) : ∀ (l : List WantT) {T : LkT}, LkOk T → (∀ x ∈ l, x.1.size ≤ maxLen) → LkOk (takeT T tx l)
  | [], T, h, _ => h
  | x :: r, T, h, hs => take_ok htx r (put_ok h tx htx x (hs x List.mem_cons_self)) (fun y hy => hs y (List.mem_cons_of_mem _ hy))
theorem take_snoc (T : LkT) (tx : Bs) (l : List WantT) (x : WantT) : takeT T tx (l ++ [x]) = putW tx (takeT T tx l) x := by simp [takeT]

section
variable {w w' : World} {X : Nat → Prop} {b0 tb ob : Nat} {mb : Bs → Nat} {T : LkT}
theorem addB_len (l : List Bs) (u : Bs) : (addB l u).length = if u ∈ l then l.length else l.length + 1 := by unfold addB; split <;> simp
/-- A name more, with an empty map. -/
theorem Lk.named (h : Lk w X b0 tb ob mb T) {c : Bs} (hc : c ∉ T.names) (hw : T.whos c = []) {nb : Nat} (hn : mapN w Try.prog 9 nb 0 (fun _ => none)) (n0 : b0 ≤ nb) (nx : ¬ X nb) (nt : nb ≠ tb) (no : nb ≠ ob) (nm : ∀ s ∈ T.names, mb s ≠ nb)
    (hm : mapN w' Try.prog 9 ob (T.names.length + 1) (put (outF T mb) (.string c) (.map (some nb)))) (ht : w.mapTurned w' ob) : Lk w' X b0 tb ob (fun s => if s = c then nb else mb s) (nameT T c) := by
  have hf : Fr (fun k => k = ob) w w' := Fr.turned ht rfl
  have hmem : ∀ s, s ∈ (nameT T c).names → s ∈ T.names ∨ s = c := fun s hs => mem_addB.1 hs
  have hne : ∀ s ∈ T.names, s ≠ c := fun s hs e => hc (e ▸ hs)
  refine ⟨(hf.block tb h.lt h.d).trans h.blk, ?_, fun s hs => ?_, h.t0, h.o0, fun s hs => ?_, h.d, fun s hs => ?_, fun s hs s' hs' e => ?_, h.xt, h.xo, fun s hs => ?_, fun k hk => Nat.lt_of_lt_of_le (h.xl k hk) hf.size⟩
  · have e : (nameT T c).names.length = T.names.length + 1 := by show (addB T.names c).length = _; rw [addB_len, if_neg hc]
    rw [e]
    refine hm.congr (fun l => ?_)
    unfold put
    split
    · rename_i e; subst e
      show (if c ∈ addB T.names c then some (Value.map (some (if c = c then nb else mb c))) else none) = _
      rw [if_pos (mem_addB.2 (.inr rfl)), if_pos rfl]
    · rename_i e
      match l, e with
      | .string s, e =>
        have hsc : s ≠ c := fun e2 => e (by rw [e2])
        show (if s ∈ addB T.names c then some (Value.map (some (if s = c then nb else mb s))) else none) = (if s ∈ T.names then some (Value.map (some (mb s))) else none)
        by_cases hs : s ∈ T.names
        · rw [if_pos (mem_addB.2 (.inl hs)), if_pos hs, if_neg hsc]
        · rw [if_neg (fun h => (mem_addB.1 h).elim hs hsc), if_neg hs]
      | .int _ _, _ | .bool _, _ | .float _ _, _ | .nil, _ => rfl
  · show mapN w' _ _ (if s = c then nb else mb s) (T.whos s).length _
    rcases hmem s hs with h2 | h2
    · rw [if_neg (hne s h2)]; exact (h.inn s h2).of_block (hf.block _ (h.inn s h2).lt (h.dt s h2).2)
    · subst h2
      rw [if_pos rfl, hw]
      refine (hn.of_block (hf.block nb hn.lt no)).congr (fun l => ?_)
      unfold innF; split
      · show (if _ ∈ T.whos s then _ else none) = none
        rw [if_neg (by rw [hw]; exact List.not_mem_nil)]
      · rfl
  · show b0 ≤ if s = c then nb else mb s
    rcases hmem s hs with h2 | h2
    · rw [if_neg (hne s h2)]; exact h.m0 s h2
    · rw [if_pos h2]; exact n0
  · show (if s = c then nb else mb s) ≠ tb ∧ (if s = c then nb else mb s) ≠ ob
    rcases hmem s hs with h2 | h2
    · rw [if_neg (hne s h2)]; exact h.dt s h2
    · rw [if_pos h2]; exact ⟨nt, no⟩
  · have e : (if s = c then nb else mb s) = (if s' = c then nb else mb s') := e
    rcases hmem s hs with h2 | h2 <;> rcases hmem s' hs' with h3 | h3
    · rw [if_neg (hne s h2), if_neg (hne s' h3)] at e; exact h.inj s h2 s' h3 e
    · rw [if_neg (hne s h2), if_pos h3] at e; exact absurd e (nm s h2)
    · rw [if_pos h2, if_neg (hne s' h3)] at e; exact absurd e.symm (nm s' h3)
    · rw [h2, h3]
  · show ¬ X (if s = c then nb else mb s)
    rcases hmem s hs with h2 | h2
    · rw [if_neg (hne s h2)]; exact h.xm s h2
    · rw [if_pos h2]; exact nx
theorem Lk.holds (h : Lk w X b0 tb ob mb T) {c : Bs} (hc : c ∈ T.names) (u : Bs) (v : Int)
    (hm : mapN w' Try.prog 9 (mb c) (if (innF T c (.string u)).isSome then (T.whos c).length else (T.whos c).length + 1) (put (innF T c) (.string u) (.int .i64 v))) (ht : w.mapTurned w' (mb c)) : Lk w' X b0 tb ob mb (setT T c u v) := by
  have hf : Fr (fun k => k = mb c) w w' := Fr.turned ht rfl
  refine ⟨(hf.block tb h.lt (fun e => (h.dt c hc).1 e.symm)).trans h.blk, ?_, fun s hs => ?_, h.t0, h.o0, h.m0, h.d, h.dt, h.inj, h.xt, h.xo, h.xm, fun k hk => Nat.lt_of_lt_of_le (h.xl k hk) hf.size⟩
  · exact (h.out.of_block (hf.block ob h.out.lt (fun e => (h.dt c hc).2 e.symm)))
  · have hs : s ∈ T.names := hs
    by_cases e : s = c
    · subst e
      have e1 : ((setT T s u v).whos s).length = if (innF T s (.string u)).isSome then (T.whos s).length else (T.whos s).length + 1 := by
        show (if s = s then addB (T.whos s) u else T.whos s).length = _
        rw [if_pos rfl, addB_len]
        show _ = if (if u ∈ T.whos s then some (Value.int .i64 (T.how s u)) else none).isSome then _ else _
        by_cases hu : u ∈ T.whos s <;> simp [hu]
      rw [e1]
      refine hm.congr (fun l => ?_)
      unfold put
      split
      · rename_i e; subst e
        show (if u ∈ (if s = s then addB (T.whos s) u else T.whos s) then some (Value.int .i64 (if s = s ∧ u = u then v else T.how s u)) else none) = _
        rw [if_pos rfl, if_pos (mem_addB.2 (.inr rfl)), if_pos ⟨rfl, rfl⟩]
      · rename_i e
        match l, e with
        | .string x, e =>
          have hxu : x ≠ u := fun e2 => e (by rw [e2])
          show (if x ∈ (if s = s then addB (T.whos s) u else T.whos s) then some (Value.int .i64 (if s = s ∧ x = u then v else T.how s x)) else none) = (if x ∈ T.whos s then some (Value.int .i64 (T.how s x)) else none)
          have e3 : (if s = s ∧ x = u then v else T.how s x) = T.how s x := if_neg (fun h => hxu h.2)
          rw [if_pos rfl, e3]
          by_cases hx : x ∈ T.whos s
          · rw [if_pos (mem_addB.2 (.inl hx)), if_pos hx]
          · rw [if_neg (fun h => (mem_addB.1 h).elim hx hxu), if_neg hx]
        | .int _ _, _ | .bool _, _ | .float _ _, _ | .nil, _ => rfl
    · have hne : mb s ≠ mb c := fun e2 => e (h.inj s hs c hc e2)
      have e1 : (setT T c u v).whos s = T.whos s := if_neg e
      rw [e1]
      refine ((h.inn s hs).of_block (hf.block _ (h.inn s hs).lt hne)).congr (fun l => ?_)
      unfold innF
      split
      · rename_i x
        rw [e1]
        show (if x ∈ T.whos s then some (Value.int .i64 (if s = c ∧ x = u then v else T.how s x)) else none) = _
        have e3 : (if s = c ∧ x = u then v else T.how s x) = T.how s x := if_neg (fun h => e h.1)
        rw [e3]
      · rfl
end
end Go.Proofs.Ytkboipnfpcngcaa
