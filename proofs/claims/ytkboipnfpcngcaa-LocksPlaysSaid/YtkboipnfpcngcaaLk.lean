/- A table of locks: its state. -/
import Derived.Test.YtkboipnfpcngcaaRows
import Derived.Test.YtkboipnfpcngcaaMapN
import Derived.Test.YtkboipnfpcngcaaRows2
import Derived.StringKeys
import Derived.WalkLawsBesides
import Derived.WalkSpells
import Derived.BigQuiet
import Derived.Outline
namespace Go.Proofs.Ytkboipnfpcngcaa
open Go.RowKit Go.Maps Go.Cv
set_option linter.unusedVariables false

abbrev Bs := List UInt8
/-- Who holds which case, and how: 1 to read, 2 to write. -/
structure LkT where
  names : List Bs
  whos : Bs → List Bs
  how : Bs → Bs → Int
structure LkOk (T : LkT) : Prop where
  nn : T.names.Nodup
  wn : ∀ s, (T.whos s).Nodup
  ne : ∀ s, s ∈ T.names ↔ T.whos s ≠ []
  hw : ∀ s u, u ∈ T.whos s ↔ T.how s u ≠ 0
  hv : ∀ s u, T.how s u = 0 ∨ T.how s u = 1 ∨ T.how s u = 2
  ns : ∀ s ∈ T.names, s.length ≤ maxLen
  ws : ∀ s, ∀ u ∈ T.whos s, u.length ≤ maxLen
def outF (T : LkT) (mb : Bs → Nat) : Lit → Option Value
  | .string s => if s ∈ T.names then some (.map (some (mb s))) else none
  | _ => none
def innF (T : LkT) (s : Bs) : Lit → Option Value
  | .string u => if u ∈ T.whos s then some (.int .i64 (T.how s u)) else none
  | _ => none
theorem lawS : Keyed Try.prog 9 := string_keyed Try.underlying9
theorem keyS (s : ByteArray) (hs : s.size ≤ maxLen) : keyOf Try.prog 9 (.string s) = some (.string s.data.toList) := WideMaps.keyOf_string_mk Try.underlying9 hs
theorem Fr.al {S : Nat → Prop} {a b : World} (h : Fr S a b) (o : Obj) : Fr S a (b.alloc o) := h.trans (Fr.alloc (fun _ => False) b o) (fun _ _ h => h.elim)

structure Lk (w : World) (X : Nat → Prop) (b0 tb ob : Nat) (mb : Bs → Nat) (T : LkT) : Prop where
  blk : w.heap[tb]? = some (.cells #[.map (some ob)] 53 (0, 0))
  out : mapN w Try.prog 9 ob T.names.length (outF T mb)
  inn : ∀ s ∈ T.names, mapN w Try.prog 9 (mb s) (T.whos s).length (innF T s)
  t0 : b0 ≤ tb
  o0 : b0 ≤ ob
  m0 : ∀ s ∈ T.names, b0 ≤ mb s
  d : tb ≠ ob
  dt : ∀ s ∈ T.names, mb s ≠ tb ∧ mb s ≠ ob
  inj : ∀ s ∈ T.names, ∀ s' ∈ T.names, mb s = mb s' → s = s'
  xt : ¬ X tb
  xo : ¬ X ob
  xm : ∀ s ∈ T.names, ¬ X (mb s)
  xl : ∀ k, X k → k < w.heap.size
abbrev Own (X : Nat → Prop) (b0 : Nat) : Nat → Prop := fun k => b0 ≤ k ∧ ¬ X k
section
variable {w w' : World} {X : Nat → Prop} {b0 tb ob : Nat} {mb : Bs → Nat} {T : LkT}
theorem Lk.c (h : Lk w X b0 tb ob mb T) : w.cell? ⟨tb, 0, none⟩ = some (.map (some ob)) := by rw [cell_of_block h.blk]; rfl
theorem Lk.lt (h : Lk w X b0 tb ob mb T) : tb < w.heap.size := lt_of_block h.blk
theorem Lk.fr (h : Lk w X b0 tb ob mb T) {S : Nat → Prop} (g : Fr S w w') (hS : ∀ k, k < w.heap.size → S k → X k) : Lk w' X b0 tb ob mb T := by
  have hb : ∀ k, k < w.heap.size → ¬ X k → w'.heap[k]? = w.heap[k]? := fun k hk hx => g.block k hk (fun h => hx (hS k hk h))
  exact ⟨(hb tb h.lt h.xt).trans h.blk, h.out.of_block (hb ob h.out.lt h.xo), fun s hs => (h.inn s hs).of_block (hb _ (h.inn s hs).lt (h.xm s hs)), h.t0, h.o0, h.m0, h.d, h.dt, h.inj, h.xt, h.xo, h.xm, fun k hk => Nat.lt_of_lt_of_le (h.xl k hk) g.size⟩
theorem Lk.fr0 (h : Lk w X b0 tb ob mb T) (g : Fr (fun _ => False) w w') : Lk w' X b0 tb ob mb T := h.fr g (fun _ _ h => h.elim)
theorem Lk.look (h : Lk w X b0 tb ob mb T) (s : ByteArray) (hs : s.size ≤ maxLen) : (Instr.lookup 51 (.map (some ob)) (.string s) false).run Try.prog w = .ok (if s.data.toList ∈ T.names then .map (some (mb s.data.toList)) else .map none) w := by
  have hz : (zeroValue 55).run Try.prog w = .ok (.map none) w := by kernel_rfl
  rw [h.out.toF.run lawS Try.underlying51 hz (keyS s hs)]
  show Result.ok ((if s.data.toList ∈ T.names then some (Value.map (some (mb s.data.toList))) else none).getD _) w = _
  split <;> rfl
theorem Lk.ilook (h : Lk w X b0 tb ob mb T) (hwh : ∀ s u, u ∈ T.whos s ↔ T.how s u ≠ 0) (s : Bs) (hs : s ∈ T.names) (u : ByteArray) (hu : u.size ≤ maxLen) : (Instr.lookup 55 (.map (some (mb s))) (.string u) false).run Try.prog w = .ok (.int .i64 (T.how s u.data.toList)) w := by
  have hz : (zeroValue 3).run Try.prog w = .ok (.int .i64 0) w := by kernel_rfl
  rw [(h.inn s hs).toF.run lawS Try.underlying55 hz (keyS u hu)]
  show Result.ok ((if u.data.toList ∈ T.whos s then some (Value.int .i64 (T.how s u.data.toList)) else none).getD _) w = _
  by_cases hm : u.data.toList ∈ T.whos s
  · rw [if_pos hm]; rfl
  · rw [if_neg hm]
    have := (not_congr (hwh s u.data.toList)).1 hm
    have e : T.how s u.data.toList = 0 := Classical.byContradiction this
    rw [e]; rfl
theorem nil_look (w : World) (u : ByteArray) (hu : u.size ≤ maxLen) : (Instr.lookup 55 (.map none) (.string u) false).run Try.prog w = .ok (.int .i64 0) w := by
  have hz : (zeroValue 3).run Try.prog w = .ok (.int .i64 0) w := by kernel_rfl
  have := Maps.look_nil (w := w) false lawS Try.underlying55 hz (keyS u hu)
  simpa using this
end
def emptyT : LkT := ⟨[], fun _ => [], fun _ _ => 0⟩
theorem ok_empty : LkOk emptyT := ⟨List.nodup_nil, fun _ => List.nodup_nil, fun s => (by simp [emptyT]), fun s u => (by simp [emptyT]), fun s u => .inl rfl, fun s hs => (by cases hs), fun s u hu => (by cases hu)⟩
theorem newLk_any (w : World) : Calls Try.prog 8 #[] w fun e w' => ∃ tb ob, e = .returned (.pointer (some ⟨tb, 0, none⟩)) ∧ (∀ mb, Lk w' (fun k => k < w.heap.size) w.heap.size tb ob mb emptyT) ∧ Fr (fun _ => False) w w' := by
  have hmm := @run_makeMap Try.prog
  go_enter Try.func8, Try.ntmps8
  go_wp2_with fail
  go_ret
  have hf : Fr (fun _ => False) w ((w.alloc (.map #[] 0)).alloc (.cells #[.map (some w.heap.size)] 53)) := (Fr.alloc _ _ _).trans (Fr.alloc (fun _ => False) _ _) (fun _ _ h => h)
  refine ⟨w.heap.size + 1, w.heap.size, by simp, fun mb => ?_, hf⟩
  have h0 := mapN_made w Try.prog 9
  have hb := block_alloc (w.alloc (.map #[] 0)) (.cells #[.map (some w.heap.size)] 53)
  have hs : (w.alloc (.map #[] 0)).heap.size = w.heap.size + 1 := by simp
  rw [hs] at hb
  refine ⟨hb, (h0.of_block (Below.heap_alloc _ _ _ (by simp))).congr (fun l => by unfold outF; split <;> simp [emptyT]), fun s hs => (by cases hs), by omega, Nat.le_refl _, fun s hs => (by cases hs), by omega, fun s hs => (by cases hs), fun s hs => (by cases hs), by omega, by omega, fun s hs => (by cases hs), fun k hk => Nat.lt_of_lt_of_le hk hf.size⟩
end Go.Proofs.Ytkboipnfpcngcaa
