/- Of no program: a run of cells stored into a block; clear at elements of several cells; a row of which one element is taken out. -/
import Derived.Test.YtkaibekeokkpnaaOpen
import Derived.Laws.IdiomCopy
import Derived.Deep.MidRow
import Derived.Deep.RegionLaw
namespace Go.Cv
open Go.RowKit Go.Maps
set_option linter.unusedVariables false
variable {P : Program}

/-- An array with a run of values laid over it. -/
def layA (cs : Array Value) : Nat → List Value → Array Value
  | _, [] => cs
  | o, v :: r => layA (cs.setIfInBounds o v) (o + 1) r

theorem layA_toList : ∀ (vs : List Value) (cs : Array Value) (o : Nat), o + vs.length ≤ cs.size → (layA cs o vs).toList = cs.toList.take o ++ vs ++ cs.toList.drop (o + vs.length)
  | [], cs, o, _ => by simp [layA]
  | v :: r, cs, o, h => by
    simp only [List.length_cons] at h
    rw [layA, layA_toList r _ (o + 1) (by simp; omega)]
    have h1 : (cs.setIfInBounds o v).toList = cs.toList.set o v := by simp
    rw [h1]
    have ho : o < cs.toList.length := by simp; omega
    have h2 : (cs.toList.set o v).take (o + 1) = cs.toList.take o ++ [v] := by
      rw [List.set_eq_take_append_cons_drop, if_pos ho, List.take_append, List.length_take, show min o cs.toList.length = o by omega, show o + 1 - o = 1 by omega, List.take_of_length_le (by simp; omega)]
      simp
    have h3 : (cs.toList.set o v).drop (o + 1 + r.length) = cs.toList.drop (o + (v :: r).length) := by
      rw [List.drop_set_of_lt (by omega)]
      congr 1; simp; omega
    rw [h2, h3]; simp

theorem layA_size : ∀ (vs : List Value) (cs : Array Value) (o : Nat), (layA cs o vs).size = cs.size
  | [], _, _ => rfl
  | v :: r, cs, o => by rw [layA, layA_size r]; simp

theorem block_setCells : ∀ (vs : List Value) (o : Nat) (w : World) (b : Nat) (cs : Array Value) (t : TypeId) (fr : Nat × Nat), w.heap[b]? = some (.cells cs t fr) → (w.setCells b o vs).heap[b]? = some (.cells (layA cs o vs) t fr)
  | [], _, _, _, _, _, _, h => h
  | v :: r, o, w, b, cs, t, fr, h => by
    rw [World.setCells, layA]
    exact block_setCells r (o + 1) _ b _ t fr (block_setCell h v)

theorem Fr.setCells {S : Nat → Prop} : ∀ (vs : List Value) (o : Nat) (w : World) (b : Nat), S b → Fr S w (w.setCells b o vs)
  | [], _, w, _, _ => Fr.refl S w
  | v :: r, o, w, b, h => (Fr.setCell w ⟨b, o, none⟩ v h).trans (Fr.setCells r (o + 1) _ b h) (fun _ _ h => h)

/-- clear(s), s a slice of n > 0 elements whose zero value has the cells zs. -/
theorem run_clear_rows (w : World) (t e ty : TypeId) (z : Value) (ht : P.underlying t = some (.slice e)) (hv : ∀ w, (zeroValue e).run P w = .ok z w) (b o n c : Nat) (hn : 0 < n) (vs : List Value) (hvs : (Builtin.zeroCells z.cells n).toList = vs)
    (h1 : ∀ v ∈ vs, v.oneCell' = true) (hc : ∀ j, j < vs.length → (w.cell? ⟨b, o + j, none⟩).isSome = true) (hf : ∀ j, j < vs.length → w.frozen? ⟨b, o + j, none⟩ = false) :
    (Builtin.clear_ #[t] ty #[.slice (some ⟨b, o, none⟩) n c]).run P w = .ok (.tuple #[]) (w.setCells b o vs) := by
  have hst := run_storeCells_cells (P := P) b o vs 0 w (by simpa using hc) (by simpa using hf) h1
  simp only [Nat.add_zero] at hst
  obtain ⟨m, rfl⟩ : ∃ m, n = m + 1 := ⟨n - 1, by omega⟩
  simp [Builtin.clear_, run_underlying ht, hv, hvs, hst]

/-- A row behind the loss of its element i: what stood ahead, what stood behind, then z. -/
theorem row_out (cs : Array Value) (xs : List Value) (n cap s i : Nat) (hsz : cs.size = cap * s) (htake : cs.toList.take (n * s) = xs) (hi : i < n) (hn : n ≤ cap) (zs : List Value) (hz : zs.length = s) :
    (layA (layA cs (i * s) (xs.drop ((i + 1) * s))) ((n - 1) * s) zs).toList.take ((n - 1) * s) = xs.take (i * s) ++ xs.drop ((i + 1) * s) := by
  have hcs : n * s ≤ cap * s := Nat.mul_le_mul_right _ hn
  have e1 : (i + 1) * s = i * s + s := by rw [Nat.succ_mul]
  have e2 : (n - 1) * s + s = n * s := by rw [← Nat.succ_mul]; congr 1; omega
  have e3 : i * s ≤ (n - 1) * s := Nat.mul_le_mul_right _ (by omega)
  have hxl : xs.length = n * s := by rw [← htake, List.length_take]; simp; omega
  have hdl : (xs.drop ((i + 1) * s)).length = (n - 1) * s - i * s := by rw [List.length_drop, hxl]; omega
  rw [layA_toList _ _ _ (by rw [layA_size, hz, hsz]; omega), layA_toList _ _ _ (by rw [hdl, hsz]; omega)]
  rw [List.append_assoc, List.take_left' (by simp; omega)]
  have e4 : cs.toList.take (i * s) = xs.take (i * s) := by
    rw [← htake, List.take_take, show min (i * s) (n * s) = i * s by omega]
  rw [e4, List.take_left' (by rw [List.length_append, hdl, List.length_take, hxl]; omega)]

/-- What is cut out of a slice. -/
theorem reads_cut {w : World} {a : Option Addr} {n c s : Nat} {xs : List Value} (h : Reads w (.slice a n c) n s xs) {lo hi : Nat} (h1 : lo ≤ hi) (h2 : hi ≤ n) :
    Reads w (Go.sliced a lo hi c s) (hi - lo) s ((xs.drop (lo * s)).take ((hi - lo) * s)) := by
  obtain ⟨hl, a0, c0, e, h3, h4, h5⟩ := h
  cases e
  have hm : lo * s + (hi - lo) * s ≤ n * s := by rw [← Nat.add_mul]; exact Nat.mul_le_mul_right _ (by omega)
  refine ⟨by rw [List.length_take, List.length_drop, hl]; omega, _, _, rfl, ?_, by omega, ?_⟩
  · intro he
    cases a with
    | none => obtain ⟨rfl, rfl⟩ := h3 rfl; omega
    | some a => split at he <;> cases he
  · intro i u hu
    have hi' : i < (hi - lo) * s := by
      have := (List.getElem?_eq_some_iff.1 hu).1
      rw [List.length_take] at this; omega
    rw [List.getElem?_take, if_pos hi', List.getElem?_drop] at hu
    obtain ⟨b, off, rfl, hc⟩ := h5 _ _ hu
    have hne : ¬ c = lo := by
      intro e2
      have : hi - lo = 0 := by omega
      rw [this] at hi'; omega
    refine ⟨b, off + lo * s, ?_, by rw [Nat.add_assoc]; exact hc⟩
    rw [if_neg hne, Option.map_some]; unfold Addr.add; split <;> simp_all

theorem wf_bounds {x : Int} (h : (Lit.int .i64 x).wf = true) : -9223372036854775808 ≤ x ∧ x ≤ 9223372036854775807 := by
  simp [Lit.wf, IntKind.min, IntKind.max, IntKind.signed, IntKind.bits] at h; omega
end Go.Cv
