/- Of no program: the keys of a map, sorted: one list. -/
import Derived.Test.YtehneddmamnmiaaKit
import Derived.Lib.SlKeysI
import Derived.Maps.Range
namespace Go.Cv
open Go.RowKit Go.Maps
set_option linter.unusedVariables false
variable {P : Program} {k : TypeId} {w : World} {b n : Nat} {f : Lit → Option Value}

theorem mapF_has {D : DataW Value} (h2 : ∀ l z, D.atKey l z = match f l with | some v => .held v | none => z) (l : Lit) : has D l = (f l).isSome := by
  cases hf : f l with
  | none => exact Maps.has_false_of_atKey (D := D) (k := l) (fun z => by rw [h2, hf])
  | some v => exact Maps.has_true_of_atKey (D := D) (k := l) (y := .held v) (fun z => by rw [h2, hf])

/-- The int keys of f, in order. -/
structure KeysI (f : Lit → Option Value) (ks : List Int) : Prop where
  st : ks.Pairwise (· < ·)
  mem : ∀ x, x ∈ ks ↔ (f (.int .i64 x)).isSome = true

theorem KeysI.nodup {ks : List Int} (h : KeysI f ks) : ks.Nodup := h.st.imp (fun h => by omega)
theorem keysI_sort {D : DataW Value} (hown : w.ownsMap P k hv b n D) (K : Keyed P k) (hk : P.underlying k = some (.int .i64)) (h2 : ∀ l z, D.atKey l z = match f l with | some v => .held v | none => z) {ks : List Int} (hs : KeysI f ks) {ss : List Int} (hp : ss.Perm (intKeys D)) :
    ss.mergeSort (fun x y => decide (x ≤ y)) = ks ∧ ss.length = ks.length := by
  have hperm : ks.Perm (intKeys D) := by
    obtain ⟨es, clock, hb, Ft, _, hD⟩ := hown
    have hown' : w.ownsMap P k hv b n D := ⟨es, clock, hb, Ft, by assumption, hD⟩
    obtain ⟨fs, hD2, hpw, _⟩ := hown'.entries K
    subst hD2
    refine perm_intKeys hpw (fun p hp => ?_) hs.nodup (fun x => by rw [hs.mem, mapF_has h2])
    have hmem : p ∈ (es.toList.map (WideElems.rg P k hv)).foldr DataW.insert [] := by
      have : fs = (es.toList.map (WideElems.rg P k hv)).foldr DataW.insert [] := by cases hD; rfl
      rw [← this]; exact hp
    obtain ⟨x, hx, rfl⟩ := List.mem_map.1 (mem_sorted.1 hmem)
    obtain ⟨y, hy⟩ := Ft.reads x hx
    rw [WideElems.rg_of hy]
    obtain ⟨z, _, hz, _⟩ := Maps.keyOf_i64 hk (WideElems.rd_key hy)
    exact ⟨z, hz⟩
  have hsk : ss.Perm ks := hp.trans hperm.symm
  refine ⟨?_, hsk.length_eq⟩
  have e := mergeSort_of_perm_i hsk
  refine e.trans (List.mergeSort_of_pairwise ?_)
  exact hs.st.imp (fun h => by simp; omega)
end Go.Cv
