/- Of no program: the text keys of a map, sorted: one list. -/
import Derived.Test.YtkboipnfpcngcaaKit
import Derived.Sort.KeysCollected
import Derived.Maps.Range
namespace Go.Cv
open Go.RowKit Go.Maps
set_option linter.unusedVariables false
variable {P : Program} {k : TypeId} {w : World} {b n : Nat} {f : Lit → Option Value}

theorem mapF_hasS {D : DataW Value} (h2 : ∀ l z, D.atKey l z = match f l with | some v => .held v | none => z) (l : Lit) : has D l = (f l).isSome := by
  cases hf : f l with
  | none => exact Maps.has_false_of_atKey (D := D) (k := l) (fun z => by rw [h2, hf])
  | some v => exact Maps.has_true_of_atKey (D := D) (k := l) (y := .held v) (fun z => by rw [h2, hf])

/-- The text keys of f, in order. -/
structure KeysS (f : Lit → Option Value) (ks : List (List UInt8)) : Prop where
  st : ks.Pairwise (fun x y => leB x y = true)
  nd : ks.Nodup
  mem : ∀ x, x ∈ ks ↔ (f (.string x)).isSome = true

theorem keysS_sort {D : DataW Value} (hown : w.ownsMap P k hv b n D) (K : Keyed P k) (hk : P.underlying k = some .string) (h2 : ∀ l z, D.atKey l z = match f l with | some v => .held v | none => z) {ks : List (List UInt8)} (hs : KeysS f ks) {ss : List (List UInt8)} (hp : ss.Perm (strKeys D)) :
    ss.mergeSort leB = ks ∧ ss.length = ks.length := by
  have hperm : ks.Perm (strKeys D) := by
    obtain ⟨es, hD, hpw, _⟩ := hown.entries K
    obtain ⟨es', hD', hko⟩ := hown.keysOf
    obtain rfl : es = es' := by rw [hD] at hD'; simpa using hD'
    subst hD
    exact perm_strKeys hpw (fun p hp => by obtain ⟨v, hv⟩ := hko p hp; obtain ⟨x, _, hx, _⟩ := Maps.keyOf_str hk hv; exact ⟨x, hx⟩) hs.nd (fun x => by rw [hs.mem, mapF_hasS h2])
  have hsk : ss.Perm ks := hp.trans hperm.symm
  refine ⟨?_, hsk.length_eq⟩
  have e := mergeSort_of_perm hsk
  exact e.trans (List.mergeSort_of_pairwise hs.st)
end Go.Cv
