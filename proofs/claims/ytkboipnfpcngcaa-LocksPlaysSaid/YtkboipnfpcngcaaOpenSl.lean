/- Of no program: a field that is a slice, of an element that came in. -/
import Derived.Test.YtkboipnfpcngcaaOpen
namespace Go.Cv
open Go.ChangeShapes Go.WideShapes Go.ChangeAt Go.RowKit

theorem field_rows {P : Program} {H : Type} {enc : TypeId × Value → H} {w : World} {base : Nat} {sp : Nat → Bool} {held : Bool} {t e : TypeId} {α : Type} {toC : α → List Value} {good : World → α → Prop} (E : Elem P e toC good)
    (ht : P.underlying t = some (.slice e)) (s : Nat) (hs : ∀ a, (toC a).length = s) (h0 : 0 < s) (hc : P.cellsOf e = s) {fuel : Nat} {cs : List Value} {x : DataW H × List MemPlace}
    (h : DataW.trod enc P w base sp held fuel t cs = some x) :
    ∃ v : Option Addr × Nat × List α, cs = [.slice v.1 v.2.2.length v.2.1] ∧ Reads w (.slice v.1 v.2.2.length v.2.1) v.2.2.length s (v.2.2.flatMap toC) ∧ (∀ x ∈ v.2.2, good w x) ∧ v.2.2.length ≤ maxLen := by
  have key : ∀ a len cap, cs = [.slice a len cap] → ∃ v : Option Addr × Nat × List α, cs = [.slice v.1 v.2.2.length v.2.1] ∧ Reads w (.slice v.1 v.2.2.length v.2.1) v.2.2.length s (v.2.2.flatMap toC) ∧ (∀ x ∈ v.2.2, good w x) ∧ v.2.2.length ≤ maxLen := by
    intro a len cap hcs
    subst hcs
    obtain ⟨d, p⟩ := x
    have hj : DataW.Trod enc P w base sp held t (.slice a len cap) d p := ⟨fuel, h⟩
    obtain ⟨l, h1, h2, h3⟩ := open_rows E ht s hs h0 hc hj
    obtain ⟨hn, a', c', e', h5⟩ := id h1
    injection e' with e1 e2 e3
    subst e2
    exact ⟨(a, cap, l), rfl, h1, h2, h3⟩
  rcases Deep.open_slice ht h with ⟨hcs, _⟩ | ⟨a', len', cap', m, n, D, Pl, hcs, _⟩
  · exact key _ _ _ hcs
  · exact key _ _ _ hcs
end Go.Cv
