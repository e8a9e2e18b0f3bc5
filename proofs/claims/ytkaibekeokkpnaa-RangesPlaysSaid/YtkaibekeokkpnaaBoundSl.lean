/- Slices within elements, where a bound holds. -/
import Derived.Test.YtkaibekeokkpnaaBound
namespace Go.Proofs.Ytkaibekeokkpnaa
open Go.ChangeShapes Go.WideShapes Go.ChangeAt Go.RowKit Go.Cv
set_option linter.unusedVariables false

/-- What the cells of one element look like in a world, where a bound holds. -/
def ElemBW (P : Program) {H : Type} (B : TypeId → DataW H → Prop) (e : TypeId) {α : Type} (toC : α → List Value) (good : World → α → Prop) : Prop :=
  ∀ (enc : TypeId × Value → H) (w : World) (base : Nat) (sp : Nat → Bool) (held : Bool) (fuel : Nat) (cs : List Value) (x : DataW H × List MemPlace),
    DataW.trod enc P w base sp held fuel e cs = some x → B e x.1 → ∃ a, cs = toC a ∧ good w a
/-- A slice that came in: a list of elements. -/
theorem open_rowsAt {P : Program} {H : Type} {enc : TypeId × Value → H} {w : World} {base : Nat} {sp : Nat → Bool} {held : Bool} {t e : TypeId} {α : Type} {toC : α → List Value} {good : α → Prop} {lim : Nat} {mult : TypeId → Nat} {B : TypeId → DataW H → Prop} (S : Small P lim mult B) (E : ∀ (fuel : Nat) (cs : List Value) (x : DataW H × List MemPlace), DataW.trod enc P w base sp held fuel e cs = some x → B e x.1 → ∃ a, cs = toC a ∧ good a)
    (ht : P.underlying t = some (.slice e)) (s : Nat) (hs : ∀ a, (toC a).length = s) (h0 : 0 < s) (hc : P.cellsOf e = s) {a : Option Addr} {len cap : Nat} {d : DataW H} {p : List MemPlace}
    (hj : DataW.Trod enc P w base sp held t (.slice a len cap) d p) (hB : B t d) :
    ∃ l : List α, Reads w (.slice a len cap) l.length s (l.flatMap toC) ∧ (∀ x ∈ l, good x) ∧ l.length * mult e ≤ lim := by
  obtain ⟨fuel, hf⟩ := hj
  rcases Deep.open_slice ht hf with ⟨hcs, _⟩ | ⟨a', len', cap', m, n, D, Pl, hcs, hb, hl, hm, hmm, hd, hel⟩
  · simp [Value.cells] at hcs
    obtain ⟨rfl, rfl, rfl⟩ := hcs
    exact ⟨[], Reads.nil _ _, by simp, by simp⟩
  · simp [Value.cells] at hcs
    obtain ⟨rfl, rfl, rfl⟩ := hcs
    have hlm : len ≤ m := by rw [hmm]; split <;> omega
    cases hd
    obtain ⟨hS1, hS2⟩ := S.slice ht hB
    have hSd : ∀ i, i < len → B e (D i) := fun i hi => hS2 _ (List.mem_map.2 ⟨i, List.mem_range.2 hi, rfl⟩)
    have each : ∀ i, i < len → ∃ x, w.cells? base (a'.add (i * s)) s = some (toC x) ∧ good x := by
      intro i hi
      obtain ⟨cs', h1, h2⟩ := hel i (by omega)
      obtain ⟨x, rfl, hx⟩ := E n cs' _ h2 (hSd i hi)
      rw [hc] at h1
      exact ⟨x, h1, hx⟩
    have build : ∀ k, k ≤ len → ∃ l : List α, l.length = k ∧ ∀ (i : Nat) (x : α), l[i]? = some x → w.cells? base (a'.add (i * s)) s = some (toC x) ∧ good x := by
      intro k
      induction k with
      | zero => intro _; exact ⟨[], rfl, by intro i x h; simp at h⟩
      | succ k ih =>
        intro hk
        obtain ⟨l, hl1, hl2⟩ := ih (by omega)
        obtain ⟨x, hx⟩ := each k (by omega)
        refine ⟨l ++ [x], by simp [hl1], fun i y hy => ?_⟩
        by_cases hi : i < k
        · rw [List.getElem?_append_left (by omega)] at hy; exact hl2 i y hy
        · have hik : i = k := by have := (List.getElem?_eq_some_iff.1 hy).1; simp [hl1] at this; omega
          subst hik
          rw [List.getElem?_append_right (by omega)] at hy
          simp [hl1] at hy; subst hy; exact hx
    obtain ⟨l, hl1, hl2⟩ := build len (Nat.le_refl _)
    refine ⟨l, ⟨by rw [flat_len toC s hs], some a', cap, by rw [hl1], (by intro h; cases h), by omega, ?_⟩, ?_, by rw [hl1]; simpa using hS1⟩
    · intro i u hu
      have hi : i < l.length * s := by have := (List.getElem?_eq_some_iff.1 hu).1; rwa [flat_len toC s hs] at this
      have hd : i / s < l.length := (Nat.div_lt_iff_lt_mul h0).2 hi
      have hmod : i % s < s := Nat.mod_lt _ h0
      have hsplit : i / s * s + i % s = i := by rw [Nat.mul_comm]; exact Nat.div_add_mod i s
      have hx : l[i / s]? = some l[i / s] := List.getElem?_eq_getElem hd
      obtain ⟨h1, _⟩ := hl2 _ _ hx
      obtain ⟨_, hlen, hcells⟩ := World.cells?_some h1
      have hu2 : (toC l[i / s])[i % s]? = some u := by
        rw [← flat_get toC s hs l (i / s) (i % s) _ hx hmod, hsplit]; exact hu
      have := hcells (i % s) hmod
      rw [hu2] at this
      obtain ⟨b, off, spot⟩ := a'
      have hsp : spot = none := by
        have hpos : 0 < l.length := Nat.lt_of_le_of_lt (Nat.zero_le _) hd
        have hx0 : l[0]? = some l[0] := List.getElem?_eq_getElem hpos
        obtain ⟨h4, _⟩ := hl2 _ _ hx0
        obtain ⟨_, _, h5⟩ := World.cells?_some h4
        have h6 := h5 0 h0
        rw [List.getElem?_eq_getElem (by rw [hs]; exact h0)] at h6
        simpa [Addr.add] using World.cell?_spot h6
      subst hsp
      refine ⟨b, off, rfl, ?_⟩
      have hadd : ((⟨b, off, none⟩ : Addr).add (i / s * s)).add (i % s) = ⟨b, off + i, none⟩ := by
        rw [addr_add, addr_add, Nat.add_assoc, hsplit]
      rw [hadd] at this; exact this
    · intro x hx
      obtain ⟨i, hi⟩ := List.mem_iff_getElem?.1 hx
      exact (hl2 i x hi).2


theorem field_rowsAt {P : Program} {H : Type} {enc : TypeId × Value → H} {w : World} {base : Nat} {sp : Nat → Bool} {held : Bool} {t e : TypeId} {α : Type} {toC : α → List Value} {good : α → Prop} {lim : Nat} {mult : TypeId → Nat} {B : TypeId → DataW H → Prop} (S : Small P lim mult B)
    (E : ∀ (fuel : Nat) (cs : List Value) (x : DataW H × List MemPlace), DataW.trod enc P w base sp held fuel e cs = some x → B e x.1 → ∃ a, cs = toC a ∧ good a)
    (ht : P.underlying t = some (.slice e)) (s : Nat) (hs : ∀ a, (toC a).length = s) (h0 : 0 < s) (hc : P.cellsOf e = s) {fuel : Nat} {cs : List Value} {x : DataW H × List MemPlace}
    (h : DataW.trod enc P w base sp held fuel t cs = some x) (hB : B t x.1) :
    ∃ v : Option Addr × Nat × List α, cs = [.slice v.1 v.2.2.length v.2.1] ∧ Reads w (.slice v.1 v.2.2.length v.2.1) v.2.2.length s (v.2.2.flatMap toC) ∧ (∀ x ∈ v.2.2, good x) ∧ v.2.2.length * mult e ≤ lim := by
  have key : ∀ a len cap, cs = [.slice a len cap] → ∃ v : Option Addr × Nat × List α, cs = [.slice v.1 v.2.2.length v.2.1] ∧ Reads w (.slice v.1 v.2.2.length v.2.1) v.2.2.length s (v.2.2.flatMap toC) ∧ (∀ x ∈ v.2.2, good x) ∧ v.2.2.length * mult e ≤ lim := by
    intro a len cap hcs
    subst hcs
    obtain ⟨d, p⟩ := x
    have hj : DataW.Trod enc P w base sp held t (.slice a len cap) d p := ⟨fuel, h⟩
    obtain ⟨l, h1, h2, h3⟩ := open_rowsAt S E ht s hs h0 hc hj hB
    obtain ⟨hn, a', c', e', h5⟩ := id h1
    injection e' with e1 e2 e3
    subst e2
    exact ⟨(a, cap, l), rfl, h1, h2, h3⟩
  rcases Deep.open_slice ht h with ⟨hcs, _⟩ | ⟨a', len', cap', m, n, D, Pl, hcs, _⟩
  · exact key _ _ _ hcs
  · exact key _ _ _ hcs
end Go.Proofs.Ytkaibekeokkpnaa
