/- Of no program: how a slice that came in is read, whatever its elements are. -/
import Derived.Test.YtkaibekeokkpnaaKit
import Derived.ProofKit
import Derived.OpenShut
import Derived.ShutString
import Derived.ChangeOld
import Derived.Below
import Derived.Deep.Slices
import Derived.Deep.Strs
import Derived.Lib.SmallJoins
namespace Go.Cv
open Go.ChangeShapes Go.WideShapes Go.ChangeAt Go.RowKit

/-- What the cells of one element look like. -/
def Elem (P : Program) (e : TypeId) {α : Type} (toC : α → List Value) (good : World → α → Prop) : Prop :=
  ∀ {H : Type} (enc : TypeId × Value → H) (w : World) (base : Nat) (sp : Nat → Bool) (held : Bool) (fuel : Nat) (cs : List Value) (x : DataW H × List MemPlace),
    DataW.trod enc P w base sp held fuel e cs = some x → ∃ a, cs = toC a ∧ good w a

theorem elem_int {P : Program} {e : TypeId} {k : IntKind} (he : P.underlying e = some (.int k)) : Elem P e (fun z : Int => [.int k z]) (fun _ z => (Lit.int k z).wf = true) :=
  fun enc w base sp held fuel cs x h => by obtain ⟨n, rfl, _, hw⟩ := DataW.trod_int he h; exact ⟨n, rfl, hw⟩
theorem elem_bool {P : Program} {e : TypeId} (he : P.underlying e = some .bool) : Elem P e (fun b : Bool => [.bool b]) (fun _ _ => True) :=
  fun enc w base sp held fuel cs x h => by obtain ⟨n, rfl, _⟩ := DataW.trod_bool he h; exact ⟨n, rfl, trivial⟩
theorem elem_string {P : Program} {e : TypeId} (he : P.underlying e = some .string) : Elem P e (fun s : ByteArray => [.string s]) (fun _ s => s.size ≤ maxLen) :=
  fun enc w base sp held fuel cs x h => by obtain ⟨n, rfl, _, hw⟩ := DataW.trod_string he h; exact ⟨n, rfl, hw⟩

theorem flat_one {α : Type} (g : α → Value) (l : List α) : (l.flatMap fun z => [g z]) = l.map g := by
  induction l with
  | nil => rfl
  | cons a r ih => simp [ih]

theorem addr_add (b off j : Nat) : (⟨b, off, none⟩ : Addr).add j = ⟨b, off + j, none⟩ := by unfold Addr.add; split <;> simp_all

theorem flat_get {α : Type} (toC : α → List Value) (s : Nat) (hs : ∀ a, (toC a).length = s) : ∀ (l : List α) (i : Nat) (j : Nat) (a : α), l[i]? = some a → j < s → (l.flatMap toC)[i * s + j]? = (toC a)[j]?
  | [], i, j, a, h, _ => by simp at h
  | b :: r, 0, j, a, h, hj => by
    simp at h; subst h
    rw [List.flatMap_cons, List.getElem?_append_left (by rw [hs]; omega)]; simp
  | b :: r, i + 1, j, a, h, hj => by
    rw [List.flatMap_cons, List.getElem?_append_right (by rw [hs, Nat.succ_mul]; omega), hs, show (i + 1) * s + j - s = i * s + j by rw [Nat.succ_mul]; omega]
    exact flat_get toC s hs r i j a (by simpa using h) hj

theorem flat_len {α : Type} (toC : α → List Value) (s : Nat) (hs : ∀ a, (toC a).length = s) (l : List α) : (l.flatMap toC).length = l.length * s := by
  induction l with
  | nil => simp
  | cons a r ih => rw [List.flatMap_cons, List.length_append, hs, ih, List.length_cons, Nat.succ_mul]; omega

/-- A slice that came in: a list of elements. -/
theorem open_rows {P : Program} {H : Type} {enc : TypeId × Value → H} {w : World} {base : Nat} {sp : Nat → Bool} {held : Bool} {t e : TypeId} {α : Type} {toC : α → List Value} {good : World → α → Prop} (E : Elem P e toC good)
    (ht : P.underlying t = some (.slice e)) (s : Nat) (hs : ∀ a, (toC a).length = s) (h0 : 0 < s) (hc : P.cellsOf e = s) {a : Option Addr} {len cap : Nat} {d : DataW H} {p : List MemPlace}
    (hj : DataW.Trod enc P w base sp held t (.slice a len cap) d p) :
    ∃ l : List α, Reads w (.slice a len cap) l.length s (l.flatMap toC) ∧ (∀ x ∈ l, good w x) ∧ l.length ≤ maxLen := by
  obtain ⟨fuel, hf⟩ := hj
  rcases Deep.open_slice ht hf with ⟨hcs, _⟩ | ⟨a', len', cap', m, n, D, Pl, hcs, hb, hl, hm, hmm, _, hel⟩
  · simp [Value.cells] at hcs
    obtain ⟨rfl, rfl, rfl⟩ := hcs
    exact ⟨[], Reads.nil _ _, by simp, by simp⟩
  · simp [Value.cells] at hcs
    obtain ⟨rfl, rfl, rfl⟩ := hcs
    have hlm : len ≤ m := by rw [hmm]; split <;> omega
    have each : ∀ i, i < len → ∃ x, w.cells? base (a'.add (i * s)) s = some (toC x) ∧ good w x := by
      intro i hi
      obtain ⟨cs', h1, h2⟩ := hel i (by omega)
      obtain ⟨x, rfl, hx⟩ := E enc w base sp held n cs' _ h2
      rw [hc] at h1
      exact ⟨x, h1, hx⟩
    have build : ∀ k, k ≤ len → ∃ l : List α, l.length = k ∧ ∀ (i : Nat) (x : α), l[i]? = some x → w.cells? base (a'.add (i * s)) s = some (toC x) ∧ good w x := by
      intro k
      induction k with
      | zero => intro _; exact ⟨[], rfl, by intro i x h; simp at h⟩
      | succ k ih =>
        intro hk
        obtain ⟨l, hl1, hl2⟩ := ih (by omega)
        obtain ⟨x, hx⟩ := each k (by omega)
        refine ⟨l ++ [x], by simp [hl1], fun i y hy => ?_⟩
        by_cases hi : i < k
        · rw [List.getElem?_append_left (by omega)] at hy; exact hl2 i y hy
        · have hik : i = k := by have := (List.getElem?_eq_some_iff.1 hy).1; simp [hl1] at this; omega
          subst hik
          rw [List.getElem?_append_right (by omega)] at hy
          simp [hl1] at hy; subst hy; exact hx
    obtain ⟨l, hl1, hl2⟩ := build len (Nat.le_refl _)
    refine ⟨l, ⟨by rw [flat_len toC s hs], some a', cap, by rw [hl1], (by intro h; cases h), by omega, ?_⟩, ?_, by omega⟩
    · intro i u hu
      have hi : i < l.length * s := by have := (List.getElem?_eq_some_iff.1 hu).1; rwa [flat_len toC s hs] at this
      have hd : i / s < l.length := (Nat.div_lt_iff_lt_mul h0).2 hi
      have hmod : i % s < s := Nat.mod_lt _ h0
      have hsplit : i / s * s + i % s = i := by rw [Nat.mul_comm]; exact Nat.div_add_mod i s
      have hx : l[i / s]? = some l[i / s] := List.getElem?_eq_getElem hd
      obtain ⟨h1, _⟩ := hl2 _ _ hx
      obtain ⟨_, hlen, hcells⟩ := World.cells?_some h1
      have hu2 : (toC l[i / s])[i % s]? = some u := by
        rw [← flat_get toC s hs l (i / s) (i % s) _ hx hmod, hsplit]; exact hu
      have := hcells (i % s) hmod
      rw [hu2] at this
      obtain ⟨b, off, spot⟩ := a'
      have hsp : spot = none := by
        have hpos : 0 < l.length := Nat.lt_of_le_of_lt (Nat.zero_le _) hd
        have hx0 : l[0]? = some l[0] := List.getElem?_eq_getElem hpos
        obtain ⟨h4, _⟩ := hl2 _ _ hx0
        obtain ⟨_, _, h5⟩ := World.cells?_some h4
        have h6 := h5 0 h0
        rw [List.getElem?_eq_getElem (by rw [hs]; exact h0)] at h6
        simpa [Addr.add] using World.cell?_spot h6
      subst hsp
      refine ⟨b, off, rfl, ?_⟩
      have hadd : ((⟨b, off, none⟩ : Addr).add (i / s * s)).add (i % s) = ⟨b, off + i, none⟩ := by
        rw [addr_add, addr_add, Nat.add_assoc, hsplit]
      rw [hadd] at this; exact this
    · intro x hx
      obtain ⟨i, hi⟩ := List.mem_iff_getElem?.1 hx
      exact (hl2 i x hi).2

end Go.Cv
