/- How great what came in is: by the form's own reach (sized), or by the second form's bulk (upto); and how slices are read with it. -/
import Derived.Test.YtkaibekeokkpnaaOpen
import Derived.Test.YtkaibekeokkpnaaRows
import Derived.SizedLaws
namespace Go.Proofs.Ytkaibekeokkpnaa
open Go.ChangeShapes Go.WideShapes Go.ChangeAt Go.RowKit Go.Cv
set_option linter.unusedVariables false

/-- What a bound gives of its parts. -/
structure Small (P : Program) {H : Type} (lim : Nat) (mult : TypeId → Nat) (B : TypeId → DataW H → Prop) : Prop where
  slice : ∀ {t e : TypeId} {elems spare : List (DataW H)}, P.underlying t = some (.slice e) → B t (.slice elems spare) → elems.length * mult e ≤ lim ∧ ∀ d ∈ elems, B e d
  agg : ∀ {t : TypeId} {fs : Array Field} {parts : List (DataW H)}, P.underlying t = some (.struct fs) → B t (.agg parts) → ∀ (i : Nat) (f : Field) (d : DataW H), fs[i]? = some f → parts[i]? = some d → B f.type d
  arr : ∀ {t e : TypeId} {n : Nat} {parts : List (DataW H)}, P.underlying t = some (.array n e) → B t (.agg parts) → ∀ d ∈ parts, B e d
  text : ∀ {t : TypeId} {bytes : List UInt8}, B t (.lit (.string bytes)) → bytes.length ≤ lim

section
variable {H : Type} {P : Program}
theorem weightsAll_mem {e : TypeId} : ∀ {l : List (DataW H)} {d : DataW H}, d ∈ l → ∀ n ∈ d.weights P e, n ∈ DataW.weightsAll P e l
  | _ :: _, _, .head _, n, hn => by simp only [DataW.weightsAll, List.mem_append]; exact Or.inl hn
  | _ :: _, _, .tail _ h, n, hn => by simp only [DataW.weightsAll, List.mem_append]; exact Or.inr (weightsAll_mem h n hn)

def sizedB (P : Program) (t : TypeId) (d : DataW H) : Prop := ∀ n ∈ d.weights P t, n ≤ reachBytes
theorem small_sized : Small P reachBytes P.bytesOf (sizedB (H := H) P) where
  slice hu h := by
    have hw : ∀ n, n ∈ ((DataW.slice _ _ : DataW H).weights P _) → n ≤ reachBytes := h
    simp only [DataW.weights, hu, List.mem_cons, List.mem_append] at hw
    refine ⟨?_, fun d hd n hn => hw n (Or.inr (Or.inl (weightsAll_mem hd n hn)))⟩
    have := hw _ (Or.inl rfl)
    rw [Nat.add_mul] at this; omega
  agg hu h i f d hf hd n hn := by
    have hw : ∀ n, n ∈ ((DataW.agg _ : DataW H).weights P _) → n ≤ reachBytes := h
    simp only [DataW.weights, hu] at hw
    refine hw n (DataW.weights_mem_each (j := i) (t := f.type) ?_ hd n hn)
    simp [hf]
  arr hu h d hd n hn := by
    have hw : ∀ n, n ∈ ((DataW.agg _ : DataW H).weights P _) → n ≤ reachBytes := h
    simp only [DataW.weights, hu] at hw
    exact hw n (weightsAll_mem hd n hn)
  text h := h _ (by simp [DataW.weights])

theorem bulk_pos : ∀ d : DataW H, 1 ≤ Rows.uptoBulk d
  | .lit l => by cases l <;> simp [Rows.uptoBulk]
  | .nil => by simp [Rows.uptoBulk]
  | .ptr _ | .slice _ _ | .agg _ | .iface _ _ | .map _ | .held _ => by simp [Rows.uptoBulk]
theorem bulk_mem : ∀ {l : List (DataW H)} {d : DataW H}, d ∈ l → Rows.uptoBulk d ≤ Rows.uptoBulkAll l
  | _ :: _, _, .head _ => by simp only [Rows.uptoBulkAll]; omega
  | _ :: _, _, .tail _ h => by have := bulk_mem h; simp only [Rows.uptoBulkAll]; omega
theorem bulk_len : ∀ l : List (DataW H), l.length ≤ Rows.uptoBulkAll l
  | [] => by simp
  | d :: r => by have := bulk_len r; have := bulk_pos d; simp only [Rows.uptoBulkAll, List.length_cons]; omega
def uptoB (_ : TypeId) (d : DataW H) : Prop := Rows.uptoBulk d ≤ 1048576
theorem small_upto : Small P 1048576 (fun _ => 1) (uptoB (H := H)) where
  slice {t e elems spare} hu h := by
    have hw : Rows.uptoBulkAll elems + Rows.uptoBulkAll spare + 1 ≤ 1048576 := by simpa [uptoB, Rows.uptoBulk] using h
    have := bulk_len elems
    exact ⟨by omega, fun d hd => by have := bulk_mem hd; unfold uptoB; omega⟩
  agg {t fs parts} hu h i f d hf hd := by
    have hw : Rows.uptoBulkAll parts + 1 ≤ 1048576 := by simpa [uptoB, Rows.uptoBulk] using h
    have := bulk_mem (List.mem_of_getElem? hd)
    unfold uptoB; omega
  arr {t e n parts} hu h d hd := by
    have hw : Rows.uptoBulkAll parts + 1 ≤ 1048576 := by simpa [uptoB, Rows.uptoBulk] using h
    have := bulk_mem hd
    unfold uptoB; omega
  text {t bytes} h := by
    have hw : bytes.length + 1 ≤ 1048576 := by simpa [uptoB, Rows.uptoBulk] using h
    omega
end

/-- What the cells of one element look like, where a bound holds. -/
def ElemB (P : Program) {H : Type} (B : TypeId → DataW H → Prop) (e : TypeId) {α : Type} (toC : α → List Value) (good : α → Prop) : Prop :=
  ∀ (enc : TypeId × Value → H) (w : World) (base : Nat) (sp : Nat → Bool) (held : Bool) (fuel : Nat) (cs : List Value) (x : DataW H × List MemPlace),
    DataW.trod enc P w base sp held fuel e cs = some x → B e x.1 → ∃ a, cs = toC a ∧ good a

section
variable {P : Program} {H : Type} {B : TypeId → DataW H → Prop} {e : TypeId}
theorem elemB_int {k : IntKind} (he : P.underlying e = some (.int k)) : ElemB P B e (fun z : Int => [.int k z]) (fun z => (Lit.int k z).wf = true) :=
  fun enc w base sp held fuel cs x h _ => by obtain ⟨n, rfl, _, hw⟩ := DataW.trod_int he h; exact ⟨n, rfl, hw⟩
theorem elemB_bool (he : P.underlying e = some .bool) : ElemB P B e (fun b : Bool => [.bool b]) (fun _ => True) :=
  fun enc w base sp held fuel cs x h _ => by obtain ⟨n, rfl, _⟩ := DataW.trod_bool he h; exact ⟨n, rfl, trivial⟩
theorem elemB_string {lim : Nat} {mult : TypeId → Nat} (S : Small P lim mult B) (he : P.underlying e = some .string) : ElemB P B e (fun s : ByteArray => [.string s]) (fun s => s.size ≤ lim) :=
  fun enc w base sp held fuel cs x h hb => by obtain ⟨n, rfl, hx, hw⟩ := DataW.trod_string he h; subst hx; exact ⟨n, rfl, S.text hb⟩
end

/-- A slice that came in: a list of elements. -/
theorem open_rowsB {P : Program} {H : Type} {enc : TypeId × Value → H} {w : World} {base : Nat} {sp : Nat → Bool} {held : Bool} {t e : TypeId} {α : Type} {toC : α → List Value} {good : α → Prop} {lim : Nat} {mult : TypeId → Nat} {B : TypeId → DataW H → Prop} (S : Small P lim mult B) (E : ElemB P B e toC good)
    (ht : P.underlying t = some (.slice e)) (s : Nat) (hs : ∀ a, (toC a).length = s) (h0 : 0 < s) (hc : P.cellsOf e = s) {a : Option Addr} {len cap : Nat} {d : DataW H} {p : List MemPlace}
    (hj : DataW.Trod enc P w base sp held t (.slice a len cap) d p) (hB : B t d) :
    ∃ l : List α, Reads w (.slice a len cap) l.length s (l.flatMap toC) ∧ (∀ x ∈ l, good x) ∧ l.length * mult e ≤ lim := by
  obtain ⟨fuel, hf⟩ := hj
  rcases Deep.open_slice ht hf with ⟨hcs, _⟩ | ⟨a', len', cap', m, n, D, Pl, hcs, hb, hl, hm, hmm, hd, hel⟩
  · simp [Value.cells] at hcs
    obtain ⟨rfl, rfl, rfl⟩ := hcs
    exact ⟨[], Reads.nil _ _, by simp, by simp⟩
  · simp [Value.cells] at hcs
    obtain ⟨rfl, rfl, rfl⟩ := hcs
    have hlm : len ≤ m := by rw [hmm]; split <;> omega
    cases hd
    obtain ⟨hS1, hS2⟩ := S.slice ht hB
    have hSd : ∀ i, i < len → B e (D i) := fun i hi => hS2 _ (List.mem_map.2 ⟨i, List.mem_range.2 hi, rfl⟩)
    have each : ∀ i, i < len → ∃ x, w.cells? base (a'.add (i * s)) s = some (toC x) ∧ good x := by
      intro i hi
      obtain ⟨cs', h1, h2⟩ := hel i (by omega)
      obtain ⟨x, rfl, hx⟩ := E enc w base sp held n cs' _ h2 (hSd i hi)
      rw [hc] at h1
      exact ⟨x, h1, hx⟩
    have build : ∀ k, k ≤ len → ∃ l : List α, l.length = k ∧ ∀ (i : Nat) (x : α), l[i]? = some x → w.cells? base (a'.add (i * s)) s = some (toC x) ∧ good x := by
      intro k
      induction k with
      | zero => intro _; exact ⟨[], rfl, by intro i x h; simp at h⟩
      | succ k ih =>
        intro hk
        obtain ⟨l, hl1, hl2⟩ := ih (by omega)
        obtain ⟨x, hx⟩ := each k (by omega)
        refine ⟨l ++ [x], by simp [hl1], fun i y hy => ?_⟩
        by_cases hi : i < k
        · rw [List.getElem?_append_left (by omega)] at hy; exact hl2 i y hy
        · have hik : i = k := by have := (List.getElem?_eq_some_iff.1 hy).1; simp [hl1] at this; omega
          subst hik
          rw [List.getElem?_append_right (by omega)] at hy
          simp [hl1] at hy; subst hy; exact hx
    obtain ⟨l, hl1, hl2⟩ := build len (Nat.le_refl _)
    refine ⟨l, ⟨by rw [flat_len toC s hs], some a', cap, by rw [hl1], (by intro h; cases h), by omega, ?_⟩, ?_, by rw [hl1]; simpa using hS1⟩
    · intro i u hu
      have hi : i < l.length * s := by have := (List.getElem?_eq_some_iff.1 hu).1; rwa [flat_len toC s hs] at this
      have hd : i / s < l.length := (Nat.div_lt_iff_lt_mul h0).2 hi
      have hmod : i % s < s := Nat.mod_lt _ h0
      have hsplit : i / s * s + i % s = i := by rw [Nat.mul_comm]; exact Nat.div_add_mod i s
      have hx : l[i / s]? = some l[i / s] := List.getElem?_eq_getElem hd
      obtain ⟨h1, _⟩ := hl2 _ _ hx
      obtain ⟨_, hlen, hcells⟩ := World.cells?_some h1
      have hu2 : (toC l[i / s])[i % s]? = some u := by
        rw [← flat_get toC s hs l (i / s) (i % s) _ hx hmod, hsplit]; exact hu
      have := hcells (i % s) hmod
      rw [hu2] at this
      obtain ⟨b, off, spot⟩ := a'
      have hsp : spot = none := by
        have hpos : 0 < l.length := Nat.lt_of_le_of_lt (Nat.zero_le _) hd
        have hx0 : l[0]? = some l[0] := List.getElem?_eq_getElem hpos
        obtain ⟨h4, _⟩ := hl2 _ _ hx0
        obtain ⟨_, _, h5⟩ := World.cells?_some h4
        have h6 := h5 0 h0
        rw [List.getElem?_eq_getElem (by rw [hs]; exact h0)] at h6
        simpa [Addr.add] using World.cell?_spot h6
      subst hsp
      refine ⟨b, off, rfl, ?_⟩
      have hadd : ((⟨b, off, none⟩ : Addr).add (i / s * s)).add (i % s) = ⟨b, off + i, none⟩ := by
        rw [addr_add, addr_add, Nat.add_assoc, hsplit]
      rw [hadd] at this; exact this
    · intro x hx
      obtain ⟨i, hi⟩ := List.mem_iff_getElem?.1 hx
      exact (hl2 i x hi).2


end Go.Proofs.Ytkaibekeokkpnaa
