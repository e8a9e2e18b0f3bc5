/- Of no program: the cells of one element of a slice that came in, at any later world. -/
import Derived.Test.YtkaibekeokkpnaaOpen
namespace Go.Cv
open Go.RowKit Go.Maps

theorem row_cells {α : Type} {toC : α → List Value} {s : Nat} (hs : ∀ a, (toC a).length = s) {w : World} {l : List α} {a0 : Option Addr} {n0 cp : Nat} (h : Reads w (.slice a0 n0 cp) n0 s (l.flatMap toC)) {k : Nat} {x : α} (hx : l[k]? = some x) (h0 : 0 < s) :
    ∃ b0 o0, a0 = some ⟨b0, o0, none⟩ ∧ b0 < w.heap.size ∧ ∀ (j : Nat) (u : Value), (toC x)[j]? = some u → ∀ wx : World, wx.heap[b0]? = w.heap[b0]? → wx.cell? ⟨b0, o0 + k * s + j, none⟩ = some u := by
  obtain ⟨-, a1, c1, e, -, -, hc⟩ := h
  cases e
  have hcell : ∀ j u, (toC x)[j]? = some u → ∃ b off, a0 = some ⟨b, off, none⟩ ∧ w.cell? ⟨b, off + (k * s + j), none⟩ = some u := fun j u hu => by
    have hj : j < s := by have := (List.getElem?_eq_some_iff.1 hu).1; rwa [hs] at this
    exact hc (k * s + j) u (by rw [flat_get toC s hs l k j x hx hj]; exact hu)
  obtain ⟨u0, hu0⟩ : ∃ u, (toC x)[0]? = some u := ⟨_, List.getElem?_eq_getElem (by rw [hs]; exact h0)⟩
  obtain ⟨b0, o0, rfl, e0⟩ := hcell 0 u0 hu0
  refine ⟨b0, o0, rfl, World.block_lt_of_cell? w _ e0, fun j u hu wx hwx => ?_⟩
  obtain ⟨b, o, e, e1⟩ := hcell j u hu
  cases e
  rw [World.cell?_of_block (w := w) hwx, Nat.add_assoc]; exact e1

/-- What was there reads as it did where new blocks alone have turned. -/
theorem reads_old {w w' : World} {v : Value} {n s : Nat} {xs : List Value} (h : Reads w v n s xs) {S : Nat → Prop} (g : Fr S w w') (hS : ∀ k, k < w.heap.size → ¬ S k) : Reads w' v n s xs := by
  obtain ⟨hn, a, c, rfl, h0, h1, h⟩ := h
  refine ⟨hn, a, c, rfl, h0, h1, fun i u hu => ?_⟩
  obtain ⟨b, off, rfl, hc⟩ := h i u hu
  refine ⟨b, off, rfl, ?_⟩
  have hb := World.block_lt_of_cell? w _ hc
  rw [World.cell?_of_block (w := w) (g.block b hb (hS b hb))]
  exact hc
end Go.Cv
