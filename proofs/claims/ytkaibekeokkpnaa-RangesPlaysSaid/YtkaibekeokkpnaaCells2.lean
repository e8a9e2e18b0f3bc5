/- Of no program: a cell of a row set; bytes turned. -/
import Derived.Test.YtkaibekeokkpnaaCells
import Derived.Test.YtkaibekeokkpnaaBytes
namespace Go.Cv
open Go.RowKit Go.Maps
set_option linter.unusedVariables false

/-- A cell of the call's own row set. -/
theorem own_set {w : World} {base e s : Nat} {g c n : Nat} {xs : List Value} (h : w.ownsRow base e s (.slice (some ⟨g, 0, none⟩) n c) n xs) (k : Nat) (v : Value) : (w.setCell ⟨g, k, none⟩ v).ownsRow base e s (.slice (some ⟨g, 0, none⟩) n c) n (xs.set k v) := by
  refine ⟨by rw [List.length_set]; exact h.1, ?_⟩
  rcases h.2 with ⟨e0, _⟩ | ⟨g', cap, cur, e0, hb, hg, hn, hm, hs, ht⟩
  · cases e0
  · cases e0
    refine .inr ⟨g, c, _, rfl, hb, block_setCell hg v, hn, hm, by simpa using hs, ?_⟩
    rw [Array.toList_setIfInBounds, List.take_set, ht]

theorem own_base {w : World} {base base' e s : Nat} {v : Value} {n : Nat} {xs : List Value} (h : w.ownsRow base e s v n xs) (hb : base' ≤ base) : w.ownsRow base' e s v n xs :=
  ⟨h.1, h.2.imp id (fun ⟨g, cap, cur, e, h1, r⟩ => ⟨g, cap, cur, e, Nat.le_trans hb h1, r⟩)⟩
theorem xor_u8 (x y : UInt8) : ∃ u : UInt8, bits BinOp.xor IntKind.u8 (x.toNat : Int) (y.toNat : Int) = (u.toNat : Int) := by
  refine ⟨UInt8.ofNat (BitVec.ofNat 8 x.toNat ^^^ BitVec.ofNat 8 y.toNat).toNat, ?_⟩
  unfold bits
  simp only [IntKind.bits, BitVec.ofInt_natCast]
  exact wrap_u8 _
end Go.Cv
