/- Bytes that came in. -/
import Derived.Test.YtehneddmamnmiaaBytes
import Derived.Test.YtehneddmamnmiaaOpen
namespace Go.Proofs.Ytehneddmamnmiaa
open Go.RowKit Go.Maps Go.Cv
set_option linter.unusedVariables false

/-- Bytes that were read as numbers. -/
theorem bytes_of : ∀ (l : List Int), (∀ x ∈ l, (Lit.int .u8 x).wf = true) → ∃ bs : List UInt8, bs.length = l.length ∧ (l.flatMap fun z => [Value.int .u8 z]) = bc bs
  | [], _ => ⟨[], rfl, rfl⟩
  | x :: r, h => by
    obtain ⟨bs, h1, h2⟩ := bytes_of r (fun y hy => h y (List.mem_cons_of_mem _ hy))
    have hx := h x List.mem_cons_self
    simp [Lit.wf, IntKind.min, IntKind.max, IntKind.signed, IntKind.bits] at hx
    refine ⟨UInt8.ofNat x.toNat :: bs, by simp [h1], ?_⟩
    have e : ((UInt8.ofNat x.toNat).toNat : Int) = x := by
      rw [UInt8.toNat_ofNat']; omega
    simp only [List.flatMap_cons, h2, bc, List.map_cons, e, List.singleton_append]

end Go.Proofs.Ytehneddmamnmiaa
