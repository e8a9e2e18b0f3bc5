/-
  No cell of these rows narrows 'for every input' (looked for: loops, veiled, ifaces, maps, wideKeys, modest, calm, conditions, laid).
  DERIVED. THE GIVEN ROWS OF THIS SEAT. 5 by the template 'for every input the law returns true; each argument reads behind the call as it read before'; 0 by the template 'total and deterministic' (their statements: YtmbmknhpfolkkaaTotals.lean).
  GIVEN WITH THE SEED: the statements are not yours to turn. If you find one false, say at which input.
  Laid BY PROGRAM, IN A SANDBOX (cutbox-rows.mjs): the forced cells as the released guide's own fill.sh prints them over the translation 085f9b92c1d1f065… (all of the seat's roots in one cut). By AI agents, Wed Nov 11 2026. No macro, syntax, notation, axiom, sorry.
-/
import Derived.Test.YtmbmknhpfolkkaaChecked
import GoSem.Claim
import GoSem.ClaimJoined
import GoSem.ClaimMapViews
import Derived.JoinedTies
import Derived.KernelRfl
namespace Go.Proofs.Ytmbmknhpfolkkaa
/- THE CELL 'sum', in the pinned program and in every row, IS THE sha256 OF THE DUMP (.gsa) THAT YtmbmknhpfolkkaaProg.lean LOADS. Nothing in Lean hashes anything: it is a label: what it is worth is what the hold of that sum in a sandbox is worth. -/
noncomputable def Try.pinned : Pinned := { name := "ytmbmknhpfolkkaa", sum := "085f9b92c1d1f065a4348423a12cbd2e2ad83eba9a530b7f7d1033e9fbcfc009", checked := Try.checked }
namespace Rows
def none {H : Type} : Left H := { results := [], args := [] }

/-- 'conclavelaw10.DedupOnce': WHATEVER THE INPUT: true; the input reads as it did. -/
def dedupOnceSpec : ChangeSpec := { name := "dedupOnce", fn := fun _ => fun
  | [d] => { results := [.lit (.bool true)], args := [d] }
  | _ => none }
def dedupOnceRow : OpenClaim := { program := "ytmbmknhpfolkkaa", sum := "085f9b92c1d1f065a4348423a12cbd2e2ad83eba9a530b7f7d1033e9fbcfc009", func := "conclave/conclavelaw10.DedupOnce", spec := "dedupOnce", unfollowed := true, recurses := true, apart := false }
def DedupOnceSaid : Prop := dedupOnceRow.holds Try.pinned (OpenSpec.ofChange dedupOnceSpec)

/-- ITS FALSE NEIGHBOUR: 'it returns false'. Refute it at one input. -/
def dedupOnceWrong : ChangeSpec := { name := "dedupOnce", fn := fun _ => fun
  | [d] => { results := [.lit (.bool false)], args := [d] }
  | _ => none }
def DedupOnceWrongFalsely : Prop := dedupOnceRow.holds Try.pinned (OpenSpec.ofChange dedupOnceWrong)

/-- 'conclavelaw10.DedupMost': WHATEVER THE INPUT: true; the input reads as it did. -/
def dedupMostSpec : ChangeSpec := { name := "dedupMost", fn := fun _ => fun
  | [d1, d2] => { results := [.lit (.bool true)], args := [d1, d2] }
  | _ => none }
def dedupMostRow : OpenClaim := { program := "ytmbmknhpfolkkaa", sum := "085f9b92c1d1f065a4348423a12cbd2e2ad83eba9a530b7f7d1033e9fbcfc009", func := "conclave/conclavelaw10.DedupMost", spec := "dedupMost", unfollowed := true, recurses := true, apart := false }
def DedupMostSaid : Prop := dedupMostRow.holds Try.pinned (OpenSpec.ofChange dedupMostSpec)

/-- ITS FALSE NEIGHBOUR: 'it returns false'. Refute it at one input. -/
def dedupMostWrong : ChangeSpec := { name := "dedupMost", fn := fun _ => fun
  | [d1, d2] => { results := [.lit (.bool false)], args := [d1, d2] }
  | _ => none }
def DedupMostWrongFalsely : Prop := dedupMostRow.holds Try.pinned (OpenSpec.ofChange dedupMostWrong)

/-- 'conclavelaw10.DedupNumbers': WHATEVER THE INPUT: true; the input reads as it did. -/
def dedupNumbersSpec : ChangeSpec := { name := "dedupNumbers", fn := fun _ => fun
  | [] => { results := [.lit (.bool true)], args := [] }
  | _ => none }
def dedupNumbersRow : OpenClaim := { program := "ytmbmknhpfolkkaa", sum := "085f9b92c1d1f065a4348423a12cbd2e2ad83eba9a530b7f7d1033e9fbcfc009", func := "conclave/conclavelaw10.DedupNumbers", spec := "dedupNumbers", unfollowed := true, recurses := true, apart := false }
def DedupNumbersSaid : Prop := dedupNumbersRow.holds Try.pinned (OpenSpec.ofChange dedupNumbersSpec)

/-- ITS FALSE NEIGHBOUR: 'it returns false'. Refute it at one input. -/
def dedupNumbersWrong : ChangeSpec := { name := "dedupNumbers", fn := fun _ => fun
  | [] => { results := [.lit (.bool false)], args := [] }
  | _ => none }
def DedupNumbersWrongFalsely : Prop := dedupNumbersRow.holds Try.pinned (OpenSpec.ofChange dedupNumbersWrong)

/-- 'conclavelaw10.DedupPlays': WHATEVER THE INPUT: true; the input reads as it did. -/
def dedupPlaysSpec : ChangeSpec := { name := "dedupPlays", fn := fun _ => fun
  | [d1, d2] => { results := [.lit (.bool true)], args := [d1, d2] }
  | _ => none }
def dedupPlaysRow : OpenClaim := { program := "ytmbmknhpfolkkaa", sum := "085f9b92c1d1f065a4348423a12cbd2e2ad83eba9a530b7f7d1033e9fbcfc009", func := "conclave/conclavelaw10.DedupPlays", spec := "dedupPlays", unfollowed := true, recurses := true, apart := false }
def DedupPlaysSaid : Prop := dedupPlaysRow.holds Try.pinned (OpenSpec.ofChange dedupPlaysSpec)

/-- ITS FALSE NEIGHBOUR: 'it returns false'. Refute it at one input. -/
def dedupPlaysWrong : ChangeSpec := { name := "dedupPlays", fn := fun _ => fun
  | [d1, d2] => { results := [.lit (.bool false)], args := [d1, d2] }
  | _ => none }
def DedupPlaysWrongFalsely : Prop := dedupPlaysRow.holds Try.pinned (OpenSpec.ofChange dedupPlaysWrong)

/-- 'conclavelaw10.DedupLoads': WHATEVER THE INPUT: true; the input reads as it did. -/
def dedupLoadsSpec : ChangeSpec := { name := "dedupLoads", fn := fun _ => fun
  | [d1, d2, d3, d4] => { results := [.lit (.bool true)], args := [d1, d2, d3, d4] }
  | _ => none }
def dedupLoadsRow : OpenClaim := { program := "ytmbmknhpfolkkaa", sum := "085f9b92c1d1f065a4348423a12cbd2e2ad83eba9a530b7f7d1033e9fbcfc009", func := "conclave/conclavelaw10.DedupLoads", spec := "dedupLoads", unfollowed := true, recurses := true, apart := false }
def DedupLoadsSaid : Prop := dedupLoadsRow.holds Try.pinned (OpenSpec.ofChange dedupLoadsSpec)

/-- ITS FALSE NEIGHBOUR: 'it returns false'. Refute it at one input. -/
def dedupLoadsWrong : ChangeSpec := { name := "dedupLoads", fn := fun _ => fun
  | [d1, d2, d3, d4] => { results := [.lit (.bool false)], args := [d1, d2, d3, d4] }
  | _ => none }
def DedupLoadsWrongFalsely : Prop := dedupLoadsRow.holds Try.pinned (OpenSpec.ofChange dedupLoadsWrong)

/- THE SECOND FORM. 'bulk': how many values and letters a reading holds, each counted each time it is reached (what is shared counts as often as it is met; a slice's spare places count too). A statement '..UptoSaid' is the law's where the arguments, and the package variables that the reading takes, are together of bulk at most 1048576: NARROWER than '..Said'. Prove '..Said' where nothing that the law and all that it calls make is longer than what came in: it says more and counts as full. Else prove '..UptoSaid'. A law counts once. -/
mutual
def uptoBulk {H : Type} : DataW H → Nat
  | .lit (.string bytes) => bytes.length + 1
  | .lit _ => 1
  | .nil => 1
  | .ptr d => uptoBulk d + 1
  | .slice elems spare => uptoBulkAll elems + uptoBulkAll spare + 1
  | .agg parts => uptoBulkAll parts + 1
  | .iface _ d => uptoBulk d + 1
  | .map entries => uptoBulkEntries entries + 1
  | .held _ => 1
def uptoBulkAll {H : Type} : List (DataW H) → Nat
  | [] => 0
  | d :: r => uptoBulk d + uptoBulkAll r
def uptoBulkEntries {H : Type} : List (Lit × DataW H) → Nat
  | [] => 0
  | x :: r => uptoBulkEntry x + uptoBulkEntries r
def uptoBulkEntry {H : Type} : Lit × DataW H → Nat
  | (.string bytes, d) => bytes.length + uptoBulk d + 1
  | (_, d) => uptoBulk d + 1
 end
def uptoSmall : (H : Type) → List (DataW H) → Bool := fun _ ds => decide (uptoBulkAll ds ≤ 1048576)
def OpenSpec.upto (s : _root_.Go.ChangeSpec) : _root_.Go.OpenSpec := { _root_.Go.OpenSpec.ofChange s with cond := some uptoSmall }

/-- 'conclavelaw10.DedupOnce', WHERE WHAT IT READS IS OF BULK AT MOST 1048576: true; the input reads as it did. -/
def dedupOnceUptoRow : OpenClaim := { program := "ytmbmknhpfolkkaa", sum := "085f9b92c1d1f065a4348423a12cbd2e2ad83eba9a530b7f7d1033e9fbcfc009", func := "conclave/conclavelaw10.DedupOnce", spec := "dedupOnce", unfollowed := true, recurses := true, apart := false, narrowed := true }
def DedupOnceUptoSaid : Prop := dedupOnceUptoRow.holds Try.pinned (OpenSpec.upto dedupOnceSpec)

/-- 'conclavelaw10.DedupMost', WHERE WHAT IT READS IS OF BULK AT MOST 1048576: true; the input reads as it did. -/
def dedupMostUptoRow : OpenClaim := { program := "ytmbmknhpfolkkaa", sum := "085f9b92c1d1f065a4348423a12cbd2e2ad83eba9a530b7f7d1033e9fbcfc009", func := "conclave/conclavelaw10.DedupMost", spec := "dedupMost", unfollowed := true, recurses := true, apart := false, narrowed := true }
def DedupMostUptoSaid : Prop := dedupMostUptoRow.holds Try.pinned (OpenSpec.upto dedupMostSpec)

/-- 'conclavelaw10.DedupNumbers', WHERE WHAT IT READS IS OF BULK AT MOST 1048576: true; the input reads as it did. -/
def dedupNumbersUptoRow : OpenClaim := { program := "ytmbmknhpfolkkaa", sum := "085f9b92c1d1f065a4348423a12cbd2e2ad83eba9a530b7f7d1033e9fbcfc009", func := "conclave/conclavelaw10.DedupNumbers", spec := "dedupNumbers", unfollowed := true, recurses := true, apart := false, narrowed := true }
def DedupNumbersUptoSaid : Prop := dedupNumbersUptoRow.holds Try.pinned (OpenSpec.upto dedupNumbersSpec)

/-- 'conclavelaw10.DedupPlays', WHERE WHAT IT READS IS OF BULK AT MOST 1048576: true; the input reads as it did. -/
def dedupPlaysUptoRow : OpenClaim := { program := "ytmbmknhpfolkkaa", sum := "085f9b92c1d1f065a4348423a12cbd2e2ad83eba9a530b7f7d1033e9fbcfc009", func := "conclave/conclavelaw10.DedupPlays", spec := "dedupPlays", unfollowed := true, recurses := true, apart := false, narrowed := true }
def DedupPlaysUptoSaid : Prop := dedupPlaysUptoRow.holds Try.pinned (OpenSpec.upto dedupPlaysSpec)

/-- 'conclavelaw10.DedupLoads', WHERE WHAT IT READS IS OF BULK AT MOST 1048576: true; the input reads as it did. -/
def dedupLoadsUptoRow : OpenClaim := { program := "ytmbmknhpfolkkaa", sum := "085f9b92c1d1f065a4348423a12cbd2e2ad83eba9a530b7f7d1033e9fbcfc009", func := "conclave/conclavelaw10.DedupLoads", spec := "dedupLoads", unfollowed := true, recurses := true, apart := false, narrowed := true }
def DedupLoadsUptoSaid : Prop := dedupLoadsUptoRow.holds Try.pinned (OpenSpec.upto dedupLoadsSpec)

end Rows
end Go.Proofs.Ytmbmknhpfolkkaa
