/-
  No cell of these rows narrows 'for every input' (looked for: loops, veiled, ifaces, maps, wideKeys, modest, calm, conditions, laid).
  DERIVED. THE GIVEN ROWS OF THIS SEAT. 5 by the template 'for every input the law returns true; each argument reads behind the call as it read before'; 0 by the template 'total and deterministic' (their statements: YtkefffcfiedkeaaTotals.lean).
  GIVEN WITH THE SEED: the statements are not yours to turn. If you find one false, say at which input.
  Laid BY PROGRAM, IN A SANDBOX (cutbox-rows.mjs): the forced cells as the released guide's own fill.sh prints them over the translation 30f3e6796a33d5ee… (all of the seat's roots in one cut). By AI agents, Wed Nov 11 2026. No macro, syntax, notation, axiom, sorry.
-/
import Derived.Test.YtkefffcfiedkeaaChecked
import GoSem.Claim
import GoSem.ClaimJoined
import GoSem.ClaimMapViews
import Derived.JoinedTies
import Derived.KernelRfl
namespace Go.Proofs.Ytkefffcfiedkeaa
/- THE CELL 'sum', in the pinned program and in every row, IS THE sha256 OF THE DUMP (.gsa) THAT YtkefffcfiedkeaaProg.lean LOADS. Nothing in Lean hashes anything: it is a label: what it is worth is what the hold of that sum in a sandbox is worth. -/
noncomputable def Try.pinned : Pinned := { name := "ytkefffcfiedkeaa", sum := "30f3e6796a33d5ee8c4cd6142a473fcf6e215436606dc40464bc24ef17ff61e1", checked := Try.checked }
namespace Rows
def none {H : Type} : Left H := { results := [], args := [] }

/-- 'conclavelaw8.PaxosRounds': WHATEVER THE INPUT: true; the input reads as it did. -/
def paxosRoundsSpec : ChangeSpec := { name := "paxosRounds", fn := fun _ => fun
  | [d1, d2, d3] => { results := [.lit (.bool true)], args := [d1, d2, d3] }
  | _ => none }
def paxosRoundsRow : OpenClaim := { program := "ytkefffcfiedkeaa", sum := "30f3e6796a33d5ee8c4cd6142a473fcf6e215436606dc40464bc24ef17ff61e1", func := "conclave/conclavelaw8.PaxosRounds", spec := "paxosRounds", apart := false }
def PaxosRoundsSaid : Prop := paxosRoundsRow.holds Try.pinned (OpenSpec.ofChange paxosRoundsSpec)

/-- ITS FALSE NEIGHBOUR: 'it returns false'. Refute it at one input. -/
def paxosRoundsWrong : ChangeSpec := { name := "paxosRounds", fn := fun _ => fun
  | [d1, d2, d3] => { results := [.lit (.bool false)], args := [d1, d2, d3] }
  | _ => none }
def PaxosRoundsWrongFalsely : Prop := paxosRoundsRow.holds Try.pinned (OpenSpec.ofChange paxosRoundsWrong)

/-- 'conclavelaw8.PaxosAdopts': WHATEVER THE INPUT: true; the input reads as it did. -/
def paxosAdoptsSpec : ChangeSpec := { name := "paxosAdopts", fn := fun _ => fun
  | [d1, d2, d3, d4, d5] => { results := [.lit (.bool true)], args := [d1, d2, d3, d4, d5] }
  | _ => none }
def paxosAdoptsRow : OpenClaim := { program := "ytkefffcfiedkeaa", sum := "30f3e6796a33d5ee8c4cd6142a473fcf6e215436606dc40464bc24ef17ff61e1", func := "conclave/conclavelaw8.PaxosAdopts", spec := "paxosAdopts", unfollowed := true, recurses := true, apart := false }
def PaxosAdoptsSaid : Prop := paxosAdoptsRow.holds Try.pinned (OpenSpec.ofChange paxosAdoptsSpec)

/-- ITS FALSE NEIGHBOUR: 'it returns false'. Refute it at one input. -/
def paxosAdoptsWrong : ChangeSpec := { name := "paxosAdopts", fn := fun _ => fun
  | [d1, d2, d3, d4, d5] => { results := [.lit (.bool false)], args := [d1, d2, d3, d4, d5] }
  | _ => none }
def PaxosAdoptsWrongFalsely : Prop := paxosAdoptsRow.holds Try.pinned (OpenSpec.ofChange paxosAdoptsWrong)

/-- 'conclavelaw8.PaxosAgrees': WHATEVER THE INPUT: true; the input reads as it did. -/
def paxosAgreesSpec : ChangeSpec := { name := "paxosAgrees", fn := fun _ => fun
  | [d1, d2] => { results := [.lit (.bool true)], args := [d1, d2] }
  | _ => none }
def paxosAgreesRow : OpenClaim := { program := "ytkefffcfiedkeaa", sum := "30f3e6796a33d5ee8c4cd6142a473fcf6e215436606dc40464bc24ef17ff61e1", func := "conclave/conclavelaw8.PaxosAgrees", spec := "paxosAgrees", unfollowed := true, recurses := true, apart := false }
def PaxosAgreesSaid : Prop := paxosAgreesRow.holds Try.pinned (OpenSpec.ofChange paxosAgreesSpec)

/-- ITS FALSE NEIGHBOUR: 'it returns false'. Refute it at one input. -/
def paxosAgreesWrong : ChangeSpec := { name := "paxosAgrees", fn := fun _ => fun
  | [d1, d2] => { results := [.lit (.bool false)], args := [d1, d2] }
  | _ => none }
def PaxosAgreesWrongFalsely : Prop := paxosAgreesRow.holds Try.pinned (OpenSpec.ofChange paxosAgreesWrong)

/-- 'conclavelaw8.PaxosMajority': WHATEVER THE INPUT: true; the input reads as it did. -/
def paxosMajoritySpec : ChangeSpec := { name := "paxosMajority", fn := fun _ => fun
  | [d1, d2, d3] => { results := [.lit (.bool true)], args := [d1, d2, d3] }
  | _ => none }
def paxosMajorityRow : OpenClaim := { program := "ytkefffcfiedkeaa", sum := "30f3e6796a33d5ee8c4cd6142a473fcf6e215436606dc40464bc24ef17ff61e1", func := "conclave/conclavelaw8.PaxosMajority", spec := "paxosMajority", unfollowed := true, recurses := true, apart := false }
def PaxosMajoritySaid : Prop := paxosMajorityRow.holds Try.pinned (OpenSpec.ofChange paxosMajoritySpec)

/-- ITS FALSE NEIGHBOUR: 'it returns false'. Refute it at one input. -/
def paxosMajorityWrong : ChangeSpec := { name := "paxosMajority", fn := fun _ => fun
  | [d1, d2, d3] => { results := [.lit (.bool false)], args := [d1, d2, d3] }
  | _ => none }
def PaxosMajorityWrongFalsely : Prop := paxosMajorityRow.holds Try.pinned (OpenSpec.ofChange paxosMajorityWrong)

/-- 'conclavelaw8.PaxosNumbers': WHATEVER THE INPUT: true; the input reads as it did. -/
def paxosNumbersSpec : ChangeSpec := { name := "paxosNumbers", fn := fun _ => fun
  | [] => { results := [.lit (.bool true)], args := [] }
  | _ => none }
def paxosNumbersRow : OpenClaim := { program := "ytkefffcfiedkeaa", sum := "30f3e6796a33d5ee8c4cd6142a473fcf6e215436606dc40464bc24ef17ff61e1", func := "conclave/conclavelaw8.PaxosNumbers", spec := "paxosNumbers", unfollowed := true, recurses := true, apart := false }
def PaxosNumbersSaid : Prop := paxosNumbersRow.holds Try.pinned (OpenSpec.ofChange paxosNumbersSpec)

/-- ITS FALSE NEIGHBOUR: 'it returns false'. Refute it at one input. -/
def paxosNumbersWrong : ChangeSpec := { name := "paxosNumbers", fn := fun _ => fun
  | [] => { results := [.lit (.bool false)], args := [] }
  | _ => none }
def PaxosNumbersWrongFalsely : Prop := paxosNumbersRow.holds Try.pinned (OpenSpec.ofChange paxosNumbersWrong)

/- THE SECOND FORM. 'bulk': how many values and letters a reading holds, each counted each time it is reached (what is shared counts as often as it is met; a slice's spare places count too). A statement '..UptoSaid' is the law's where the arguments, and the package variables that the reading takes, are together of bulk at most 1048576: NARROWER than '..Said'. Prove '..Said' where nothing that the law and all that it calls make is longer than what came in: it says more and counts as full. Else prove '..UptoSaid'. A law counts once. -/
mutual
def uptoBulk {H : Type} : DataW H → Nat
  | .lit (.string bytes) => bytes.length + 1
  | .lit _ => 1
  | .nil => 1
  | .ptr d => uptoBulk d + 1
  | .slice elems spare => uptoBulkAll elems + uptoBulkAll spare + 1
  | .agg parts => uptoBulkAll parts + 1
  | .iface _ d => uptoBulk d + 1
  | .map entries => uptoBulkEntries entries + 1
  | .held _ => 1
def uptoBulkAll {H : Type} : List (DataW H) → Nat
  | [] => 0
  | d :: r => uptoBulk d + uptoBulkAll r
def uptoBulkEntries {H : Type} : List (Lit × DataW H) → Nat
  | [] => 0
  | x :: r => uptoBulkEntry x + uptoBulkEntries r
def uptoBulkEntry {H : Type} : Lit × DataW H → Nat
  | (.string bytes, d) => bytes.length + uptoBulk d + 1
  | (_, d) => uptoBulk d + 1
 end
def uptoSmall : (H : Type) → List (DataW H) → Bool := fun _ ds => decide (uptoBulkAll ds ≤ 1048576)
def OpenSpec.upto (s : _root_.Go.ChangeSpec) : _root_.Go.OpenSpec := { _root_.Go.OpenSpec.ofChange s with cond := some uptoSmall }

/-- 'conclavelaw8.PaxosRounds', WHERE WHAT IT READS IS OF BULK AT MOST 1048576: true; the input reads as it did. -/
def paxosRoundsUptoRow : OpenClaim := { program := "ytkefffcfiedkeaa", sum := "30f3e6796a33d5ee8c4cd6142a473fcf6e215436606dc40464bc24ef17ff61e1", func := "conclave/conclavelaw8.PaxosRounds", spec := "paxosRounds", apart := false, narrowed := true }
def PaxosRoundsUptoSaid : Prop := paxosRoundsUptoRow.holds Try.pinned (OpenSpec.upto paxosRoundsSpec)

/-- 'conclavelaw8.PaxosAdopts', WHERE WHAT IT READS IS OF BULK AT MOST 1048576: true; the input reads as it did. -/
def paxosAdoptsUptoRow : OpenClaim := { program := "ytkefffcfiedkeaa", sum := "30f3e6796a33d5ee8c4cd6142a473fcf6e215436606dc40464bc24ef17ff61e1", func := "conclave/conclavelaw8.PaxosAdopts", spec := "paxosAdopts", unfollowed := true, recurses := true, apart := false, narrowed := true }
def PaxosAdoptsUptoSaid : Prop := paxosAdoptsUptoRow.holds Try.pinned (OpenSpec.upto paxosAdoptsSpec)

/-- 'conclavelaw8.PaxosAgrees', WHERE WHAT IT READS IS OF BULK AT MOST 1048576: true; the input reads as it did. -/
def paxosAgreesUptoRow : OpenClaim := { program := "ytkefffcfiedkeaa", sum := "30f3e6796a33d5ee8c4cd6142a473fcf6e215436606dc40464bc24ef17ff61e1", func := "conclave/conclavelaw8.PaxosAgrees", spec := "paxosAgrees", unfollowed := true, recurses := true, apart := false, narrowed := true }
def PaxosAgreesUptoSaid : Prop := paxosAgreesUptoRow.holds Try.pinned (OpenSpec.upto paxosAgreesSpec)

/-- 'conclavelaw8.PaxosMajority', WHERE WHAT IT READS IS OF BULK AT MOST 1048576: true; the input reads as it did. -/
def paxosMajorityUptoRow : OpenClaim := { program := "ytkefffcfiedkeaa", sum := "30f3e6796a33d5ee8c4cd6142a473fcf6e215436606dc40464bc24ef17ff61e1", func := "conclave/conclavelaw8.PaxosMajority", spec := "paxosMajority", unfollowed := true, recurses := true, apart := false, narrowed := true }
def PaxosMajorityUptoSaid : Prop := paxosMajorityUptoRow.holds Try.pinned (OpenSpec.upto paxosMajoritySpec)

/-- 'conclavelaw8.PaxosNumbers', WHERE WHAT IT READS IS OF BULK AT MOST 1048576: true; the input reads as it did. -/
def paxosNumbersUptoRow : OpenClaim := { program := "ytkefffcfiedkeaa", sum := "30f3e6796a33d5ee8c4cd6142a473fcf6e215436606dc40464bc24ef17ff61e1", func := "conclave/conclavelaw8.PaxosNumbers", spec := "paxosNumbers", unfollowed := true, recurses := true, apart := false, narrowed := true }
def PaxosNumbersUptoSaid : Prop := paxosNumbersUptoRow.holds Try.pinned (OpenSpec.upto paxosNumbersSpec)

end Rows
end Go.Proofs.Ytkefffcfiedkeaa
