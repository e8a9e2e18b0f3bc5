/-
  No cell of these rows narrows 'for every input' (looked for: loops, veiled, ifaces, maps, wideKeys, modest, calm, conditions, laid).
  DERIVED. THE GIVEN ROWS OF THIS SEAT. 6 by the template 'for every input the law returns true; each argument reads behind the call as it read before'; 0 by the template 'total and deterministic' (their statements: YthekgecaeblbbaaTotals.lean).
  GIVEN WITH THE SEED: the statements are not yours to turn. If you find one false, say at which input.
  Laid BY PROGRAM, IN A SANDBOX (cutbox-rows.mjs): the forced cells as the released guide's own fill.sh prints them over the translation 2c1b482d68218ccc… (all of the seat's roots in one cut). By AI agents, Wed Nov 11 2026. No macro, syntax, notation, axiom, sorry.
-/
import Derived.Test.YthekgecaeblbbaaChecked
import GoSem.Claim
import GoSem.ClaimJoined
import GoSem.ClaimMapViews
import Derived.JoinedTies
import Derived.KernelRfl
namespace Go.Proofs.Ythekgecaeblbbaa
/- THE CELL 'sum', in the pinned program and in every row, IS THE sha256 OF THE DUMP (.gsa) THAT YthekgecaeblbbaaProg.lean LOADS. Nothing in Lean hashes anything: it is a label: what it is worth is what the hold of that sum in a sandbox is worth. -/
noncomputable def Try.pinned : Pinned := { name := "ythekgecaeblbbaa", sum := "2c1b482d68218ccc99b6c535bcbf6a826f2e1675d9a2401e8b230d90fe90964e", checked := Try.checked }
namespace Rows
def none {H : Type} : Left H := { results := [], args := [] }

/-- 'conclavelaw7.BallotOrder': WHATEVER THE INPUT: true; the input reads as it did. -/
def ballotOrderSpec : ChangeSpec := { name := "ballotOrder", fn := fun _ => fun
  | [d1, d2, d3] => { results := [.lit (.bool true)], args := [d1, d2, d3] }
  | _ => none }
def ballotOrderRow : OpenClaim := { program := "ythekgecaeblbbaa", sum := "2c1b482d68218ccc99b6c535bcbf6a826f2e1675d9a2401e8b230d90fe90964e", func := "conclave/conclavelaw7.BallotOrder", spec := "ballotOrder", unfollowed := true, recurses := true, apart := false }
def BallotOrderSaid : Prop := ballotOrderRow.holds Try.pinned (OpenSpec.ofChange ballotOrderSpec)

/-- ITS FALSE NEIGHBOUR: 'it returns false'. Refute it at one input. -/
def ballotOrderWrong : ChangeSpec := { name := "ballotOrder", fn := fun _ => fun
  | [d1, d2, d3] => { results := [.lit (.bool false)], args := [d1, d2, d3] }
  | _ => none }
def BallotOrderWrongFalsely : Prop := ballotOrderRow.holds Try.pinned (OpenSpec.ofChange ballotOrderWrong)

/-- 'conclavelaw7.BallotRises': WHATEVER THE INPUT: true; the input reads as it did. -/
def ballotRisesSpec : ChangeSpec := { name := "ballotRises", fn := fun _ => fun
  | [d] => { results := [.lit (.bool true)], args := [d] }
  | _ => none }
def ballotRisesRow : OpenClaim := { program := "ythekgecaeblbbaa", sum := "2c1b482d68218ccc99b6c535bcbf6a826f2e1675d9a2401e8b230d90fe90964e", func := "conclave/conclavelaw7.BallotRises", spec := "ballotRises", unfollowed := true, recurses := true, apart := false }
def BallotRisesSaid : Prop := ballotRisesRow.holds Try.pinned (OpenSpec.ofChange ballotRisesSpec)

/-- ITS FALSE NEIGHBOUR: 'it returns false'. Refute it at one input. -/
def ballotRisesWrong : ChangeSpec := { name := "ballotRises", fn := fun _ => fun
  | [d] => { results := [.lit (.bool false)], args := [d] }
  | _ => none }
def BallotRisesWrongFalsely : Prop := ballotRisesRow.holds Try.pinned (OpenSpec.ofChange ballotRisesWrong)

/-- 'conclavelaw7.BallotForgets': WHATEVER THE INPUT: true; the input reads as it did. -/
def ballotForgetsSpec : ChangeSpec := { name := "ballotForgets", fn := fun _ => fun
  | [d1, d2] => { results := [.lit (.bool true)], args := [d1, d2] }
  | _ => none }
def ballotForgetsRow : OpenClaim := { program := "ythekgecaeblbbaa", sum := "2c1b482d68218ccc99b6c535bcbf6a826f2e1675d9a2401e8b230d90fe90964e", func := "conclave/conclavelaw7.BallotForgets", spec := "ballotForgets", unfollowed := true, recurses := true, apart := false }
def BallotForgetsSaid : Prop := ballotForgetsRow.holds Try.pinned (OpenSpec.ofChange ballotForgetsSpec)

/-- ITS FALSE NEIGHBOUR: 'it returns false'. Refute it at one input. -/
def ballotForgetsWrong : ChangeSpec := { name := "ballotForgets", fn := fun _ => fun
  | [d1, d2] => { results := [.lit (.bool false)], args := [d1, d2] }
  | _ => none }
def BallotForgetsWrongFalsely : Prop := ballotForgetsRow.holds Try.pinned (OpenSpec.ofChange ballotForgetsWrong)

/-- 'conclavelaw7.BallotLoads': WHATEVER THE INPUT: true; the input reads as it did. -/
def ballotLoadsSpec : ChangeSpec := { name := "ballotLoads", fn := fun _ => fun
  | [d1, d2, d3, d4] => { results := [.lit (.bool true)], args := [d1, d2, d3, d4] }
  | _ => none }
def ballotLoadsRow : OpenClaim := { program := "ythekgecaeblbbaa", sum := "2c1b482d68218ccc99b6c535bcbf6a826f2e1675d9a2401e8b230d90fe90964e", func := "conclave/conclavelaw7.BallotLoads", spec := "ballotLoads", unfollowed := true, recurses := true, apart := false }
def BallotLoadsSaid : Prop := ballotLoadsRow.holds Try.pinned (OpenSpec.ofChange ballotLoadsSpec)

/-- ITS FALSE NEIGHBOUR: 'it returns false'. Refute it at one input. -/
def ballotLoadsWrong : ChangeSpec := { name := "ballotLoads", fn := fun _ => fun
  | [d1, d2, d3, d4] => { results := [.lit (.bool false)], args := [d1, d2, d3, d4] }
  | _ => none }
def BallotLoadsWrongFalsely : Prop := ballotLoadsRow.holds Try.pinned (OpenSpec.ofChange ballotLoadsWrong)

/-- 'conclavelaw7.BallotNumbers': WHATEVER THE INPUT: true; the input reads as it did. -/
def ballotNumbersSpec : ChangeSpec := { name := "ballotNumbers", fn := fun _ => fun
  | [] => { results := [.lit (.bool true)], args := [] }
  | _ => none }
def ballotNumbersRow : OpenClaim := { program := "ythekgecaeblbbaa", sum := "2c1b482d68218ccc99b6c535bcbf6a826f2e1675d9a2401e8b230d90fe90964e", func := "conclave/conclavelaw7.BallotNumbers", spec := "ballotNumbers", unfollowed := true, recurses := true, apart := false }
def BallotNumbersSaid : Prop := ballotNumbersRow.holds Try.pinned (OpenSpec.ofChange ballotNumbersSpec)

/-- ITS FALSE NEIGHBOUR: 'it returns false'. Refute it at one input. -/
def ballotNumbersWrong : ChangeSpec := { name := "ballotNumbers", fn := fun _ => fun
  | [] => { results := [.lit (.bool false)], args := [] }
  | _ => none }
def BallotNumbersWrongFalsely : Prop := ballotNumbersRow.holds Try.pinned (OpenSpec.ofChange ballotNumbersWrong)

/-- 'conclavelaw7.BallotPlays': WHATEVER THE INPUT: true; the input reads as it did. -/
def ballotPlaysSpec : ChangeSpec := { name := "ballotPlays", fn := fun _ => fun
  | [d1, d2, d3] => { results := [.lit (.bool true)], args := [d1, d2, d3] }
  | _ => none }
def ballotPlaysRow : OpenClaim := { program := "ythekgecaeblbbaa", sum := "2c1b482d68218ccc99b6c535bcbf6a826f2e1675d9a2401e8b230d90fe90964e", func := "conclave/conclavelaw7.BallotPlays", spec := "ballotPlays", unfollowed := true, recurses := true, apart := false }
def BallotPlaysSaid : Prop := ballotPlaysRow.holds Try.pinned (OpenSpec.ofChange ballotPlaysSpec)

/-- ITS FALSE NEIGHBOUR: 'it returns false'. Refute it at one input. -/
def ballotPlaysWrong : ChangeSpec := { name := "ballotPlays", fn := fun _ => fun
  | [d1, d2, d3] => { results := [.lit (.bool false)], args := [d1, d2, d3] }
  | _ => none }
def BallotPlaysWrongFalsely : Prop := ballotPlaysRow.holds Try.pinned (OpenSpec.ofChange ballotPlaysWrong)

/- THE SECOND FORM. 'bulk': how many values and letters a reading holds, each counted each time it is reached (what is shared counts as often as it is met; a slice's spare places count too). A statement '..UptoSaid' is the law's where the arguments, and the package variables that the reading takes, are together of bulk at most 1048576: NARROWER than '..Said'. Prove '..Said' where nothing that the law and all that it calls make is longer than what came in: it says more and counts as full. Else prove '..UptoSaid'. A law counts once. -/
mutual
def uptoBulk {H : Type} : DataW H → Nat
  | .lit (.string bytes) => bytes.length + 1
  | .lit _ => 1
  | .nil => 1
  | .ptr d => uptoBulk d + 1
  | .slice elems spare => uptoBulkAll elems + uptoBulkAll spare + 1
  | .agg parts => uptoBulkAll parts + 1
  | .iface _ d => uptoBulk d + 1
  | .map entries => uptoBulkEntries entries + 1
  | .held _ => 1
def uptoBulkAll {H : Type} : List (DataW H) → Nat
  | [] => 0
  | d :: r => uptoBulk d + uptoBulkAll r
def uptoBulkEntries {H : Type} : List (Lit × DataW H) → Nat
  | [] => 0
  | x :: r => uptoBulkEntry x + uptoBulkEntries r
def uptoBulkEntry {H : Type} : Lit × DataW H → Nat
  | (.string bytes, d) => bytes.length + uptoBulk d + 1
  | (_, d) => uptoBulk d + 1
 end
def uptoSmall : (H : Type) → List (DataW H) → Bool := fun _ ds => decide (uptoBulkAll ds ≤ 1048576)
def OpenSpec.upto (s : _root_.Go.ChangeSpec) : _root_.Go.OpenSpec := { _root_.Go.OpenSpec.ofChange s with cond := some uptoSmall }

/-- 'conclavelaw7.BallotOrder', WHERE WHAT IT READS IS OF BULK AT MOST 1048576: true; the input reads as it did. -/
def ballotOrderUptoRow : OpenClaim := { program := "ythekgecaeblbbaa", sum := "2c1b482d68218ccc99b6c535bcbf6a826f2e1675d9a2401e8b230d90fe90964e", func := "conclave/conclavelaw7.BallotOrder", spec := "ballotOrder", unfollowed := true, recurses := true, apart := false, narrowed := true }
def BallotOrderUptoSaid : Prop := ballotOrderUptoRow.holds Try.pinned (OpenSpec.upto ballotOrderSpec)

/-- 'conclavelaw7.BallotRises', WHERE WHAT IT READS IS OF BULK AT MOST 1048576: true; the input reads as it did. -/
def ballotRisesUptoRow : OpenClaim := { program := "ythekgecaeblbbaa", sum := "2c1b482d68218ccc99b6c535bcbf6a826f2e1675d9a2401e8b230d90fe90964e", func := "conclave/conclavelaw7.BallotRises", spec := "ballotRises", unfollowed := true, recurses := true, apart := false, narrowed := true }
def BallotRisesUptoSaid : Prop := ballotRisesUptoRow.holds Try.pinned (OpenSpec.upto ballotRisesSpec)

/-- 'conclavelaw7.BallotForgets', WHERE WHAT IT READS IS OF BULK AT MOST 1048576: true; the input reads as it did. -/
def ballotForgetsUptoRow : OpenClaim := { program := "ythekgecaeblbbaa", sum := "2c1b482d68218ccc99b6c535bcbf6a826f2e1675d9a2401e8b230d90fe90964e", func := "conclave/conclavelaw7.BallotForgets", spec := "ballotForgets", unfollowed := true, recurses := true, apart := false, narrowed := true }
def BallotForgetsUptoSaid : Prop := ballotForgetsUptoRow.holds Try.pinned (OpenSpec.upto ballotForgetsSpec)

/-- 'conclavelaw7.BallotLoads', WHERE WHAT IT READS IS OF BULK AT MOST 1048576: true; the input reads as it did. -/
def ballotLoadsUptoRow : OpenClaim := { program := "ythekgecaeblbbaa", sum := "2c1b482d68218ccc99b6c535bcbf6a826f2e1675d9a2401e8b230d90fe90964e", func := "conclave/conclavelaw7.BallotLoads", spec := "ballotLoads", unfollowed := true, recurses := true, apart := false, narrowed := true }
def BallotLoadsUptoSaid : Prop := ballotLoadsUptoRow.holds Try.pinned (OpenSpec.upto ballotLoadsSpec)

/-- 'conclavelaw7.BallotNumbers', WHERE WHAT IT READS IS OF BULK AT MOST 1048576: true; the input reads as it did. -/
def ballotNumbersUptoRow : OpenClaim := { program := "ythekgecaeblbbaa", sum := "2c1b482d68218ccc99b6c535bcbf6a826f2e1675d9a2401e8b230d90fe90964e", func := "conclave/conclavelaw7.BallotNumbers", spec := "ballotNumbers", unfollowed := true, recurses := true, apart := false, narrowed := true }
def BallotNumbersUptoSaid : Prop := ballotNumbersUptoRow.holds Try.pinned (OpenSpec.upto ballotNumbersSpec)

/-- 'conclavelaw7.BallotPlays', WHERE WHAT IT READS IS OF BULK AT MOST 1048576: true; the input reads as it did. -/
def ballotPlaysUptoRow : OpenClaim := { program := "ythekgecaeblbbaa", sum := "2c1b482d68218ccc99b6c535bcbf6a826f2e1675d9a2401e8b230d90fe90964e", func := "conclave/conclavelaw7.BallotPlays", spec := "ballotPlays", unfollowed := true, recurses := true, apart := false, narrowed := true }
def BallotPlaysUptoSaid : Prop := ballotPlaysUptoRow.holds Try.pinned (OpenSpec.upto ballotPlaysSpec)

end Rows
end Go.Proofs.Ythekgecaeblbbaa
