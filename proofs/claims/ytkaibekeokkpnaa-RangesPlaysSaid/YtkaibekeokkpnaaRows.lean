/-
  No cell of these rows narrows 'for every input' (looked for: loops, veiled, ifaces, maps, wideKeys, modest, calm, conditions, laid).
  DERIVED. THE GIVEN ROWS OF THIS SEAT. 5 by the template 'for every input the law returns true; each argument reads behind the call as it read before'; 0 by the template 'total and deterministic' (their statements: YtkaibekeokkpnaaTotals.lean).
  GIVEN WITH THE SEED: the statements are not yours to turn. If you find one false, say at which input.
  Laid BY PROGRAM, IN A SANDBOX (cutbox-rows.mjs): the forced cells as the released guide's own fill.sh prints them over the translation 16f27a7f79583d49… (all of the seat's roots in one cut). By AI agents, Wed Nov 11 2026. No macro, syntax, notation, axiom, sorry.
-/
import Derived.Test.YtkaibekeokkpnaaChecked
import GoSem.Claim
import GoSem.ClaimJoined
import GoSem.ClaimMapViews
import Derived.JoinedTies
import Derived.KernelRfl
namespace Go.Proofs.Ytkaibekeokkpnaa
/- THE CELL 'sum', in the pinned program and in every row, IS THE sha256 OF THE DUMP (.gsa) THAT YtkaibekeokkpnaaProg.lean LOADS. Nothing in Lean hashes anything: it is a label: what it is worth is what the hold of that sum in a sandbox is worth. -/
noncomputable def Try.pinned : Pinned := { name := "ytkaibekeokkpnaa", sum := "16f27a7f79583d49a5f60e4f07dabb454c39b07368638e1f1cd4d2609a9eb72e", checked := Try.checked }
namespace Rows
def none {H : Type} : Left H := { results := [], args := [] }

/-- 'conclavelaw17.RangesMoves': WHATEVER THE INPUT: true; the input reads as it did. -/
def rangesMovesSpec : ChangeSpec := { name := "rangesMoves", fn := fun _ => fun
  | [d1, d2, d3, d4, d5] => { results := [.lit (.bool true)], args := [d1, d2, d3, d4, d5] }
  | _ => none }
def rangesMovesRow : OpenClaim := { program := "ytkaibekeokkpnaa", sum := "16f27a7f79583d49a5f60e4f07dabb454c39b07368638e1f1cd4d2609a9eb72e", func := "conclave/conclavelaw17.RangesMoves", spec := "rangesMoves", unfollowed := true, recurses := true, apart := false }
def RangesMovesSaid : Prop := rangesMovesRow.holds Try.pinned (OpenSpec.ofChange rangesMovesSpec)

/-- ITS FALSE NEIGHBOUR: 'it returns false'. Refute it at one input. -/
def rangesMovesWrong : ChangeSpec := { name := "rangesMoves", fn := fun _ => fun
  | [d1, d2, d3, d4, d5] => { results := [.lit (.bool false)], args := [d1, d2, d3, d4, d5] }
  | _ => none }
def RangesMovesWrongFalsely : Prop := rangesMovesRow.holds Try.pinned (OpenSpec.ofChange rangesMovesWrong)

/-- 'conclavelaw17.RangesWhole': WHATEVER THE INPUT: true; the input reads as it did. -/
def rangesWholeSpec : ChangeSpec := { name := "rangesWhole", fn := fun _ => fun
  | [d1, d2, d3] => { results := [.lit (.bool true)], args := [d1, d2, d3] }
  | _ => none }
def rangesWholeRow : OpenClaim := { program := "ytkaibekeokkpnaa", sum := "16f27a7f79583d49a5f60e4f07dabb454c39b07368638e1f1cd4d2609a9eb72e", func := "conclave/conclavelaw17.RangesWhole", spec := "rangesWhole", unfollowed := true, recurses := true, apart := false }
def RangesWholeSaid : Prop := rangesWholeRow.holds Try.pinned (OpenSpec.ofChange rangesWholeSpec)

/-- ITS FALSE NEIGHBOUR: 'it returns false'. Refute it at one input. -/
def rangesWholeWrong : ChangeSpec := { name := "rangesWhole", fn := fun _ => fun
  | [d1, d2, d3] => { results := [.lit (.bool false)], args := [d1, d2, d3] }
  | _ => none }
def RangesWholeWrongFalsely : Prop := rangesWholeRow.holds Try.pinned (OpenSpec.ofChange rangesWholeWrong)

/-- 'conclavelaw17.RangesLoads': WHATEVER THE INPUT: true; the input reads as it did. -/
def rangesLoadsSpec : ChangeSpec := { name := "rangesLoads", fn := fun _ => fun
  | [d1, d2, d3, d4] => { results := [.lit (.bool true)], args := [d1, d2, d3, d4] }
  | _ => none }
def rangesLoadsRow : OpenClaim := { program := "ytkaibekeokkpnaa", sum := "16f27a7f79583d49a5f60e4f07dabb454c39b07368638e1f1cd4d2609a9eb72e", func := "conclave/conclavelaw17.RangesLoads", spec := "rangesLoads", unfollowed := true, recurses := true, apart := false }
def RangesLoadsSaid : Prop := rangesLoadsRow.holds Try.pinned (OpenSpec.ofChange rangesLoadsSpec)

/-- ITS FALSE NEIGHBOUR: 'it returns false'. Refute it at one input. -/
def rangesLoadsWrong : ChangeSpec := { name := "rangesLoads", fn := fun _ => fun
  | [d1, d2, d3, d4] => { results := [.lit (.bool false)], args := [d1, d2, d3, d4] }
  | _ => none }
def RangesLoadsWrongFalsely : Prop := rangesLoadsRow.holds Try.pinned (OpenSpec.ofChange rangesLoadsWrong)

/-- 'conclavelaw17.RangesSaves': WHATEVER THE INPUT: true; the input reads as it did. -/
def rangesSavesSpec : ChangeSpec := { name := "rangesSaves", fn := fun _ => fun
  | [d1, d2, d3] => { results := [.lit (.bool true)], args := [d1, d2, d3] }
  | _ => none }
def rangesSavesRow : OpenClaim := { program := "ytkaibekeokkpnaa", sum := "16f27a7f79583d49a5f60e4f07dabb454c39b07368638e1f1cd4d2609a9eb72e", func := "conclave/conclavelaw17.RangesSaves", spec := "rangesSaves", unfollowed := true, recurses := true, apart := false }
def RangesSavesSaid : Prop := rangesSavesRow.holds Try.pinned (OpenSpec.ofChange rangesSavesSpec)

/-- ITS FALSE NEIGHBOUR: 'it returns false'. Refute it at one input. -/
def rangesSavesWrong : ChangeSpec := { name := "rangesSaves", fn := fun _ => fun
  | [d1, d2, d3] => { results := [.lit (.bool false)], args := [d1, d2, d3] }
  | _ => none }
def RangesSavesWrongFalsely : Prop := rangesSavesRow.holds Try.pinned (OpenSpec.ofChange rangesSavesWrong)

/-- 'conclavelaw17.RangesPlays': WHATEVER THE INPUT: true; the input reads as it did. -/
def rangesPlaysSpec : ChangeSpec := { name := "rangesPlays", fn := fun _ => fun
  | [d1, d2, d3, d4] => { results := [.lit (.bool true)], args := [d1, d2, d3, d4] }
  | _ => none }
def rangesPlaysRow : OpenClaim := { program := "ytkaibekeokkpnaa", sum := "16f27a7f79583d49a5f60e4f07dabb454c39b07368638e1f1cd4d2609a9eb72e", func := "conclave/conclavelaw17.RangesPlays", spec := "rangesPlays", unfollowed := true, recurses := true, apart := false }
def RangesPlaysSaid : Prop := rangesPlaysRow.holds Try.pinned (OpenSpec.ofChange rangesPlaysSpec)

/-- ITS FALSE NEIGHBOUR: 'it returns false'. Refute it at one input. -/
def rangesPlaysWrong : ChangeSpec := { name := "rangesPlays", fn := fun _ => fun
  | [d1, d2, d3, d4] => { results := [.lit (.bool false)], args := [d1, d2, d3, d4] }
  | _ => none }
def RangesPlaysWrongFalsely : Prop := rangesPlaysRow.holds Try.pinned (OpenSpec.ofChange rangesPlaysWrong)

/- THE SECOND FORM. 'bulk': how many values and letters a reading holds, each counted each time it is reached (what is shared counts as often as it is met; a slice's spare places count too). A statement '..UptoSaid' is the law's where the arguments, and the package variables that the reading takes, are together of bulk at most 1048576: NARROWER than '..Said'. Prove '..Said' where nothing that the law and all that it calls make is longer than what came in: it says more and counts as full. Else prove '..UptoSaid'. A law counts once. -/
mutual
def uptoBulk {H : Type} : DataW H → Nat
  | .lit (.string bytes) => bytes.length + 1
  | .lit _ => 1
  | .nil => 1
  | .ptr d => uptoBulk d + 1
  | .slice elems spare => uptoBulkAll elems + uptoBulkAll spare + 1
  | .agg parts => uptoBulkAll parts + 1
  | .iface _ d => uptoBulk d + 1
  | .map entries => uptoBulkEntries entries + 1
  | .held _ => 1
def uptoBulkAll {H : Type} : List (DataW H) → Nat
  | [] => 0
  | d :: r => uptoBulk d + uptoBulkAll r
def uptoBulkEntries {H : Type} : List (Lit × DataW H) → Nat
  | [] => 0
  | x :: r => uptoBulkEntry x + uptoBulkEntries r
def uptoBulkEntry {H : Type} : Lit × DataW H → Nat
  | (.string bytes, d) => bytes.length + uptoBulk d + 1
  | (_, d) => uptoBulk d + 1
 end
def uptoSmall : (H : Type) → List (DataW H) → Bool := fun _ ds => decide (uptoBulkAll ds ≤ 1048576)
def OpenSpec.upto (s : _root_.Go.ChangeSpec) : _root_.Go.OpenSpec := { _root_.Go.OpenSpec.ofChange s with cond := some uptoSmall }

/-- 'conclavelaw17.RangesMoves', WHERE WHAT IT READS IS OF BULK AT MOST 1048576: true; the input reads as it did. -/
def rangesMovesUptoRow : OpenClaim := { program := "ytkaibekeokkpnaa", sum := "16f27a7f79583d49a5f60e4f07dabb454c39b07368638e1f1cd4d2609a9eb72e", func := "conclave/conclavelaw17.RangesMoves", spec := "rangesMoves", unfollowed := true, recurses := true, apart := false, narrowed := true }
def RangesMovesUptoSaid : Prop := rangesMovesUptoRow.holds Try.pinned (OpenSpec.upto rangesMovesSpec)

/-- 'conclavelaw17.RangesWhole', WHERE WHAT IT READS IS OF BULK AT MOST 1048576: true; the input reads as it did. -/
def rangesWholeUptoRow : OpenClaim := { program := "ytkaibekeokkpnaa", sum := "16f27a7f79583d49a5f60e4f07dabb454c39b07368638e1f1cd4d2609a9eb72e", func := "conclave/conclavelaw17.RangesWhole", spec := "rangesWhole", unfollowed := true, recurses := true, apart := false, narrowed := true }
def RangesWholeUptoSaid : Prop := rangesWholeUptoRow.holds Try.pinned (OpenSpec.upto rangesWholeSpec)

/-- 'conclavelaw17.RangesLoads', WHERE WHAT IT READS IS OF BULK AT MOST 1048576: true; the input reads as it did. -/
def rangesLoadsUptoRow : OpenClaim := { program := "ytkaibekeokkpnaa", sum := "16f27a7f79583d49a5f60e4f07dabb454c39b07368638e1f1cd4d2609a9eb72e", func := "conclave/conclavelaw17.RangesLoads", spec := "rangesLoads", unfollowed := true, recurses := true, apart := false, narrowed := true }
def RangesLoadsUptoSaid : Prop := rangesLoadsUptoRow.holds Try.pinned (OpenSpec.upto rangesLoadsSpec)

/-- 'conclavelaw17.RangesSaves', WHERE WHAT IT READS IS OF BULK AT MOST 1048576: true; the input reads as it did. -/
def rangesSavesUptoRow : OpenClaim := { program := "ytkaibekeokkpnaa", sum := "16f27a7f79583d49a5f60e4f07dabb454c39b07368638e1f1cd4d2609a9eb72e", func := "conclave/conclavelaw17.RangesSaves", spec := "rangesSaves", unfollowed := true, recurses := true, apart := false, narrowed := true }
def RangesSavesUptoSaid : Prop := rangesSavesUptoRow.holds Try.pinned (OpenSpec.upto rangesSavesSpec)

/-- 'conclavelaw17.RangesPlays', WHERE WHAT IT READS IS OF BULK AT MOST 1048576: true; the input reads as it did. -/
def rangesPlaysUptoRow : OpenClaim := { program := "ytkaibekeokkpnaa", sum := "16f27a7f79583d49a5f60e4f07dabb454c39b07368638e1f1cd4d2609a9eb72e", func := "conclave/conclavelaw17.RangesPlays", spec := "rangesPlays", unfollowed := true, recurses := true, apart := false, narrowed := true }
def RangesPlaysUptoSaid : Prop := rangesPlaysUptoRow.holds Try.pinned (OpenSpec.upto rangesPlaysSpec)

end Rows
end Go.Proofs.Ytkaibekeokkpnaa
