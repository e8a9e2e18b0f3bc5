/-
  No cell of these rows narrows 'for every input' (looked for: loops, veiled, ifaces, maps, wideKeys, modest, calm, conditions, laid).
  DERIVED. THE GIVEN ROWS OF THIS SEAT. 5 by the template 'for every input the law returns true; each argument reads behind the call as it read before'; 0 by the template 'total and deterministic' (their statements: YtehneddmamnmiaaTotals.lean).
  GIVEN WITH THE SEED: the statements are not yours to turn. If you find one false, say at which input.
  Laid BY PROGRAM, IN A SANDBOX (cutbox-rows.mjs): the forced cells as the released guide's own fill.sh prints them over the translation dbc715906f5a0075… (all of the seat's roots in one cut). By AI agents, Wed Nov 11 2026. No macro, syntax, notation, axiom, sorry.
-/
import Derived.Test.YtehneddmamnmiaaChecked
import GoSem.Claim
import GoSem.ClaimJoined
import GoSem.ClaimMapViews
import Derived.JoinedTies
import Derived.KernelRfl
namespace Go.Proofs.Ytehneddmamnmiaa
/- THE CELL 'sum', in the pinned program and in every row, IS THE sha256 OF THE DUMP (.gsa) THAT YtehneddmamnmiaaProg.lean LOADS. Nothing in Lean hashes anything: it is a label: what it is worth is what the hold of that sum in a sandbox is worth. -/
noncomputable def Try.pinned : Pinned := { name := "ytehneddmamnmiaa", sum := "dbc715906f5a00754e6437ac50acd58069421a906fa520ac7d6cd25954a1d5b2", checked := Try.checked }
namespace Rows
def none {H : Type} : Left H := { results := [], args := [] }

/-- 'conclavelaw18.TxnStays': WHATEVER THE INPUT: true; the input reads as it did. -/
def txnStaysSpec : ChangeSpec := { name := "txnStays", fn := fun _ => fun
  | [d1, d2] => { results := [.lit (.bool true)], args := [d1, d2] }
  | _ => none }
def txnStaysRow : OpenClaim := { program := "ytehneddmamnmiaa", sum := "dbc715906f5a00754e6437ac50acd58069421a906fa520ac7d6cd25954a1d5b2", func := "conclave/conclavelaw18.TxnStays", spec := "txnStays", unfollowed := true, recurses := true, apart := false }
def TxnStaysSaid : Prop := txnStaysRow.holds Try.pinned (OpenSpec.ofChange txnStaysSpec)

/-- ITS FALSE NEIGHBOUR: 'it returns false'. Refute it at one input. -/
def txnStaysWrong : ChangeSpec := { name := "txnStays", fn := fun _ => fun
  | [d1, d2] => { results := [.lit (.bool false)], args := [d1, d2] }
  | _ => none }
def TxnStaysWrongFalsely : Prop := txnStaysRow.holds Try.pinned (OpenSpec.ofChange txnStaysWrong)

/-- 'conclavelaw18.TxnTexts': WHATEVER THE INPUT: true; the input reads as it did. -/
def txnTextsSpec : ChangeSpec := { name := "txnTexts", fn := fun _ => fun
  | [d1, d2, d3] => { results := [.lit (.bool true)], args := [d1, d2, d3] }
  | _ => none }
def txnTextsRow : OpenClaim := { program := "ytehneddmamnmiaa", sum := "dbc715906f5a00754e6437ac50acd58069421a906fa520ac7d6cd25954a1d5b2", func := "conclave/conclavelaw18.TxnTexts", spec := "txnTexts", unfollowed := true, recurses := true, apart := false }
def TxnTextsSaid : Prop := txnTextsRow.holds Try.pinned (OpenSpec.ofChange txnTextsSpec)

/-- ITS FALSE NEIGHBOUR: 'it returns false'. Refute it at one input. -/
def txnTextsWrong : ChangeSpec := { name := "txnTexts", fn := fun _ => fun
  | [d1, d2, d3] => { results := [.lit (.bool false)], args := [d1, d2, d3] }
  | _ => none }
def TxnTextsWrongFalsely : Prop := txnTextsRow.holds Try.pinned (OpenSpec.ofChange txnTextsWrong)

/-- 'conclavelaw18.TxnLoads': WHATEVER THE INPUT: true; the input reads as it did. -/
def txnLoadsSpec : ChangeSpec := { name := "txnLoads", fn := fun _ => fun
  | [d1, d2, d3] => { results := [.lit (.bool true)], args := [d1, d2, d3] }
  | _ => none }
def txnLoadsRow : OpenClaim := { program := "ytehneddmamnmiaa", sum := "dbc715906f5a00754e6437ac50acd58069421a906fa520ac7d6cd25954a1d5b2", func := "conclave/conclavelaw18.TxnLoads", spec := "txnLoads", unfollowed := true, recurses := true, apart := false }
def TxnLoadsSaid : Prop := txnLoadsRow.holds Try.pinned (OpenSpec.ofChange txnLoadsSpec)

/-- ITS FALSE NEIGHBOUR: 'it returns false'. Refute it at one input. -/
def txnLoadsWrong : ChangeSpec := { name := "txnLoads", fn := fun _ => fun
  | [d1, d2, d3] => { results := [.lit (.bool false)], args := [d1, d2, d3] }
  | _ => none }
def TxnLoadsWrongFalsely : Prop := txnLoadsRow.holds Try.pinned (OpenSpec.ofChange txnLoadsWrong)

/-- 'conclavelaw18.TxnNumbers': WHATEVER THE INPUT: true; the input reads as it did. -/
def txnNumbersSpec : ChangeSpec := { name := "txnNumbers", fn := fun _ => fun
  | [] => { results := [.lit (.bool true)], args := [] }
  | _ => none }
def txnNumbersRow : OpenClaim := { program := "ytehneddmamnmiaa", sum := "dbc715906f5a00754e6437ac50acd58069421a906fa520ac7d6cd25954a1d5b2", func := "conclave/conclavelaw18.TxnNumbers", spec := "txnNumbers", unfollowed := true, recurses := true, apart := false }
def TxnNumbersSaid : Prop := txnNumbersRow.holds Try.pinned (OpenSpec.ofChange txnNumbersSpec)

/-- ITS FALSE NEIGHBOUR: 'it returns false'. Refute it at one input. -/
def txnNumbersWrong : ChangeSpec := { name := "txnNumbers", fn := fun _ => fun
  | [] => { results := [.lit (.bool false)], args := [] }
  | _ => none }
def TxnNumbersWrongFalsely : Prop := txnNumbersRow.holds Try.pinned (OpenSpec.ofChange txnNumbersWrong)

/-- 'conclavelaw18.TxnPlays': WHATEVER THE INPUT: true; the input reads as it did. -/
def txnPlaysSpec : ChangeSpec := { name := "txnPlays", fn := fun _ => fun
  | [d1, d2, d3, d4, d5] => { results := [.lit (.bool true)], args := [d1, d2, d3, d4, d5] }
  | _ => none }
def txnPlaysRow : OpenClaim := { program := "ytehneddmamnmiaa", sum := "dbc715906f5a00754e6437ac50acd58069421a906fa520ac7d6cd25954a1d5b2", func := "conclave/conclavelaw18.TxnPlays", spec := "txnPlays", unfollowed := true, recurses := true, apart := false }
def TxnPlaysSaid : Prop := txnPlaysRow.holds Try.pinned (OpenSpec.ofChange txnPlaysSpec)

/-- ITS FALSE NEIGHBOUR: 'it returns false'. Refute it at one input. -/
def txnPlaysWrong : ChangeSpec := { name := "txnPlays", fn := fun _ => fun
  | [d1, d2, d3, d4, d5] => { results := [.lit (.bool false)], args := [d1, d2, d3, d4, d5] }
  | _ => none }
def TxnPlaysWrongFalsely : Prop := txnPlaysRow.holds Try.pinned (OpenSpec.ofChange txnPlaysWrong)

/- THE SECOND FORM. 'bulk': how many values and letters a reading holds, each counted each time it is reached (what is shared counts as often as it is met; a slice's spare places count too). A statement '..UptoSaid' is the law's where the arguments, and the package variables that the reading takes, are together of bulk at most 1048576: NARROWER than '..Said'. Prove '..Said' where nothing that the law and all that it calls make is longer than what came in: it says more and counts as full. Else prove '..UptoSaid'. A law counts once. -/
mutual
def uptoBulk {H : Type} : DataW H → Nat
  | .lit (.string bytes) => bytes.length + 1
  | .lit _ => 1
  | .nil => 1
  | .ptr d => uptoBulk d + 1
  | .slice elems spare => uptoBulkAll elems + uptoBulkAll spare + 1
  | .agg parts => uptoBulkAll parts + 1
  | .iface _ d => uptoBulk d + 1
  | .map entries => uptoBulkEntries entries + 1
  | .held _ => 1
def uptoBulkAll {H : Type} : List (DataW H) → Nat
  | [] => 0
  | d :: r => uptoBulk d + uptoBulkAll r
def uptoBulkEntries {H : Type} : List (Lit × DataW H) → Nat
  | [] => 0
  | x :: r => uptoBulkEntry x + uptoBulkEntries r
def uptoBulkEntry {H : Type} : Lit × DataW H → Nat
  | (.string bytes, d) => bytes.length + uptoBulk d + 1
  | (_, d) => uptoBulk d + 1
 end
def uptoSmall : (H : Type) → List (DataW H) → Bool := fun _ ds => decide (uptoBulkAll ds ≤ 1048576)
def OpenSpec.upto (s : _root_.Go.ChangeSpec) : _root_.Go.OpenSpec := { _root_.Go.OpenSpec.ofChange s with cond := some uptoSmall }

/-- 'conclavelaw18.TxnStays', WHERE WHAT IT READS IS OF BULK AT MOST 1048576: true; the input reads as it did. -/
def txnStaysUptoRow : OpenClaim := { program := "ytehneddmamnmiaa", sum := "dbc715906f5a00754e6437ac50acd58069421a906fa520ac7d6cd25954a1d5b2", func := "conclave/conclavelaw18.TxnStays", spec := "txnStays", unfollowed := true, recurses := true, apart := false, narrowed := true }
def TxnStaysUptoSaid : Prop := txnStaysUptoRow.holds Try.pinned (OpenSpec.upto txnStaysSpec)

/-- 'conclavelaw18.TxnTexts', WHERE WHAT IT READS IS OF BULK AT MOST 1048576: true; the input reads as it did. -/
def txnTextsUptoRow : OpenClaim := { program := "ytehneddmamnmiaa", sum := "dbc715906f5a00754e6437ac50acd58069421a906fa520ac7d6cd25954a1d5b2", func := "conclave/conclavelaw18.TxnTexts", spec := "txnTexts", unfollowed := true, recurses := true, apart := false, narrowed := true }
def TxnTextsUptoSaid : Prop := txnTextsUptoRow.holds Try.pinned (OpenSpec.upto txnTextsSpec)

/-- 'conclavelaw18.TxnLoads', WHERE WHAT IT READS IS OF BULK AT MOST 1048576: true; the input reads as it did. -/
def txnLoadsUptoRow : OpenClaim := { program := "ytehneddmamnmiaa", sum := "dbc715906f5a00754e6437ac50acd58069421a906fa520ac7d6cd25954a1d5b2", func := "conclave/conclavelaw18.TxnLoads", spec := "txnLoads", unfollowed := true, recurses := true, apart := false, narrowed := true }
def TxnLoadsUptoSaid : Prop := txnLoadsUptoRow.holds Try.pinned (OpenSpec.upto txnLoadsSpec)

/-- 'conclavelaw18.TxnNumbers', WHERE WHAT IT READS IS OF BULK AT MOST 1048576: true; the input reads as it did. -/
def txnNumbersUptoRow : OpenClaim := { program := "ytehneddmamnmiaa", sum := "dbc715906f5a00754e6437ac50acd58069421a906fa520ac7d6cd25954a1d5b2", func := "conclave/conclavelaw18.TxnNumbers", spec := "txnNumbers", unfollowed := true, recurses := true, apart := false, narrowed := true }
def TxnNumbersUptoSaid : Prop := txnNumbersUptoRow.holds Try.pinned (OpenSpec.upto txnNumbersSpec)

/-- 'conclavelaw18.TxnPlays', WHERE WHAT IT READS IS OF BULK AT MOST 1048576: true; the input reads as it did. -/
def txnPlaysUptoRow : OpenClaim := { program := "ytehneddmamnmiaa", sum := "dbc715906f5a00754e6437ac50acd58069421a906fa520ac7d6cd25954a1d5b2", func := "conclave/conclavelaw18.TxnPlays", spec := "txnPlays", unfollowed := true, recurses := true, apart := false, narrowed := true }
def TxnPlaysUptoSaid : Prop := txnPlaysUptoRow.holds Try.pinned (OpenSpec.upto txnPlaysSpec)

end Rows
end Go.Proofs.Ytehneddmamnmiaa
