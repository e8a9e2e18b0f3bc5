/-
  No cell of these rows narrows 'for every input' (looked for: loops, veiled, ifaces, maps, wideKeys, modest, calm, conditions, laid).
  DERIVED. THE GIVEN ROWS OF THIS SEAT. 5 by the template 'for every input the law returns true; each argument reads behind the call as it read before'; 0 by the template 'total and deterministic' (their statements: YtkboipnfpcngcaaTotals.lean).
  GIVEN WITH THE SEED: the statements are not yours to turn. If you find one false, say at which input.
  Laid BY PROGRAM, IN A SANDBOX (cutbox-rows.mjs): the forced cells as the released guide's own fill.sh prints them over the translation 66e6056fde7c0355… (all of the seat's roots in one cut). By AI agents, Wed Nov 11 2026. No macro, syntax, notation, axiom, sorry.
-/
import Derived.Test.YtkboipnfpcngcaaChecked
import GoSem.Claim
import GoSem.ClaimJoined
import GoSem.ClaimMapViews
import Derived.JoinedTies
import Derived.KernelRfl
namespace Go.Proofs.Ytkboipnfpcngcaa
/- THE CELL 'sum', in the pinned program and in every row, IS THE sha256 OF THE DUMP (.gsa) THAT YtkboipnfpcngcaaProg.lean LOADS. Nothing in Lean hashes anything: it is a label: what it is worth is what the hold of that sum in a sandbox is worth. -/
noncomputable def Try.pinned : Pinned := { name := "ytkboipnfpcngcaa", sum := "66e6056fde7c03555e1f6b34c7f40bbeea703a4ff0dcfc94c7abdd4f08f95e04", checked := Try.checked }
namespace Rows
def none {H : Type} : Left H := { results := [], args := [] }

/-- 'conclavelaw15.LocksReaders': WHATEVER THE INPUT: true; the input reads as it did. -/
def locksReadersSpec : ChangeSpec := { name := "locksReaders", fn := fun _ => fun
  | [d1, d2] => { results := [.lit (.bool true)], args := [d1, d2] }
  | _ => none }
def locksReadersRow : OpenClaim := { program := "ytkboipnfpcngcaa", sum := "66e6056fde7c03555e1f6b34c7f40bbeea703a4ff0dcfc94c7abdd4f08f95e04", func := "conclave/conclavelaw15.LocksReaders", spec := "locksReaders", unfollowed := true, recurses := true, apart := false }
def LocksReadersSaid : Prop := locksReadersRow.holds Try.pinned (OpenSpec.ofChange locksReadersSpec)

/-- ITS FALSE NEIGHBOUR: 'it returns false'. Refute it at one input. -/
def locksReadersWrong : ChangeSpec := { name := "locksReaders", fn := fun _ => fun
  | [d1, d2] => { results := [.lit (.bool false)], args := [d1, d2] }
  | _ => none }
def LocksReadersWrongFalsely : Prop := locksReadersRow.holds Try.pinned (OpenSpec.ofChange locksReadersWrong)

/-- 'conclavelaw15.LocksHeld': WHATEVER THE INPUT: true; the input reads as it did. -/
def locksHeldSpec : ChangeSpec := { name := "locksHeld", fn := fun _ => fun
  | [d] => { results := [.lit (.bool true)], args := [d] }
  | _ => none }
def locksHeldRow : OpenClaim := { program := "ytkboipnfpcngcaa", sum := "66e6056fde7c03555e1f6b34c7f40bbeea703a4ff0dcfc94c7abdd4f08f95e04", func := "conclave/conclavelaw15.LocksHeld", spec := "locksHeld", unfollowed := true, recurses := true, apart := false }
def LocksHeldSaid : Prop := locksHeldRow.holds Try.pinned (OpenSpec.ofChange locksHeldSpec)

/-- ITS FALSE NEIGHBOUR: 'it returns false'. Refute it at one input. -/
def locksHeldWrong : ChangeSpec := { name := "locksHeld", fn := fun _ => fun
  | [d] => { results := [.lit (.bool false)], args := [d] }
  | _ => none }
def LocksHeldWrongFalsely : Prop := locksHeldRow.holds Try.pinned (OpenSpec.ofChange locksHeldWrong)

/-- 'conclavelaw15.LocksNumbers': WHATEVER THE INPUT: true; the input reads as it did. -/
def locksNumbersSpec : ChangeSpec := { name := "locksNumbers", fn := fun _ => fun
  | [] => { results := [.lit (.bool true)], args := [] }
  | _ => none }
def locksNumbersRow : OpenClaim := { program := "ytkboipnfpcngcaa", sum := "66e6056fde7c03555e1f6b34c7f40bbeea703a4ff0dcfc94c7abdd4f08f95e04", func := "conclave/conclavelaw15.LocksNumbers", spec := "locksNumbers", unfollowed := true, recurses := true, apart := false }
def LocksNumbersSaid : Prop := locksNumbersRow.holds Try.pinned (OpenSpec.ofChange locksNumbersSpec)

/-- ITS FALSE NEIGHBOUR: 'it returns false'. Refute it at one input. -/
def locksNumbersWrong : ChangeSpec := { name := "locksNumbers", fn := fun _ => fun
  | [] => { results := [.lit (.bool false)], args := [] }
  | _ => none }
def LocksNumbersWrongFalsely : Prop := locksNumbersRow.holds Try.pinned (OpenSpec.ofChange locksNumbersWrong)

/-- 'conclavelaw15.LocksPlays': WHATEVER THE INPUT: true; the input reads as it did. -/
def locksPlaysSpec : ChangeSpec := { name := "locksPlays", fn := fun _ => fun
  | [d1, d2] => { results := [.lit (.bool true)], args := [d1, d2] }
  | _ => none }
def locksPlaysRow : OpenClaim := { program := "ytkboipnfpcngcaa", sum := "66e6056fde7c03555e1f6b34c7f40bbeea703a4ff0dcfc94c7abdd4f08f95e04", func := "conclave/conclavelaw15.LocksPlays", spec := "locksPlays", unfollowed := true, recurses := true, apart := false }
def LocksPlaysSaid : Prop := locksPlaysRow.holds Try.pinned (OpenSpec.ofChange locksPlaysSpec)

/-- ITS FALSE NEIGHBOUR: 'it returns false'. Refute it at one input. -/
def locksPlaysWrong : ChangeSpec := { name := "locksPlays", fn := fun _ => fun
  | [d1, d2] => { results := [.lit (.bool false)], args := [d1, d2] }
  | _ => none }
def LocksPlaysWrongFalsely : Prop := locksPlaysRow.holds Try.pinned (OpenSpec.ofChange locksPlaysWrong)

/-- 'conclavelaw15.LocksAlone': WHATEVER THE INPUT: true; the input reads as it did. -/
def locksAloneSpec : ChangeSpec := { name := "locksAlone", fn := fun _ => fun
  | [d] => { results := [.lit (.bool true)], args := [d] }
  | _ => none }
def locksAloneRow : OpenClaim := { program := "ytkboipnfpcngcaa", sum := "66e6056fde7c03555e1f6b34c7f40bbeea703a4ff0dcfc94c7abdd4f08f95e04", func := "conclave/conclavelaw15.LocksAlone", spec := "locksAlone", unfollowed := true, recurses := true, apart := false }
def LocksAloneSaid : Prop := locksAloneRow.holds Try.pinned (OpenSpec.ofChange locksAloneSpec)

/-- ITS FALSE NEIGHBOUR: 'it returns false'. Refute it at one input. -/
def locksAloneWrong : ChangeSpec := { name := "locksAlone", fn := fun _ => fun
  | [d] => { results := [.lit (.bool false)], args := [d] }
  | _ => none }
def LocksAloneWrongFalsely : Prop := locksAloneRow.holds Try.pinned (OpenSpec.ofChange locksAloneWrong)

/- THE SECOND FORM. 'bulk': how many values and letters a reading holds, each counted each time it is reached (what is shared counts as often as it is met; a slice's spare places count too). A statement '..UptoSaid' is the law's where the arguments, and the package variables that the reading takes, are together of bulk at most 1048576: NARROWER than '..Said'. Prove '..Said' where nothing that the law and all that it calls make is longer than what came in: it says more and counts as full. Else prove '..UptoSaid'. A law counts once. -/
mutual
def uptoBulk {H : Type} : DataW H → Nat
  | .lit (.string bytes) => bytes.length + 1
  | .lit _ => 1
  | .nil => 1
  | .ptr d => uptoBulk d + 1
  | .slice elems spare => uptoBulkAll elems + uptoBulkAll spare + 1
  | .agg parts => uptoBulkAll parts + 1
  | .iface _ d => uptoBulk d + 1
  | .map entries => uptoBulkEntries entries + 1
  | .held _ => 1
def uptoBulkAll {H : Type} : List (DataW H) → Nat
  | [] => 0
  | d :: r => uptoBulk d + uptoBulkAll r
def uptoBulkEntries {H : Type} : List (Lit × DataW H) → Nat
  | [] => 0
  | x :: r => uptoBulkEntry x + uptoBulkEntries r
def uptoBulkEntry {H : Type} : Lit × DataW H → Nat
  | (.string bytes, d) => bytes.length + uptoBulk d + 1
  | (_, d) => uptoBulk d + 1
 end
def uptoSmall : (H : Type) → List (DataW H) → Bool := fun _ ds => decide (uptoBulkAll ds ≤ 1048576)
def OpenSpec.upto (s : _root_.Go.ChangeSpec) : _root_.Go.OpenSpec := { _root_.Go.OpenSpec.ofChange s with cond := some uptoSmall }

/-- 'conclavelaw15.LocksReaders', WHERE WHAT IT READS IS OF BULK AT MOST 1048576: true; the input reads as it did. -/
def locksReadersUptoRow : OpenClaim := { program := "ytkboipnfpcngcaa", sum := "66e6056fde7c03555e1f6b34c7f40bbeea703a4ff0dcfc94c7abdd4f08f95e04", func := "conclave/conclavelaw15.LocksReaders", spec := "locksReaders", unfollowed := true, recurses := true, apart := false, narrowed := true }
def LocksReadersUptoSaid : Prop := locksReadersUptoRow.holds Try.pinned (OpenSpec.upto locksReadersSpec)

/-- 'conclavelaw15.LocksHeld', WHERE WHAT IT READS IS OF BULK AT MOST 1048576: true; the input reads as it did. -/
def locksHeldUptoRow : OpenClaim := { program := "ytkboipnfpcngcaa", sum := "66e6056fde7c03555e1f6b34c7f40bbeea703a4ff0dcfc94c7abdd4f08f95e04", func := "conclave/conclavelaw15.LocksHeld", spec := "locksHeld", unfollowed := true, recurses := true, apart := false, narrowed := true }
def LocksHeldUptoSaid : Prop := locksHeldUptoRow.holds Try.pinned (OpenSpec.upto locksHeldSpec)

/-- 'conclavelaw15.LocksNumbers', WHERE WHAT IT READS IS OF BULK AT MOST 1048576: true; the input reads as it did. -/
def locksNumbersUptoRow : OpenClaim := { program := "ytkboipnfpcngcaa", sum := "66e6056fde7c03555e1f6b34c7f40bbeea703a4ff0dcfc94c7abdd4f08f95e04", func := "conclave/conclavelaw15.LocksNumbers", spec := "locksNumbers", unfollowed := true, recurses := true, apart := false, narrowed := true }
def LocksNumbersUptoSaid : Prop := locksNumbersUptoRow.holds Try.pinned (OpenSpec.upto locksNumbersSpec)

/-- 'conclavelaw15.LocksPlays', WHERE WHAT IT READS IS OF BULK AT MOST 1048576: true; the input reads as it did. -/
def locksPlaysUptoRow : OpenClaim := { program := "ytkboipnfpcngcaa", sum := "66e6056fde7c03555e1f6b34c7f40bbeea703a4ff0dcfc94c7abdd4f08f95e04", func := "conclave/conclavelaw15.LocksPlays", spec := "locksPlays", unfollowed := true, recurses := true, apart := false, narrowed := true }
def LocksPlaysUptoSaid : Prop := locksPlaysUptoRow.holds Try.pinned (OpenSpec.upto locksPlaysSpec)

/-- 'conclavelaw15.LocksAlone', WHERE WHAT IT READS IS OF BULK AT MOST 1048576: true; the input reads as it did. -/
def locksAloneUptoRow : OpenClaim := { program := "ytkboipnfpcngcaa", sum := "66e6056fde7c03555e1f6b34c7f40bbeea703a4ff0dcfc94c7abdd4f08f95e04", func := "conclave/conclavelaw15.LocksAlone", spec := "locksAlone", unfollowed := true, recurses := true, apart := false, narrowed := true }
def LocksAloneUptoSaid : Prop := locksAloneUptoRow.holds Try.pinned (OpenSpec.upto locksAloneSpec)

end Rows
end Go.Proofs.Ytkboipnfpcngcaa
