/-
  No cell of these rows narrows 'for every input' (looked for: loops, veiled, ifaces, maps, wideKeys, modest, calm, conditions, laid).
  DERIVED. THE GIVEN ROWS OF THIS SEAT. 5 by the template 'for every input the law returns true; each argument reads behind the call as it read before'; 0 by the template 'total and deterministic' (their statements: YtpjdepepgfimeaaTotals.lean).
  GIVEN WITH THE SEED: the statements are not yours to turn. If you find one false, say at which input.
  Laid BY PROGRAM, IN A SANDBOX (cutbox-rows.mjs): the forced cells as the released guide's own fill.sh prints them over the translation 0e78d2f53df07e55… (all of the seat's roots in one cut). By AI agents, Wed Nov 11 2026. No macro, syntax, notation, axiom, sorry.
-/
import Derived.Test.YtpjdepepgfimeaaChecked
import GoSem.Claim
import GoSem.ClaimJoined
import GoSem.ClaimMapViews
import Derived.JoinedTies
import Derived.KernelRfl
namespace Go.Proofs.Ytpjdepepgfimeaa
/- THE CELL 'sum', in the pinned program and in every row, IS THE sha256 OF THE DUMP (.gsa) THAT YtpjdepepgfimeaaProg.lean LOADS. Nothing in Lean hashes anything: it is a label: what it is worth is what the hold of that sum in a sandbox is worth. -/
noncomputable def Try.pinned : Pinned := { name := "ytpjdepepgfimeaa", sum := "0e78d2f53df07e558e8d818b59971e676eaa5ac927108a4aad1789e2ca0e82e1", checked := Try.checked }
namespace Rows
def none {H : Type} : Left H := { results := [], args := [] }

/-- 'conclavelaw9.LogOrder': WHATEVER THE INPUT: true; the input reads as it did. -/
def logOrderSpec : ChangeSpec := { name := "logOrder", fn := fun _ => fun
  | [d1, d2, d3] => { results := [.lit (.bool true)], args := [d1, d2, d3] }
  | _ => none }
def logOrderRow : OpenClaim := { program := "ytpjdepepgfimeaa", sum := "0e78d2f53df07e558e8d818b59971e676eaa5ac927108a4aad1789e2ca0e82e1", func := "conclave/conclavelaw9.LogOrder", spec := "logOrder", apart := false }
def LogOrderSaid : Prop := logOrderRow.holds Try.pinned (OpenSpec.ofChange logOrderSpec)

/-- ITS FALSE NEIGHBOUR: 'it returns false'. Refute it at one input. -/
def logOrderWrong : ChangeSpec := { name := "logOrder", fn := fun _ => fun
  | [d1, d2, d3] => { results := [.lit (.bool false)], args := [d1, d2, d3] }
  | _ => none }
def LogOrderWrongFalsely : Prop := logOrderRow.holds Try.pinned (OpenSpec.ofChange logOrderWrong)

/-- 'conclavelaw9.LogClashes': WHATEVER THE INPUT: true; the input reads as it did. -/
def logClashesSpec : ChangeSpec := { name := "logClashes", fn := fun _ => fun
  | [d] => { results := [.lit (.bool true)], args := [d] }
  | _ => none }
def logClashesRow : OpenClaim := { program := "ytpjdepepgfimeaa", sum := "0e78d2f53df07e558e8d818b59971e676eaa5ac927108a4aad1789e2ca0e82e1", func := "conclave/conclavelaw9.LogClashes", spec := "logClashes", apart := false }
def LogClashesSaid : Prop := logClashesRow.holds Try.pinned (OpenSpec.ofChange logClashesSpec)

/-- ITS FALSE NEIGHBOUR: 'it returns false'. Refute it at one input. -/
def logClashesWrong : ChangeSpec := { name := "logClashes", fn := fun _ => fun
  | [d] => { results := [.lit (.bool false)], args := [d] }
  | _ => none }
def LogClashesWrongFalsely : Prop := logClashesRow.holds Try.pinned (OpenSpec.ofChange logClashesWrong)

/-- 'conclavelaw9.LogForgets': WHATEVER THE INPUT: true; the input reads as it did. -/
def logForgetsSpec : ChangeSpec := { name := "logForgets", fn := fun _ => fun
  | [d1, d2, d3] => { results := [.lit (.bool true)], args := [d1, d2, d3] }
  | _ => none }
def logForgetsRow : OpenClaim := { program := "ytpjdepepgfimeaa", sum := "0e78d2f53df07e558e8d818b59971e676eaa5ac927108a4aad1789e2ca0e82e1", func := "conclave/conclavelaw9.LogForgets", spec := "logForgets", unfollowed := true, recurses := true, apart := false }
def LogForgetsSaid : Prop := logForgetsRow.holds Try.pinned (OpenSpec.ofChange logForgetsSpec)

/-- ITS FALSE NEIGHBOUR: 'it returns false'. Refute it at one input. -/
def logForgetsWrong : ChangeSpec := { name := "logForgets", fn := fun _ => fun
  | [d1, d2, d3] => { results := [.lit (.bool false)], args := [d1, d2, d3] }
  | _ => none }
def LogForgetsWrongFalsely : Prop := logForgetsRow.holds Try.pinned (OpenSpec.ofChange logForgetsWrong)

/-- 'conclavelaw9.LogNumbers': WHATEVER THE INPUT: true; the input reads as it did. -/
def logNumbersSpec : ChangeSpec := { name := "logNumbers", fn := fun _ => fun
  | [] => { results := [.lit (.bool true)], args := [] }
  | _ => none }
def logNumbersRow : OpenClaim := { program := "ytpjdepepgfimeaa", sum := "0e78d2f53df07e558e8d818b59971e676eaa5ac927108a4aad1789e2ca0e82e1", func := "conclave/conclavelaw9.LogNumbers", spec := "logNumbers", unfollowed := true, recurses := true, apart := false }
def LogNumbersSaid : Prop := logNumbersRow.holds Try.pinned (OpenSpec.ofChange logNumbersSpec)

/-- ITS FALSE NEIGHBOUR: 'it returns false'. Refute it at one input. -/
def logNumbersWrong : ChangeSpec := { name := "logNumbers", fn := fun _ => fun
  | [] => { results := [.lit (.bool false)], args := [] }
  | _ => none }
def LogNumbersWrongFalsely : Prop := logNumbersRow.holds Try.pinned (OpenSpec.ofChange logNumbersWrong)

/-- 'conclavelaw9.LogPlays': WHATEVER THE INPUT: true; the input reads as it did. -/
def logPlaysSpec : ChangeSpec := { name := "logPlays", fn := fun _ => fun
  | [d] => { results := [.lit (.bool true)], args := [d] }
  | _ => none }
def logPlaysRow : OpenClaim := { program := "ytpjdepepgfimeaa", sum := "0e78d2f53df07e558e8d818b59971e676eaa5ac927108a4aad1789e2ca0e82e1", func := "conclave/conclavelaw9.LogPlays", spec := "logPlays", unfollowed := true, recurses := true, apart := false }
def LogPlaysSaid : Prop := logPlaysRow.holds Try.pinned (OpenSpec.ofChange logPlaysSpec)

/-- ITS FALSE NEIGHBOUR: 'it returns false'. Refute it at one input. -/
def logPlaysWrong : ChangeSpec := { name := "logPlays", fn := fun _ => fun
  | [d] => { results := [.lit (.bool false)], args := [d] }
  | _ => none }
def LogPlaysWrongFalsely : Prop := logPlaysRow.holds Try.pinned (OpenSpec.ofChange logPlaysWrong)

/- THE SECOND FORM. 'bulk': how many values and letters a reading holds, each counted each time it is reached (what is shared counts as often as it is met; a slice's spare places count too). A statement '..UptoSaid' is the law's where the arguments, and the package variables that the reading takes, are together of bulk at most 1048576: NARROWER than '..Said'. Prove '..Said' where nothing that the law and all that it calls make is longer than what came in: it says more and counts as full. Else prove '..UptoSaid'. A law counts once. -/
mutual
def uptoBulk {H : Type} : DataW H → Nat
  | .lit (.string bytes) => bytes.length + 1
  | .lit _ => 1
  | .nil => 1
  | .ptr d => uptoBulk d + 1
  | .slice elems spare => uptoBulkAll elems + uptoBulkAll spare + 1
  | .agg parts => uptoBulkAll parts + 1
  | .iface _ d => uptoBulk d + 1
  | .map entries => uptoBulkEntries entries + 1
  | .held _ => 1
def uptoBulkAll {H : Type} : List (DataW H) → Nat
  | [] => 0
  | d :: r => uptoBulk d + uptoBulkAll r
def uptoBulkEntries {H : Type} : List (Lit × DataW H) → Nat
  | [] => 0
  | x :: r => uptoBulkEntry x + uptoBulkEntries r
def uptoBulkEntry {H : Type} : Lit × DataW H → Nat
  | (.string bytes, d) => bytes.length + uptoBulk d + 1
  | (_, d) => uptoBulk d + 1
 end
def uptoSmall : (H : Type) → List (DataW H) → Bool := fun _ ds => decide (uptoBulkAll ds ≤ 1048576)
def OpenSpec.upto (s : _root_.Go.ChangeSpec) : _root_.Go.OpenSpec := { _root_.Go.OpenSpec.ofChange s with cond := some uptoSmall }

/-- 'conclavelaw9.LogOrder', WHERE WHAT IT READS IS OF BULK AT MOST 1048576: true; the input reads as it did. -/
def logOrderUptoRow : OpenClaim := { program := "ytpjdepepgfimeaa", sum := "0e78d2f53df07e558e8d818b59971e676eaa5ac927108a4aad1789e2ca0e82e1", func := "conclave/conclavelaw9.LogOrder", spec := "logOrder", apart := false, narrowed := true }
def LogOrderUptoSaid : Prop := logOrderUptoRow.holds Try.pinned (OpenSpec.upto logOrderSpec)

/-- 'conclavelaw9.LogClashes', WHERE WHAT IT READS IS OF BULK AT MOST 1048576: true; the input reads as it did. -/
def logClashesUptoRow : OpenClaim := { program := "ytpjdepepgfimeaa", sum := "0e78d2f53df07e558e8d818b59971e676eaa5ac927108a4aad1789e2ca0e82e1", func := "conclave/conclavelaw9.LogClashes", spec := "logClashes", apart := false, narrowed := true }
def LogClashesUptoSaid : Prop := logClashesUptoRow.holds Try.pinned (OpenSpec.upto logClashesSpec)

/-- 'conclavelaw9.LogForgets', WHERE WHAT IT READS IS OF BULK AT MOST 1048576: true; the input reads as it did. -/
def logForgetsUptoRow : OpenClaim := { program := "ytpjdepepgfimeaa", sum := "0e78d2f53df07e558e8d818b59971e676eaa5ac927108a4aad1789e2ca0e82e1", func := "conclave/conclavelaw9.LogForgets", spec := "logForgets", unfollowed := true, recurses := true, apart := false, narrowed := true }
def LogForgetsUptoSaid : Prop := logForgetsUptoRow.holds Try.pinned (OpenSpec.upto logForgetsSpec)

/-- 'conclavelaw9.LogNumbers', WHERE WHAT IT READS IS OF BULK AT MOST 1048576: true; the input reads as it did. -/
def logNumbersUptoRow : OpenClaim := { program := "ytpjdepepgfimeaa", sum := "0e78d2f53df07e558e8d818b59971e676eaa5ac927108a4aad1789e2ca0e82e1", func := "conclave/conclavelaw9.LogNumbers", spec := "logNumbers", unfollowed := true, recurses := true, apart := false, narrowed := true }
def LogNumbersUptoSaid : Prop := logNumbersUptoRow.holds Try.pinned (OpenSpec.upto logNumbersSpec)

/-- 'conclavelaw9.LogPlays', WHERE WHAT IT READS IS OF BULK AT MOST 1048576: true; the input reads as it did. -/
def logPlaysUptoRow : OpenClaim := { program := "ytpjdepepgfimeaa", sum := "0e78d2f53df07e558e8d818b59971e676eaa5ac927108a4aad1789e2ca0e82e1", func := "conclave/conclavelaw9.LogPlays", spec := "logPlays", unfollowed := true, recurses := true, apart := false, narrowed := true }
def LogPlaysUptoSaid : Prop := logPlaysUptoRow.holds Try.pinned (OpenSpec.upto logPlaysSpec)

end Rows
end Go.Proofs.Ytpjdepepgfimeaa
