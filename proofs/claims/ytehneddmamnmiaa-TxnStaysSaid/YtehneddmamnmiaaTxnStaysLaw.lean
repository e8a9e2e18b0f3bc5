/- TxnStays: the statement's frame: how the arguments are read, and read again behind the call. -/
import Derived.Test.YtehneddmamnmiaaRows
import Derived.Test.YtehneddmamnmiaaOpen
import Derived.Test.YtehneddmamnmiaaOpenSl
import Derived.Test.YtehneddmamnmiaaTxnStaysWalk
import Derived.JoinedCond
namespace Go.Proofs.Ytehneddmamnmiaa.TxnStays
open Go.ChangeShapes Go.WideShapes Go.ChangeAt Go.RowKit Go.Cv
open Go.ChangeMaps (open_string shut_string)
set_option linter.unusedVariables false

theorem own : ownKnob Try.prog.godebug = none := by kernel_rfl
theorem laidOut : laidOutB Try.prog = true := by kernel_rfl

abbrev fcellsAsk (a : Int × Int × Int × Int × Bool × Bool × (Option Addr × Nat × List ByteArray)) : List Value := [.int .i64 a.1, .int .i64 a.2.1, .int .i64 a.2.2.1, .int .i64 a.2.2.2.1, .bool a.2.2.2.2.1, .bool a.2.2.2.2.2.1, .slice a.2.2.2.2.2.2.1 a.2.2.2.2.2.2.2.2.length a.2.2.2.2.2.2.2.1]
abbrev fgoodAsk (w : World) (a : Int × Int × Int × Int × Bool × Bool × (Option Addr × Nat × List ByteArray)) : Prop := (Lit.int .i64 a.1).wf = true ∧ (Lit.int .i64 a.2.1).wf = true ∧ (Lit.int .i64 a.2.2.1).wf = true ∧ (Lit.int .i64 a.2.2.2.1).wf = true ∧ True ∧ True ∧ (Reads w (.slice a.2.2.2.2.2.2.1 a.2.2.2.2.2.2.2.2.length a.2.2.2.2.2.2.2.1) a.2.2.2.2.2.2.2.2.length 1 (a.2.2.2.2.2.2.2.2.flatMap (fun z => [.string z])) ∧ (∀ z ∈ a.2.2.2.2.2.2.2.2, z.size ≤ maxLen) ∧ a.2.2.2.2.2.2.2.2.length ≤ maxLen)
set_option maxRecDepth 100000 in
theorem felemAsk : Elem Try.prog 48 fcellsAsk fgoodAsk := by
  intro H enc w base sp held fuel cs x h
  obtain ⟨xs, n, _, rfl, hl, hlen, hf⟩ := DataW.trod_struct Try.underlying48 h
  have hc : Try.prog.cellsOf 48 = 7 := by kernel_rfl
  rw [hc] at hl
  match cs, hl with
  | [c0, c1, c2, c3, c4, c5, c6], _ =>
    have hx : xs.length = 7 := hlen
    obtain ⟨y0, hy0⟩ : ∃ y, xs[0]? = some y := ⟨_, List.getElem?_eq_getElem (by omega)⟩
    have e0 : DataW.trod enc Try.prog w base sp held n 3 ((([c0, c1, c2, c3, c4, c5, c6] : List Value).drop 0).take (Try.prog.cellsOf 3)) = xs[0]? := hf 0 _ rfl
    rw [hy0, show Try.prog.cellsOf 3 = 1 from by kernel_rfl] at e0
    simp only [List.drop_zero, List.take_succ_cons, List.take_zero] at e0
    obtain ⟨y1, hy1⟩ : ∃ y, xs[1]? = some y := ⟨_, List.getElem?_eq_getElem (by omega)⟩
    have e1 : DataW.trod enc Try.prog w base sp held n 3 ((([c0, c1, c2, c3, c4, c5, c6] : List Value).drop 1).take (Try.prog.cellsOf 3)) = xs[1]? := hf 1 _ rfl
    rw [hy1, show Try.prog.cellsOf 3 = 1 from by kernel_rfl] at e1
    simp only [List.drop_succ_cons, List.drop_zero, List.take_succ_cons, List.take_zero] at e1
    obtain ⟨y2, hy2⟩ : ∃ y, xs[2]? = some y := ⟨_, List.getElem?_eq_getElem (by omega)⟩
    have e2 : DataW.trod enc Try.prog w base sp held n 3 ((([c0, c1, c2, c3, c4, c5, c6] : List Value).drop 2).take (Try.prog.cellsOf 3)) = xs[2]? := hf 2 _ rfl
    rw [hy2, show Try.prog.cellsOf 3 = 1 from by kernel_rfl] at e2
    simp only [List.drop_succ_cons, List.drop_zero, List.take_succ_cons, List.take_zero] at e2
    obtain ⟨y3, hy3⟩ : ∃ y, xs[3]? = some y := ⟨_, List.getElem?_eq_getElem (by omega)⟩
    have e3 : DataW.trod enc Try.prog w base sp held n 3 ((([c0, c1, c2, c3, c4, c5, c6] : List Value).drop 3).take (Try.prog.cellsOf 3)) = xs[3]? := hf 3 _ rfl
    rw [hy3, show Try.prog.cellsOf 3 = 1 from by kernel_rfl] at e3
    simp only [List.drop_succ_cons, List.drop_zero, List.take_succ_cons, List.take_zero] at e3
    obtain ⟨y4, hy4⟩ : ∃ y, xs[4]? = some y := ⟨_, List.getElem?_eq_getElem (by omega)⟩
    have e4 : DataW.trod enc Try.prog w base sp held n 4 ((([c0, c1, c2, c3, c4, c5, c6] : List Value).drop 4).take (Try.prog.cellsOf 4)) = xs[4]? := hf 4 _ rfl
    rw [hy4, show Try.prog.cellsOf 4 = 1 from by kernel_rfl] at e4
    simp only [List.drop_succ_cons, List.drop_zero, List.take_succ_cons, List.take_zero] at e4
    obtain ⟨y5, hy5⟩ : ∃ y, xs[5]? = some y := ⟨_, List.getElem?_eq_getElem (by omega)⟩
    have e5 : DataW.trod enc Try.prog w base sp held n 4 ((([c0, c1, c2, c3, c4, c5, c6] : List Value).drop 5).take (Try.prog.cellsOf 4)) = xs[5]? := hf 5 _ rfl
    rw [hy5, show Try.prog.cellsOf 4 = 1 from by kernel_rfl] at e5
    simp only [List.drop_succ_cons, List.drop_zero, List.take_succ_cons, List.take_zero] at e5
    obtain ⟨y6, hy6⟩ : ∃ y, xs[6]? = some y := ⟨_, List.getElem?_eq_getElem (by omega)⟩
    have e6 : DataW.trod enc Try.prog w base sp held n 22 ((([c0, c1, c2, c3, c4, c5, c6] : List Value).drop 6).take (Try.prog.cellsOf 22)) = xs[6]? := hf 6 _ rfl
    rw [hy6, show Try.prog.cellsOf 22 = 1 from by kernel_rfl] at e6
    simp only [List.drop_succ_cons, List.drop_zero, List.take_succ_cons, List.take_zero] at e6
    obtain ⟨z0, h0, _, w0⟩ := DataW.trod_int Try.underlying3 e0
    obtain ⟨z1, h1, _, w1⟩ := DataW.trod_int Try.underlying3 e1
    obtain ⟨z2, h2, _, w2⟩ := DataW.trod_int Try.underlying3 e2
    obtain ⟨z3, h3, _, w3⟩ := DataW.trod_int Try.underlying3 e3
    obtain ⟨z4, h4, _⟩ := DataW.trod_bool Try.underlying4 e4
    obtain ⟨z5, h5, _⟩ := DataW.trod_bool Try.underlying4 e5
    obtain ⟨z6, h6, w6⟩ := field_rows (elem_string Try.underlying9) Try.underlying22 1 (fun _ => rfl) (by decide) (by kernel_rfl) e6
    simp only [List.cons.injEq, and_true] at h0 h1 h2 h3 h4 h5 h6
    subst h0
    subst h1
    subst h2
    subst h3
    subst h4
    subst h5
    subst h6
    exact ⟨(z0, z1, z2, z3, z4, z5, z6), rfl, w0, w1, w2, w3, trivial, trivial, w6⟩

set_option maxRecDepth 100000 in
theorem contract (H : Type) (enc : TypeId × Value → H) (W : World) (base : Nat) (args : Array Value) (ds gs : List (DataW H)) (before : List MemPlace)
    (hval : ∀ (j : Nat) t v, Try.f3.params[j]? = some t → args[j]? = some v → Value.okWide Try.prog W .any base t v)
    (hW : DataW.Whole enc Try.prog Try.f3.params.toList Rows.txnStaysSpec.vars false W args.toList ds gs before) :
    Calls Try.prog 3 args W fun e W' => ∃ v, e = .returned v ∧ Rows.txnStaysSpec.post enc Try.prog Try.f3 false true false false W args v W' := by
  have hW' := hW
  obtain ⟨p, q, hA0, hV, rfl, hfz, hnd⟩ := hW
  have hA : DataW.TrodAll enc Try.prog W 0 (fun _ => true) true Try.f3.params.toList args.toList ds p := hA0
  rw [Try.params3] at hA hval
  obtain ⟨v0, vs0, d0, ds0, p0, q0, hargs, rfl, rfl, h0, r0⟩ := trodAll_cons hA
  obtain ⟨v1, vs1, d1, ds1, p1, q1, rfl, rfl, rfl, h1, r1⟩ := trodAll_cons r0
  obtain ⟨rfl, rfl, rfl⟩ := trodAll_nil r1
  obtain rfl : args = #[v0, v1] := by cases args; simp_all
  obtain ⟨rfl, rfl⟩ := trodVars_none hV
  have k0 := h0
  have lt0 : ∀ x ∈ p0, x.block < W.heap.size := by obtain ⟨m, hm⟩ := k0; exact DataW.trod_lt m _ _ _ hm
  obtain ⟨a0, len0, cap0, rfl⟩ := okWide_slice Try.underlying22 (hval 0 22 v0 rfl rfl)
  obtain ⟨l0, w0, g0, c0⟩ := open_rows (elem_string Try.underlying9) Try.underlying22 1 (fun _ => rfl) (by decide) (by kernel_rfl) h0
  have k1 := h1
  have lt1 : ∀ x ∈ p1, x.block < W.heap.size := by obtain ⟨m, hm⟩ := k1; exact DataW.trod_lt m _ _ _ hm
  obtain ⟨a1, len1, cap1, rfl⟩ := okWide_slice Try.underlying23 (hval 1 23 v1 rfl rfl)
  obtain ⟨l1, w1, g1, c1⟩ := open_rows felemAsk Try.underlying23 7 (fun _ => rfl) (by decide) (by kernel_rfl) h1
  refine (walk W _ l0 w0 g0 c0 _ l1 w1 g1 c1).mono fun e W' ⟨he, bel⟩ => ?_
  subst he
  exact ⟨_, rfl, _, _, _, [], _, [], hW', trodAll_mk1 (shut_bool Try.underlying4 _), (trodAll_cons_mk (Below.trod laidOut (by kernel_rfl) (of_decide_eq_true (by kernel_rfl)) k0 bel lt0) (trodAll_cons_mk (Below.trod laidOut (by kernel_rfl) (of_decide_eq_true (by kernel_rfl)) k1 bel lt1) trodAll_mk0)), rfl, bel.frame _, fun h => by cases h⟩

set_option maxRecDepth 100000 in
theorem lifted (os : Os) (started : os.Started) (H : Type) (enc : TypeId × Value → H) :
    ReturnsInHanded {} Try.checked os 3 .any (Rows.txnStaysSpec.pre6 enc Try.prog Try.f3 Rows.txnStaysRow.domain false) (Rows.txnStaysSpec.post enc Try.prog Try.f3 false true false false) := by
  refine returnsInHanded_of_change (C := Try.checked) own started (by kernel_rfl) Try.func3
    (ChangeSpec.witness6 (enc := enc) (C := Try.checked) false ⟨#[], #[.slice none 0 0, .slice none 0 0], []⟩ 8 (by kernel_rfl) (by kernel_rfl) (by kernel_rfl) (by kernel_rfl)) ?_
  intro W base args ds gs before hval hW _ _
  exact contract H enc W base args ds gs before hval hW

theorem over : Rows.txnStaysRow.holds Try.pinned (OpenSpec.ofChange Rows.txnStaysSpec) :=
  OpenClaim.holds_of_wide 3 Try.f3 rfl rfl rfl rfl rfl rfl rfl ⟨rfl, rfl, rfl, rfl, rfl⟩ rfl rfl rfl rfl rfl (by kernel_rfl) Try.func3 (by kernel_rfl)
    (of_decide_eq_true (by kernel_rfl)) (by unfold Func.isWrapper; first | (rw [if_pos (by decide +kernel)]; kernel_rfl) | (rw [if_neg (by decide +kernel)]; exact ⟨rfl, rfl⟩))
    (fun os started H enc _ => lifted os started H enc)

end Go.Proofs.Ytehneddmamnmiaa.TxnStays
namespace Go.Proofs.Ytehneddmamnmiaa
theorem TxnStays_holds : Rows.TxnStaysSaid := TxnStays.over
end Go.Proofs.Ytehneddmamnmiaa
