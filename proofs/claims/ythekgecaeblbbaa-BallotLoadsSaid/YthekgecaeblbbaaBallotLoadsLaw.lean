/- BallotLoads: the statement's frame: how the arguments are read, and read again behind the call. -/
import Derived.Test.YthekgecaeblbbaaBound
import Derived.Test.YthekgecaeblbbaaRows
import Derived.Test.YthekgecaeblbbaaOpen
import Derived.Test.YthekgecaeblbbaaBallotLoadsWalk
import Derived.JoinedCond
namespace Go.Proofs.Ythekgecaeblbbaa.BallotLoads
open Go.ChangeShapes Go.WideShapes Go.ChangeAt Go.RowKit Go.Cv
open Go.ChangeMaps (open_string shut_string)
set_option linter.unusedVariables false

theorem own : ownKnob Try.prog.godebug = none := by kernel_rfl
theorem laidOut : laidOutB Try.prog = true := by kernel_rfl

abbrev fcellsBallot (a : Int × Int) : List Value := [.int .i64 a.1, .int .i64 a.2]
abbrev fgoodBallot (a : Int × Int) : Prop := (Lit.int .i64 a.1).wf = true ∧ (Lit.int .i64 a.2).wf = true
set_option maxRecDepth 100000 in
theorem felemBallot {H : Type} : ElemB Try.prog (sizedB (H := H) Try.prog) 23 fcellsBallot fgoodBallot := by
  intro enc w base sp held fuel cs x h hb
  obtain ⟨xs, n, _, rfl, hl, hlen, hf⟩ := DataW.trod_struct Try.underlying23 h
  have hc : Try.prog.cellsOf 23 = 2 := by kernel_rfl
  rw [hc] at hl
  match cs, hl with
  | [c0, c1], _ =>
    have hx : xs.length = 2 := hlen
    obtain ⟨y0, hy0⟩ : ∃ y, xs[0]? = some y := ⟨_, List.getElem?_eq_getElem (by omega)⟩
    have e0 : DataW.trod enc Try.prog w base sp held n 3 ((([c0, c1] : List Value).drop 0).take (Try.prog.cellsOf 3)) = xs[0]? := hf 0 _ rfl
    rw [hy0, show Try.prog.cellsOf 3 = 1 from by kernel_rfl] at e0
    simp only [List.drop_zero, List.take_succ_cons, List.take_zero] at e0
    obtain ⟨y1, hy1⟩ : ∃ y, xs[1]? = some y := ⟨_, List.getElem?_eq_getElem (by omega)⟩
    have e1 : DataW.trod enc Try.prog w base sp held n 3 ((([c0, c1] : List Value).drop 1).take (Try.prog.cellsOf 3)) = xs[1]? := hf 1 _ rfl
    rw [hy1, show Try.prog.cellsOf 3 = 1 from by kernel_rfl] at e1
    simp only [List.drop_succ_cons, List.drop_zero, List.take_succ_cons, List.take_zero] at e1
    obtain ⟨z0, h0, _, w0⟩ := DataW.trod_int Try.underlying3 e0
    obtain ⟨z1, h1, _, w1⟩ := DataW.trod_int Try.underlying3 e1
    simp only [List.cons.injEq, and_true] at h0 h1
    subst h0
    subst h1
    exact ⟨(z0, z1), rfl, w0, w1⟩

abbrev fcellsAsk (a : Int × Int × (Int × Int) × ByteArray) : List Value := [.int .i64 a.1, .int .i64 a.2.1, .int .i64 a.2.2.1.1, .int .i64 a.2.2.1.2, .string a.2.2.2]
abbrev fgoodAsk (a : Int × Int × (Int × Int) × ByteArray) : Prop := (Lit.int .i64 a.1).wf = true ∧ (Lit.int .i64 a.2.1).wf = true ∧ ((Lit.int .i64 a.2.2.1.1).wf = true ∧ (Lit.int .i64 a.2.2.1.2).wf = true) ∧ a.2.2.2.size ≤ 140737488351232
set_option maxRecDepth 100000 in
theorem felemAsk {H : Type} : ElemB Try.prog (sizedB (H := H) Try.prog) 31 fcellsAsk fgoodAsk := by
  intro enc w base sp held fuel cs x h hb
  obtain ⟨xs, n, _, rfl, hl, hlen, hf⟩ := DataW.trod_struct Try.underlying31 h
  have hc : Try.prog.cellsOf 31 = 5 := by kernel_rfl
  rw [hc] at hl
  match cs, hl with
  | [c0, c1, c2, c3, c4], _ =>
    have hx : xs.length = 4 := hlen
    obtain ⟨y0, hy0⟩ : ∃ y, xs[0]? = some y := ⟨_, List.getElem?_eq_getElem (by omega)⟩
    have e0 : DataW.trod enc Try.prog w base sp held n 3 ((([c0, c1, c2, c3, c4] : List Value).drop 0).take (Try.prog.cellsOf 3)) = xs[0]? := hf 0 _ rfl
    rw [hy0, show Try.prog.cellsOf 3 = 1 from by kernel_rfl] at e0
    simp only [List.drop_zero, List.take_succ_cons, List.take_zero] at e0
    obtain ⟨y1, hy1⟩ : ∃ y, xs[1]? = some y := ⟨_, List.getElem?_eq_getElem (by omega)⟩
    have e1 : DataW.trod enc Try.prog w base sp held n 3 ((([c0, c1, c2, c3, c4] : List Value).drop 1).take (Try.prog.cellsOf 3)) = xs[1]? := hf 1 _ rfl
    rw [hy1, show Try.prog.cellsOf 3 = 1 from by kernel_rfl] at e1
    simp only [List.drop_succ_cons, List.drop_zero, List.take_succ_cons, List.take_zero] at e1
    obtain ⟨y2, hy2⟩ : ∃ y, xs[2]? = some y := ⟨_, List.getElem?_eq_getElem (by omega)⟩
    have e2 : DataW.trod enc Try.prog w base sp held n 23 ((([c0, c1, c2, c3, c4] : List Value).drop 2).take (Try.prog.cellsOf 23)) = xs[2]? := hf 2 _ rfl
    rw [hy2, show Try.prog.cellsOf 23 = 2 from by kernel_rfl] at e2
    simp only [List.drop_succ_cons, List.drop_zero, List.take_succ_cons, List.take_zero] at e2
    obtain ⟨y3, hy3⟩ : ∃ y, xs[3]? = some y := ⟨_, List.getElem?_eq_getElem (by omega)⟩
    have e3 : DataW.trod enc Try.prog w base sp held n 9 ((([c0, c1, c2, c3, c4] : List Value).drop 4).take (Try.prog.cellsOf 9)) = xs[3]? := hf 3 _ rfl
    rw [hy3, show Try.prog.cellsOf 9 = 1 from by kernel_rfl] at e3
    simp only [List.drop_succ_cons, List.drop_zero, List.take_succ_cons, List.take_zero] at e3
    obtain ⟨z0, h0, _, w0⟩ := DataW.trod_int Try.underlying3 e0
    obtain ⟨z1, h1, _, w1⟩ := DataW.trod_int Try.underlying3 e1
    have b2 := (small_sized (H := H) (P := Try.prog)).agg Try.underlying31 hb 2 _ y2.1 rfl (by rw [List.getElem?_map, hy2]; rfl)
    obtain ⟨z2, h2, w2⟩ := felemBallot enc w base sp held n _ y2 e2 b2
    have b3 := (small_sized (H := H) (P := Try.prog)).agg Try.underlying31 hb 3 _ y3.1 rfl (by rw [List.getElem?_map, hy3]; rfl)
    obtain ⟨z3, h3, x3, _⟩ := DataW.trod_string Try.underlying9 e3
    have w3 : z3.size ≤ 140737488351232 := by rw [x3] at b3; exact (small_sized (H := H) (P := Try.prog)).text b3
    simp only [List.cons.injEq, and_true] at h0 h1 h2 h3
    subst h0
    subst h1
    obtain ⟨rfl, rfl⟩ := h2
    subst h3
    exact ⟨(z0, z1, z2, z3), rfl, w0, w1, w2, w3⟩

set_option maxRecDepth 100000 in
theorem contract (H : Type) (enc : TypeId × Value → H) (W : World) (base : Nat) (args : Array Value) (ds gs : List (DataW H)) (before : List MemPlace)
    (hval : ∀ (j : Nat) t v, Try.f6.params[j]? = some t → args[j]? = some v → Value.okWide Try.prog W .any base t v)
    (hsz : (DataW.weightsEach Try.prog (Try.f6.params.toList ++ Rows.ballotLoadsSpec.plain.varTypes Try.prog) (ds ++ gs)).all (· ≤ reachBytes) = true)
    (hW : DataW.Whole enc Try.prog Try.f6.params.toList Rows.ballotLoadsSpec.vars false W args.toList ds gs before) :
    Calls Try.prog 6 args W fun e W' => ∃ v, e = .returned v ∧ Rows.ballotLoadsSpec.post enc Try.prog Try.f6 false true false false W args v W' := by
  have hW' := hW
  obtain ⟨p, q, hA0, hV, rfl, hfz, hnd⟩ := hW
  have hA : DataW.TrodAll enc Try.prog W 0 (fun _ => true) true Try.f6.params.toList args.toList ds p := hA0
  rw [Try.params6] at hA hval
  obtain ⟨v0, vs0, d0, ds0, p0, q0, hargs, rfl, rfl, h0, r0⟩ := trodAll_cons hA
  obtain ⟨v1, vs1, d1, ds1, p1, q1, rfl, rfl, rfl, h1, r1⟩ := trodAll_cons r0
  obtain ⟨v2, vs2, d2, ds2, p2, q2, rfl, rfl, rfl, h2, r2⟩ := trodAll_cons r1
  obtain ⟨v3, vs3, d3, ds3, p3, q3, rfl, rfl, rfl, h3, r3⟩ := trodAll_cons r2
  obtain ⟨rfl, rfl, rfl⟩ := trodAll_nil r3
  obtain rfl : args = #[v0, v1, v2, v3] := by cases args; simp_all
  obtain ⟨rfl, rfl⟩ := trodVars_none hV
  have k0 := h0
  have lt0 : ∀ x ∈ p0, x.block < W.heap.size := by obtain ⟨m, hm⟩ := k0; exact DataW.trod_lt m _ _ _ hm
  have b0 : sizedB Try.prog 45 d0 := fun n hn => of_decide_eq_true (List.all_eq_true.1 hsz n (DataW.weights_mem_each (j := 0) (t := 45) rfl rfl n hn))
  obtain ⟨a0, len0, cap0, rfl⟩ := okWide_slice Try.underlying45 (hval 0 45 v0 rfl rfl)
  obtain ⟨l0, w0, g0, c0⟩ := open_rowsB (small_sized (H := H) (P := Try.prog)) (elemB_int Try.underlying5) Try.underlying45 1 (fun _ => rfl) (by decide) (by kernel_rfl) h0 b0
  rw [show Try.prog.bytesOf 5 = 1 by kernel_rfl] at c0
  have k1 := h1
  have lt1 : ∀ x ∈ p1, x.block < W.heap.size := by obtain ⟨m, hm⟩ := k1; exact DataW.trod_lt m _ _ _ hm
  have b1 : sizedB Try.prog 27 d1 := fun n hn => of_decide_eq_true (List.all_eq_true.1 hsz n (DataW.weights_mem_each (j := 1) (t := 27) rfl rfl n hn))
  obtain ⟨a1, len1, cap1, rfl⟩ := okWide_slice Try.underlying27 (hval 1 27 v1 rfl rfl)
  obtain ⟨l1, w1, g1, c1⟩ := open_rowsB (small_sized (H := H) (P := Try.prog)) felemAsk Try.underlying27 5 (fun _ => rfl) (by decide) (by kernel_rfl) h1 b1
  rw [show Try.prog.bytesOf 31 = 48 by kernel_rfl] at c1
  have k2 := h2
  have lt2 : ∀ x ∈ p2, x.block < W.heap.size := by obtain ⟨m, hm⟩ := k2; exact DataW.trod_lt m _ _ _ hm
  have b2 : sizedB Try.prog 3 d2 := fun n hn => of_decide_eq_true (List.all_eq_true.1 hsz n (DataW.weights_mem_each (j := 2) (t := 3) rfl rfl n hn))
  obtain ⟨a2, rfl, e2, f2, w2⟩ := open_int Try.underlying3 (hval 2 3 v2 rfl rfl) h2
  have k3 := h3
  have lt3 : ∀ x ∈ p3, x.block < W.heap.size := by obtain ⟨m, hm⟩ := k3; exact DataW.trod_lt m _ _ _ hm
  have b3 : sizedB Try.prog 5 d3 := fun n hn => of_decide_eq_true (List.all_eq_true.1 hsz n (DataW.weights_mem_each (j := 3) (t := 5) rfl rfl n hn))
  obtain ⟨a3, rfl, e3, f3, w3⟩ := open_int Try.underlying5 (hval 3 5 v3 rfl rfl) h3
  refine (walk W _ l0 w0 g0 c0 _ l1 w1 g1 c1 a2 w2 a3 w3).mono fun e W' ⟨he, bel⟩ => ?_
  subst he
  exact ⟨_, rfl, _, _, _, [], _, [], hW', trodAll_mk1 (shut_bool Try.underlying4 _), (trodAll_cons_mk (Below.trod laidOut (by kernel_rfl) (of_decide_eq_true (by kernel_rfl)) k0 bel lt0) (trodAll_cons_mk (Below.trod laidOut (by kernel_rfl) (of_decide_eq_true (by kernel_rfl)) k1 bel lt1) (trodAll_cons_mk (Below.trod laidOut (by kernel_rfl) (of_decide_eq_true (by kernel_rfl)) k2 bel lt2) (trodAll_cons_mk (Below.trod laidOut (by kernel_rfl) (of_decide_eq_true (by kernel_rfl)) k3 bel lt3) trodAll_mk0)))), rfl, bel.frame _, fun h => by cases h⟩

set_option maxRecDepth 100000 in
theorem lifted (os : Os) (started : os.Started) (H : Type) (enc : TypeId × Value → H) :
    ReturnsInHanded {} Try.checked os 6 .any (Rows.ballotLoadsSpec.pre6 enc Try.prog Try.f6 Rows.ballotLoadsRow.domain false) (Rows.ballotLoadsSpec.post enc Try.prog Try.f6 false true false false) := by
  refine returnsInHanded_of_change_sized (C := Try.checked) own started (by kernel_rfl) Try.func6
    (ChangeSpec.witness6 (enc := enc) (C := Try.checked) false ⟨#[], #[.slice none 0 0, .slice none 0 0, .int .i64 0, .int .u8 0], []⟩ 8 (by kernel_rfl) (by kernel_rfl) (by kernel_rfl) (by kernel_rfl)) ?_
  intro W base args ds gs before hval hW _ hsz _
  exact contract H enc W base args ds gs before hval hsz hW

theorem over : Rows.ballotLoadsRow.holds Try.pinned (OpenSpec.ofChange Rows.ballotLoadsSpec) :=
  OpenClaim.holds_of_wide 6 Try.f6 rfl rfl rfl rfl rfl rfl rfl ⟨rfl, rfl, rfl, rfl, rfl⟩ rfl rfl rfl rfl rfl (by kernel_rfl) Try.func6 (by kernel_rfl)
    (of_decide_eq_true (by kernel_rfl)) (by unfold Func.isWrapper; first | (rw [if_pos (by decide +kernel)]; kernel_rfl) | (rw [if_neg (by decide +kernel)]; exact ⟨rfl, rfl⟩))
    (fun os started H enc _ => lifted os started H enc)

end Go.Proofs.Ythekgecaeblbbaa.BallotLoads
namespace Go.Proofs.Ythekgecaeblbbaa
theorem BallotLoads_holds : Rows.BallotLoadsSaid := BallotLoads.over
end Go.Proofs.Ythekgecaeblbbaa
