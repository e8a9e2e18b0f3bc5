/- RangesPlays: the statement's frame: how the arguments are read, and read again behind the call. -/
import Derived.Test.YtkaibekeokkpnaaBound
import Derived.Test.YtkaibekeokkpnaaRows
import Derived.Test.YtkaibekeokkpnaaOpen
import Derived.Test.YtkaibekeokkpnaaBoundSl
import Derived.Test.YtkaibekeokkpnaaRangesPlaysWalk
import Derived.JoinedCond
namespace Go.Proofs.Ytkaibekeokkpnaa.RangesPlays
open Go.ChangeShapes Go.WideShapes Go.ChangeAt Go.RowKit Go.Cv
open Go.ChangeMaps (open_string shut_string)
set_option linter.unusedVariables false

theorem own : ownKnob Try.prog.godebug = none := by kernel_rfl
theorem laidOut : laidOutB Try.prog = true := by kernel_rfl

abbrev fcellsPart (a : Int × Int × Int) : List Value := [.int .i64 a.1, .int .i64 a.2.1, .int .i64 a.2.2]
abbrev fgoodPart (a : Int × Int × Int) : Prop := (Lit.int .i64 a.1).wf = true ∧ (Lit.int .i64 a.2.1).wf = true ∧ (Lit.int .i64 a.2.2).wf = true
set_option maxRecDepth 100000 in
theorem felemPart {H : Type} : ElemB Try.prog (sizedB (H := H) Try.prog) 41 fcellsPart fgoodPart := by
  intro enc w base sp held fuel cs x h hb
  obtain ⟨xs, n, _, rfl, hl, hlen, hf⟩ := DataW.trod_struct Try.underlying41 h
  have hc : Try.prog.cellsOf 41 = 3 := by kernel_rfl
  rw [hc] at hl
  match cs, hl with
  | [c0, c1, c2], _ =>
    have hx : xs.length = 3 := hlen
    obtain ⟨y0, hy0⟩ : ∃ y, xs[0]? = some y := ⟨_, List.getElem?_eq_getElem (by omega)⟩
    have e0 : DataW.trod enc Try.prog w base sp held n 3 ((([c0, c1, c2] : List Value).drop 0).take (Try.prog.cellsOf 3)) = xs[0]? := hf 0 _ rfl
    rw [hy0, show Try.prog.cellsOf 3 = 1 from by kernel_rfl] at e0
    simp only [List.drop_zero, List.take_succ_cons, List.take_zero] at e0
    obtain ⟨y1, hy1⟩ : ∃ y, xs[1]? = some y := ⟨_, List.getElem?_eq_getElem (by omega)⟩
    have e1 : DataW.trod enc Try.prog w base sp held n 3 ((([c0, c1, c2] : List Value).drop 1).take (Try.prog.cellsOf 3)) = xs[1]? := hf 1 _ rfl
    rw [hy1, show Try.prog.cellsOf 3 = 1 from by kernel_rfl] at e1
    simp only [List.drop_succ_cons, List.drop_zero, List.take_succ_cons, List.take_zero] at e1
    obtain ⟨y2, hy2⟩ : ∃ y, xs[2]? = some y := ⟨_, List.getElem?_eq_getElem (by omega)⟩
    have e2 : DataW.trod enc Try.prog w base sp held n 3 ((([c0, c1, c2] : List Value).drop 2).take (Try.prog.cellsOf 3)) = xs[2]? := hf 2 _ rfl
    rw [hy2, show Try.prog.cellsOf 3 = 1 from by kernel_rfl] at e2
    simp only [List.drop_succ_cons, List.drop_zero, List.take_succ_cons, List.take_zero] at e2
    obtain ⟨z0, h0, _, w0⟩ := DataW.trod_int Try.underlying3 e0
    obtain ⟨z1, h1, _, w1⟩ := DataW.trod_int Try.underlying3 e1
    obtain ⟨z2, h2, _, w2⟩ := DataW.trod_int Try.underlying3 e2
    simp only [List.cons.injEq, and_true] at h0 h1 h2
    subst h0
    subst h1
    subst h2
    exact ⟨(z0, z1, z2), rfl, w0, w1, w2⟩

abbrev fcellsMap (a : Int × (Option Addr × Nat × List (Int × Int × Int))) : List Value := [.int .i64 a.1, .slice a.2.1 a.2.2.2.length a.2.2.1]
abbrev fgoodMap (w : World) (a : Int × (Option Addr × Nat × List (Int × Int × Int))) : Prop := (Lit.int .i64 a.1).wf = true ∧ (Reads w (.slice a.2.1 a.2.2.2.length a.2.2.1) a.2.2.2.length 3 (a.2.2.2.flatMap (fcellsPart)) ∧ (∀ z ∈ a.2.2.2, fgoodPart z) ∧ a.2.2.2.length * 24 ≤ 140737488351232)
set_option maxRecDepth 100000 in
theorem felemMap {H : Type} : ElemBW Try.prog (sizedB (H := H) Try.prog) 25 fcellsMap fgoodMap := by
  intro enc w base sp held fuel cs x h hb
  obtain ⟨xs, n, _, rfl, hl, hlen, hf⟩ := DataW.trod_struct Try.underlying25 h
  have hc : Try.prog.cellsOf 25 = 2 := by kernel_rfl
  rw [hc] at hl
  match cs, hl with
  | [c0, c1], _ =>
    have hx : xs.length = 2 := hlen
    obtain ⟨y0, hy0⟩ : ∃ y, xs[0]? = some y := ⟨_, List.getElem?_eq_getElem (by omega)⟩
    have e0 : DataW.trod enc Try.prog w base sp held n 3 ((([c0, c1] : List Value).drop 0).take (Try.prog.cellsOf 3)) = xs[0]? := hf 0 _ rfl
    rw [hy0, show Try.prog.cellsOf 3 = 1 from by kernel_rfl] at e0
    simp only [List.drop_zero, List.take_succ_cons, List.take_zero] at e0
    obtain ⟨y1, hy1⟩ : ∃ y, xs[1]? = some y := ⟨_, List.getElem?_eq_getElem (by omega)⟩
    have e1 : DataW.trod enc Try.prog w base sp held n 23 ((([c0, c1] : List Value).drop 1).take (Try.prog.cellsOf 23)) = xs[1]? := hf 1 _ rfl
    rw [hy1, show Try.prog.cellsOf 23 = 1 from by kernel_rfl] at e1
    simp only [List.drop_succ_cons, List.drop_zero, List.take_succ_cons, List.take_zero] at e1
    obtain ⟨z0, h0, _, w0⟩ := DataW.trod_int Try.underlying3 e0
    have b1 := (small_sized (H := H) (P := Try.prog)).agg Try.underlying25 hb 1 _ y1.1 rfl (by rw [List.getElem?_map, hy1]; rfl)
    obtain ⟨z1, h1, w1, g1, c1⟩ := field_rowsAt (small_sized (H := H) (P := Try.prog)) (felemPart enc w base sp held) Try.underlying23 3 (fun _ => rfl) (by decide) (by kernel_rfl) e1 b1
    rw [show Try.prog.bytesOf 41 = 24 by kernel_rfl] at c1
    replace w1 := And.intro w1 (And.intro g1 c1)
    simp only [List.cons.injEq, and_true] at h0 h1
    subst h0
    subst h1
    exact ⟨(z0, z1), rfl, w0, w1⟩

abbrev fcellsA3 (a : Int × Int × Int) : List Value := [.int .i64 a.1, .int .i64 a.2.1, .int .i64 a.2.2]
abbrev fgoodA3 (a : Int × Int × Int) : Prop := (Lit.int .i64 a.1).wf = true ∧ (Lit.int .i64 a.2.1).wf = true ∧ (Lit.int .i64 a.2.2).wf = true
set_option maxRecDepth 100000 in
theorem felemA3 {H : Type} : ElemB Try.prog (sizedB (H := H) Try.prog) 38 fcellsA3 fgoodA3 := by
  intro enc w base sp held fuel cs x h hb
  obtain ⟨xs, n, _, rfl, hl, hlen, hf⟩ := DataW.trod_array Try.underlying38 h
  have hc : Try.prog.cellsOf 38 = 3 := by kernel_rfl
  rw [hc] at hl
  match cs, hl with
  | [c0, c1, c2], _ =>
    have hx : xs.length = 3 := hlen
    obtain ⟨y0, hy0⟩ : ∃ y, xs[0]? = some y := ⟨_, List.getElem?_eq_getElem (by omega)⟩
    have e0 : DataW.trod enc Try.prog w base sp held n 3 ((([c0, c1, c2] : List Value).drop (0 * Try.prog.cellsOf 3)).take (Try.prog.cellsOf 3)) = xs[0]? := hf 0 (by decide)
    rw [hy0, show Try.prog.cellsOf 3 = 1 from by kernel_rfl] at e0
    simp only [Nat.zero_mul, List.drop_zero, List.take_succ_cons, List.take_zero] at e0
    obtain ⟨y1, hy1⟩ : ∃ y, xs[1]? = some y := ⟨_, List.getElem?_eq_getElem (by omega)⟩
    have e1 : DataW.trod enc Try.prog w base sp held n 3 ((([c0, c1, c2] : List Value).drop (1 * Try.prog.cellsOf 3)).take (Try.prog.cellsOf 3)) = xs[1]? := hf 1 (by decide)
    rw [hy1, show Try.prog.cellsOf 3 = 1 from by kernel_rfl] at e1
    simp only [Nat.mul_one, List.drop_succ_cons, List.drop_zero, List.take_succ_cons, List.take_zero] at e1
    obtain ⟨y2, hy2⟩ : ∃ y, xs[2]? = some y := ⟨_, List.getElem?_eq_getElem (by omega)⟩
    have e2 : DataW.trod enc Try.prog w base sp held n 3 ((([c0, c1, c2] : List Value).drop (2 * Try.prog.cellsOf 3)).take (Try.prog.cellsOf 3)) = xs[2]? := hf 2 (by decide)
    rw [hy2, show Try.prog.cellsOf 3 = 1 from by kernel_rfl] at e2
    simp only [Nat.mul_one, List.drop_succ_cons, List.drop_zero, List.take_succ_cons, List.take_zero] at e2
    obtain ⟨z0, h0, _, w0⟩ := DataW.trod_int Try.underlying3 e0
    obtain ⟨z1, h1, _, w1⟩ := DataW.trod_int Try.underlying3 e1
    obtain ⟨z2, h2, _, w2⟩ := DataW.trod_int Try.underlying3 e2
    simp only [List.cons.injEq, and_true] at h0 h1 h2
    subst h0
    subst h1
    subst h2
    exact ⟨(z0, z1, z2), rfl, w0, w1, w2⟩

abbrev fcellsOp (a : Int × ByteArray × ByteArray × Int) : List Value := [.int .i64 a.1, .string a.2.1, .string a.2.2.1, .int .i64 a.2.2.2]
abbrev fgoodOp (a : Int × ByteArray × ByteArray × Int) : Prop := (Lit.int .i64 a.1).wf = true ∧ a.2.1.size ≤ 140737488351232 ∧ a.2.2.1.size ≤ 140737488351232 ∧ (Lit.int .i64 a.2.2.2).wf = true
set_option maxRecDepth 100000 in
theorem felemOp {H : Type} : ElemB Try.prog (sizedB (H := H) Try.prog) 47 fcellsOp fgoodOp := by
  intro enc w base sp held fuel cs x h hb
  obtain ⟨xs, n, _, rfl, hl, hlen, hf⟩ := DataW.trod_struct Try.underlying47 h
  have hc : Try.prog.cellsOf 47 = 4 := by kernel_rfl
  rw [hc] at hl
  match cs, hl with
  | [c0, c1, c2, c3], _ =>
    have hx : xs.length = 4 := hlen
    obtain ⟨y0, hy0⟩ : ∃ y, xs[0]? = some y := ⟨_, List.getElem?_eq_getElem (by omega)⟩
    have e0 : DataW.trod enc Try.prog w base sp held n 3 ((([c0, c1, c2, c3] : List Value).drop 0).take (Try.prog.cellsOf 3)) = xs[0]? := hf 0 _ rfl
    rw [hy0, show Try.prog.cellsOf 3 = 1 from by kernel_rfl] at e0
    simp only [List.drop_zero, List.take_succ_cons, List.take_zero] at e0
    obtain ⟨y1, hy1⟩ : ∃ y, xs[1]? = some y := ⟨_, List.getElem?_eq_getElem (by omega)⟩
    have e1 : DataW.trod enc Try.prog w base sp held n 9 ((([c0, c1, c2, c3] : List Value).drop 1).take (Try.prog.cellsOf 9)) = xs[1]? := hf 1 _ rfl
    rw [hy1, show Try.prog.cellsOf 9 = 1 from by kernel_rfl] at e1
    simp only [List.drop_succ_cons, List.drop_zero, List.take_succ_cons, List.take_zero] at e1
    obtain ⟨y2, hy2⟩ : ∃ y, xs[2]? = some y := ⟨_, List.getElem?_eq_getElem (by omega)⟩
    have e2 : DataW.trod enc Try.prog w base sp held n 9 ((([c0, c1, c2, c3] : List Value).drop 2).take (Try.prog.cellsOf 9)) = xs[2]? := hf 2 _ rfl
    rw [hy2, show Try.prog.cellsOf 9 = 1 from by kernel_rfl] at e2
    simp only [List.drop_succ_cons, List.drop_zero, List.take_succ_cons, List.take_zero] at e2
    obtain ⟨y3, hy3⟩ : ∃ y, xs[3]? = some y := ⟨_, List.getElem?_eq_getElem (by omega)⟩
    have e3 : DataW.trod enc Try.prog w base sp held n 3 ((([c0, c1, c2, c3] : List Value).drop 3).take (Try.prog.cellsOf 3)) = xs[3]? := hf 3 _ rfl
    rw [hy3, show Try.prog.cellsOf 3 = 1 from by kernel_rfl] at e3
    simp only [List.drop_succ_cons, List.drop_zero, List.take_succ_cons, List.take_zero] at e3
    obtain ⟨z0, h0, _, w0⟩ := DataW.trod_int Try.underlying3 e0
    have b1 := (small_sized (H := H) (P := Try.prog)).agg Try.underlying47 hb 1 _ y1.1 rfl (by rw [List.getElem?_map, hy1]; rfl)
    obtain ⟨z1, h1, x1, _⟩ := DataW.trod_string Try.underlying9 e1
    have w1 : z1.size ≤ 140737488351232 := by rw [x1] at b1; exact (small_sized (H := H) (P := Try.prog)).text b1
    have b2 := (small_sized (H := H) (P := Try.prog)).agg Try.underlying47 hb 2 _ y2.1 rfl (by rw [List.getElem?_map, hy2]; rfl)
    obtain ⟨z2, h2, x2, _⟩ := DataW.trod_string Try.underlying9 e2
    have w2 : z2.size ≤ 140737488351232 := by rw [x2] at b2; exact (small_sized (H := H) (P := Try.prog)).text b2
    obtain ⟨z3, h3, _, w3⟩ := DataW.trod_int Try.underlying3 e3
    simp only [List.cons.injEq, and_true] at h0 h1 h2 h3
    subst h0
    subst h1
    subst h2
    subst h3
    exact ⟨(z0, z1, z2, z3), rfl, w0, w1, w2, w3⟩

set_option maxRecDepth 100000 in
theorem contract (H : Type) (enc : TypeId × Value → H) (W : World) (base : Nat) (args : Array Value) (ds gs : List (DataW H)) (before : List MemPlace)
    (hval : ∀ (j : Nat) t v, Try.f7.params[j]? = some t → args[j]? = some v → Value.okWide Try.prog W .any base t v)
    (hsz : (DataW.weightsEach Try.prog (Try.f7.params.toList ++ Rows.rangesPlaysSpec.plain.varTypes Try.prog) (ds ++ gs)).all (· ≤ reachBytes) = true)
    (hW : DataW.Whole enc Try.prog Try.f7.params.toList Rows.rangesPlaysSpec.vars false W args.toList ds gs before) :
    Calls Try.prog 7 args W fun e W' => ∃ v, e = .returned v ∧ Rows.rangesPlaysSpec.post enc Try.prog Try.f7 false true false false W args v W' := by
  have hW' := hW
  obtain ⟨p, q, hA0, hV, rfl, hfz, hnd⟩ := hW
  have hA : DataW.TrodAll enc Try.prog W 0 (fun _ => true) true Try.f7.params.toList args.toList ds p := hA0
  rw [Try.params7] at hA hval
  obtain ⟨v0, vs0, d0, ds0, p0, q0, hargs, rfl, rfl, h0, r0⟩ := trodAll_cons hA
  obtain ⟨v1, vs1, d1, ds1, p1, q1, rfl, rfl, rfl, h1, r1⟩ := trodAll_cons r0
  obtain ⟨v2, vs2, d2, ds2, p2, q2, rfl, rfl, rfl, h2, r2⟩ := trodAll_cons r1
  obtain ⟨v3, vs3, d3, ds3, p3, q3, rfl, rfl, rfl, h3, r3⟩ := trodAll_cons r2
  obtain ⟨rfl, rfl, rfl⟩ := trodAll_nil r3
  obtain rfl : args = #[v0, v1, v2, v3] := by cases args; simp_all
  obtain ⟨rfl, rfl⟩ := trodVars_none hV
  have k0 := h0
  have lt0 : ∀ x ∈ p0, x.block < W.heap.size := by obtain ⟨m, hm⟩ := k0; exact DataW.trod_lt m _ _ _ hm
  have b0 : sizedB Try.prog 25 d0 := fun n hn => of_decide_eq_true (List.all_eq_true.1 hsz n (DataW.weights_mem_each (j := 0) (t := 25) rfl rfl n hn))
  obtain ⟨cs0, rfl, hz0⟩ := okWide_struct Try.underlying25 (hval 0 25 v0 rfl rfl)
  obtain ⟨fu0, hu0⟩ := h0
  obtain ⟨x0, hx0, g0⟩ := felemMap enc W _ _ _ _ _ _ hu0 b0
  obtain rfl : cs0 = (fcellsMap x0).toArray := by rw [← hx0]; simp [Value.cells]
  have k1 := h1
  have lt1 : ∀ x ∈ p1, x.block < W.heap.size := by obtain ⟨m, hm⟩ := k1; exact DataW.trod_lt m _ _ _ hm
  have b1 : sizedB Try.prog 3 d1 := fun n hn => of_decide_eq_true (List.all_eq_true.1 hsz n (DataW.weights_mem_each (j := 1) (t := 3) rfl rfl n hn))
  obtain ⟨a1, rfl, e1, f1, w1⟩ := open_int Try.underlying3 (hval 1 3 v1 rfl rfl) h1
  have k2 := h2
  have lt2 : ∀ x ∈ p2, x.block < W.heap.size := by obtain ⟨m, hm⟩ := k2; exact DataW.trod_lt m _ _ _ hm
  have b2 : sizedB Try.prog 36 d2 := fun n hn => of_decide_eq_true (List.all_eq_true.1 hsz n (DataW.weights_mem_each (j := 2) (t := 36) rfl rfl n hn))
  obtain ⟨a2, len2, cap2, rfl⟩ := okWide_slice Try.underlying36 (hval 2 36 v2 rfl rfl)
  obtain ⟨l2, w2, g2, c2⟩ := open_rowsB (small_sized (H := H) (P := Try.prog)) felemA3 Try.underlying36 3 (fun _ => rfl) (by decide) (by kernel_rfl) h2 b2
  rw [show Try.prog.bytesOf 38 = 24 by kernel_rfl] at c2
  have k3 := h3
  have lt3 : ∀ x ∈ p3, x.block < W.heap.size := by obtain ⟨m, hm⟩ := k3; exact DataW.trod_lt m _ _ _ hm
  have b3 : sizedB Try.prog 37 d3 := fun n hn => of_decide_eq_true (List.all_eq_true.1 hsz n (DataW.weights_mem_each (j := 3) (t := 37) rfl rfl n hn))
  obtain ⟨a3, len3, cap3, rfl⟩ := okWide_slice Try.underlying37 (hval 3 37 v3 rfl rfl)
  obtain ⟨l3, w3, g3, c3⟩ := open_rowsB (small_sized (H := H) (P := Try.prog)) felemOp Try.underlying37 4 (fun _ => rfl) (by decide) (by kernel_rfl) h3 b3
  rw [show Try.prog.bytesOf 47 = 48 by kernel_rfl] at c3
  refine (walk W x0.1 x0.2.1 x0.2.2.2.length x0.2.2.1 x0.2.2.2 g0.2.1 rfl g0.2.2.2 a1 w1 _ l2 w2 (by unfold maxLen; unfold reachBytes at c2; omega) _ l3 w3 (fun a ha => Nat.le_trans (g3 a ha).2.1 (by unfold maxLen; omega)) (by unfold maxLen; unfold reachBytes at c3; omega)).mono fun e W' ⟨he, bel⟩ => ?_
  subst he
  exact ⟨_, rfl, _, _, _, [], _, [], hW', trodAll_mk1 (shut_bool Try.underlying4 _), (trodAll_cons_mk (Below.trod laidOut (by kernel_rfl) (of_decide_eq_true (by kernel_rfl)) k0 bel lt0) (trodAll_cons_mk (Below.trod laidOut (by kernel_rfl) (of_decide_eq_true (by kernel_rfl)) k1 bel lt1) (trodAll_cons_mk (Below.trod laidOut (by kernel_rfl) (of_decide_eq_true (by kernel_rfl)) k2 bel lt2) (trodAll_cons_mk (Below.trod laidOut (by kernel_rfl) (of_decide_eq_true (by kernel_rfl)) k3 bel lt3) trodAll_mk0)))), rfl, bel.frame _, fun h => by cases h⟩

set_option maxRecDepth 100000 in
theorem lifted (os : Os) (started : os.Started) (H : Type) (enc : TypeId × Value → H) :
    ReturnsInHanded {} Try.checked os 7 .any (Rows.rangesPlaysSpec.pre6 enc Try.prog Try.f7 Rows.rangesPlaysRow.domain false) (Rows.rangesPlaysSpec.post enc Try.prog Try.f7 false true false false) := by
  refine returnsInHanded_of_change_sized (C := Try.checked) own started (by kernel_rfl) Try.func7
    (ChangeSpec.witness6 (enc := enc) (C := Try.checked) false ⟨#[], #[.agg #[.int .i64 0, .slice none 0 0], .int .i64 0, .slice none 0 0, .slice none 0 0], []⟩ 8 (by kernel_rfl) (by kernel_rfl) (by kernel_rfl) (by kernel_rfl)) ?_
  intro W base args ds gs before hval hW _ hsz _
  exact contract H enc W base args ds gs before hval hsz hW

theorem over : Rows.rangesPlaysRow.holds Try.pinned (OpenSpec.ofChange Rows.rangesPlaysSpec) :=
  OpenClaim.holds_of_wide 7 Try.f7 rfl rfl rfl rfl rfl rfl rfl ⟨rfl, rfl, rfl, rfl, rfl⟩ rfl rfl rfl rfl rfl (by kernel_rfl) Try.func7 (by kernel_rfl)
    (of_decide_eq_true (by kernel_rfl)) (by unfold Func.isWrapper; first | (rw [if_pos (by decide +kernel)]; kernel_rfl) | (rw [if_neg (by decide +kernel)]; exact ⟨rfl, rfl⟩))
    (fun os started H enc _ => lifted os started H enc)

end Go.Proofs.Ytkaibekeokkpnaa.RangesPlays
namespace Go.Proofs.Ytkaibekeokkpnaa
theorem RangesPlays_holds : Rows.RangesPlaysSaid := RangesPlays.over
end Go.Proofs.Ytkaibekeokkpnaa
