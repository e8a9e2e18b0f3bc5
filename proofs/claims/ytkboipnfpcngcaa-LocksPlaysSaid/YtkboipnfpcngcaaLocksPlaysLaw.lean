/- LocksPlays: the statement's frame: how the arguments are read, and read again behind the call. -/
import Derived.Test.YtkboipnfpcngcaaRows
import Derived.Test.YtkboipnfpcngcaaOpen
import Derived.Test.YtkboipnfpcngcaaOpenSl
import Derived.Test.YtkboipnfpcngcaaLocksPlaysWalk
import Derived.JoinedCond
namespace Go.Proofs.Ytkboipnfpcngcaa.LocksPlays
open Go.ChangeShapes Go.WideShapes Go.ChangeAt Go.RowKit Go.Cv
open Go.ChangeMaps (open_string shut_string)
set_option linter.unusedVariables false

theorem own : ownKnob Try.prog.godebug = none := by kernel_rfl
theorem laidOut : laidOutB Try.prog = true := by kernel_rfl

abbrev fcellsWant (a : ByteArray × Bool) : List Value := [.string a.1, .bool a.2]
abbrev fgoodWant (w : World) (a : ByteArray × Bool) : Prop := a.1.size ≤ maxLen ∧ True
set_option maxRecDepth 100000 in
theorem felemWant : Elem Try.prog 27 fcellsWant fgoodWant := by
  intro H enc w base sp held fuel cs x h
  obtain ⟨xs, n, _, rfl, hl, hlen, hf⟩ := DataW.trod_struct Try.underlying27 h
  have hc : Try.prog.cellsOf 27 = 2 := by kernel_rfl
  rw [hc] at hl
  match cs, hl with
  | [c0, c1], _ =>
    have hx : xs.length = 2 := hlen
    obtain ⟨y0, hy0⟩ : ∃ y, xs[0]? = some y := ⟨_, List.getElem?_eq_getElem (by omega)⟩
    have e0 : DataW.trod enc Try.prog w base sp held n 9 ((([c0, c1] : List Value).drop 0).take (Try.prog.cellsOf 9)) = xs[0]? := hf 0 _ rfl
    rw [hy0, show Try.prog.cellsOf 9 = 1 from by kernel_rfl] at e0
    simp only [List.drop_zero, List.take_succ_cons, List.take_zero] at e0
    obtain ⟨y1, hy1⟩ : ∃ y, xs[1]? = some y := ⟨_, List.getElem?_eq_getElem (by omega)⟩
    have e1 : DataW.trod enc Try.prog w base sp held n 4 ((([c0, c1] : List Value).drop 1).take (Try.prog.cellsOf 4)) = xs[1]? := hf 1 _ rfl
    rw [hy1, show Try.prog.cellsOf 4 = 1 from by kernel_rfl] at e1
    simp only [List.drop_succ_cons, List.drop_zero, List.take_succ_cons, List.take_zero] at e1
    obtain ⟨z0, h0, _, w0⟩ := DataW.trod_string Try.underlying9 e0
    obtain ⟨z1, h1, _⟩ := DataW.trod_bool Try.underlying4 e1
    simp only [List.cons.injEq, and_true] at h0 h1
    subst h0
    subst h1
    exact ⟨(z0, z1), rfl, w0, trivial⟩

abbrev fcellsAsk (a : Int × ByteArray × (Option Addr × Nat × List (ByteArray × Bool))) : List Value := [.int .i64 a.1, .string a.2.1, .slice a.2.2.1 a.2.2.2.2.length a.2.2.2.1]
abbrev fgoodAsk (w : World) (a : Int × ByteArray × (Option Addr × Nat × List (ByteArray × Bool))) : Prop := (Lit.int .i64 a.1).wf = true ∧ a.2.1.size ≤ maxLen ∧ (Reads w (.slice a.2.2.1 a.2.2.2.2.length a.2.2.2.1) a.2.2.2.2.length 2 (a.2.2.2.2.flatMap (fcellsWant)) ∧ (∀ z ∈ a.2.2.2.2, fgoodWant w z) ∧ a.2.2.2.2.length ≤ maxLen)
set_option maxRecDepth 100000 in
theorem felemAsk : Elem Try.prog 36 fcellsAsk fgoodAsk := by
  intro H enc w base sp held fuel cs x h
  obtain ⟨xs, n, _, rfl, hl, hlen, hf⟩ := DataW.trod_struct Try.underlying36 h
  have hc : Try.prog.cellsOf 36 = 3 := by kernel_rfl
  rw [hc] at hl
  match cs, hl with
  | [c0, c1, c2], _ =>
    have hx : xs.length = 3 := hlen
    obtain ⟨y0, hy0⟩ : ∃ y, xs[0]? = some y := ⟨_, List.getElem?_eq_getElem (by omega)⟩
    have e0 : DataW.trod enc Try.prog w base sp held n 3 ((([c0, c1, c2] : List Value).drop 0).take (Try.prog.cellsOf 3)) = xs[0]? := hf 0 _ rfl
    rw [hy0, show Try.prog.cellsOf 3 = 1 from by kernel_rfl] at e0
    simp only [List.drop_zero, List.take_succ_cons, List.take_zero] at e0
    obtain ⟨y1, hy1⟩ : ∃ y, xs[1]? = some y := ⟨_, List.getElem?_eq_getElem (by omega)⟩
    have e1 : DataW.trod enc Try.prog w base sp held n 9 ((([c0, c1, c2] : List Value).drop 1).take (Try.prog.cellsOf 9)) = xs[1]? := hf 1 _ rfl
    rw [hy1, show Try.prog.cellsOf 9 = 1 from by kernel_rfl] at e1
    simp only [List.drop_succ_cons, List.drop_zero, List.take_succ_cons, List.take_zero] at e1
    obtain ⟨y2, hy2⟩ : ∃ y, xs[2]? = some y := ⟨_, List.getElem?_eq_getElem (by omega)⟩
    have e2 : DataW.trod enc Try.prog w base sp held n 28 ((([c0, c1, c2] : List Value).drop 2).take (Try.prog.cellsOf 28)) = xs[2]? := hf 2 _ rfl
    rw [hy2, show Try.prog.cellsOf 28 = 1 from by kernel_rfl] at e2
    simp only [List.drop_succ_cons, List.drop_zero, List.take_succ_cons, List.take_zero] at e2
    obtain ⟨z0, h0, _, w0⟩ := DataW.trod_int Try.underlying3 e0
    obtain ⟨z1, h1, _, w1⟩ := DataW.trod_string Try.underlying9 e1
    obtain ⟨z2, h2, w2⟩ := field_rows felemWant Try.underlying28 2 (fun _ => rfl) (by decide) (by kernel_rfl) e2
    simp only [List.cons.injEq, and_true] at h0 h1 h2
    subst h0
    subst h1
    subst h2
    exact ⟨(z0, z1, z2), rfl, w0, w1, w2⟩

set_option maxRecDepth 100000 in
theorem contract (H : Type) (enc : TypeId × Value → H) (W : World) (base : Nat) (args : Array Value) (ds gs : List (DataW H)) (before : List MemPlace)
    (hval : ∀ (j : Nat) t v, Try.f6.params[j]? = some t → args[j]? = some v → Value.okWide Try.prog W .any base t v)
    (hW : DataW.Whole enc Try.prog Try.f6.params.toList Rows.locksPlaysSpec.vars false W args.toList ds gs before) :
    Calls Try.prog 6 args W fun e W' => ∃ v, e = .returned v ∧ Rows.locksPlaysSpec.post enc Try.prog Try.f6 false true false false W args v W' := by
  have hW' := hW
  obtain ⟨p, q, hA0, hV, rfl, hfz, hnd⟩ := hW
  have hA : DataW.TrodAll enc Try.prog W 0 (fun _ => true) true Try.f6.params.toList args.toList ds p := hA0
  rw [Try.params6] at hA hval
  obtain ⟨v0, vs0, d0, ds0, p0, q0, hargs, rfl, rfl, h0, r0⟩ := trodAll_cons hA
  obtain ⟨v1, vs1, d1, ds1, p1, q1, rfl, rfl, rfl, h1, r1⟩ := trodAll_cons r0
  obtain ⟨rfl, rfl, rfl⟩ := trodAll_nil r1
  obtain rfl : args = #[v0, v1] := by cases args; simp_all
  obtain ⟨rfl, rfl⟩ := trodVars_none hV
  have k0 := h0
  have lt0 : ∀ x ∈ p0, x.block < W.heap.size := by obtain ⟨m, hm⟩ := k0; exact DataW.trod_lt m _ _ _ hm
  obtain ⟨a0, len0, cap0, rfl⟩ := okWide_slice Try.underlying34 (hval 0 34 v0 rfl rfl)
  obtain ⟨l0, w0, g0, c0⟩ := open_rows felemAsk Try.underlying34 3 (fun _ => rfl) (by decide) (by kernel_rfl) h0
  have k1 := h1
  have lt1 : ∀ x ∈ p1, x.block < W.heap.size := by obtain ⟨m, hm⟩ := k1; exact DataW.trod_lt m _ _ _ hm
  obtain ⟨a1, len1, cap1, rfl⟩ := okWide_slice Try.underlying30 (hval 1 30 v1 rfl rfl)
  obtain ⟨l1, w1, g1, c1⟩ := open_rows (elem_string Try.underlying9) Try.underlying30 1 (fun _ => rfl) (by decide) (by kernel_rfl) h1
  refine (walk W _ l0 w0 g0 c0 _ l1 w1 g1 c1).mono fun e W' ⟨he, bel⟩ => ?_
  subst he
  exact ⟨_, rfl, _, _, _, [], _, [], hW', trodAll_mk1 (shut_bool Try.underlying4 _), (trodAll_cons_mk (Below.trod laidOut (by kernel_rfl) (of_decide_eq_true (by kernel_rfl)) k0 bel lt0) (trodAll_cons_mk (Below.trod laidOut (by kernel_rfl) (of_decide_eq_true (by kernel_rfl)) k1 bel lt1) trodAll_mk0)), rfl, bel.frame _, fun h => by cases h⟩

set_option maxRecDepth 100000 in
theorem lifted (os : Os) (started : os.Started) (H : Type) (enc : TypeId × Value → H) :
    ReturnsInHanded {} Try.checked os 6 .any (Rows.locksPlaysSpec.pre6 enc Try.prog Try.f6 Rows.locksPlaysRow.domain false) (Rows.locksPlaysSpec.post enc Try.prog Try.f6 false true false false) := by
  refine returnsInHanded_of_change (C := Try.checked) own started (by kernel_rfl) Try.func6
    (ChangeSpec.witness6 (enc := enc) (C := Try.checked) false ⟨#[], #[.slice none 0 0, .slice none 0 0], []⟩ 8 (by kernel_rfl) (by kernel_rfl) (by kernel_rfl) (by kernel_rfl)) ?_
  intro W base args ds gs before hval hW _ _
  exact contract H enc W base args ds gs before hval hW

theorem over : Rows.locksPlaysRow.holds Try.pinned (OpenSpec.ofChange Rows.locksPlaysSpec) :=
  OpenClaim.holds_of_wide 6 Try.f6 rfl rfl rfl rfl rfl rfl rfl ⟨rfl, rfl, rfl, rfl, rfl⟩ rfl rfl rfl rfl rfl (by kernel_rfl) Try.func6 (by kernel_rfl)
    (of_decide_eq_true (by kernel_rfl)) (by unfold Func.isWrapper; first | (rw [if_pos (by decide +kernel)]; kernel_rfl) | (rw [if_neg (by decide +kernel)]; exact ⟨rfl, rfl⟩))
    (fun os started H enc _ => lifted os started H enc)

end Go.Proofs.Ytkboipnfpcngcaa.LocksPlays
namespace Go.Proofs.Ytkboipnfpcngcaa
theorem LocksPlays_holds : Rows.LocksPlaysSaid := LocksPlays.over
end Go.Proofs.Ytkboipnfpcngcaa
