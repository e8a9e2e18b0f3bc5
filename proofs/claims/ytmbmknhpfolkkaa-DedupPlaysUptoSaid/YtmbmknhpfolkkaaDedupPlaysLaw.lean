/- DedupPlays: the statement's frame: how the arguments are read, and read again behind the call. -/
import Derived.Test.YtmbmknhpfolkkaaBound
import Derived.Test.YtmbmknhpfolkkaaRows
import Derived.Test.YtmbmknhpfolkkaaOpen
import Derived.Test.YtmbmknhpfolkkaaDedupPlaysWalk
import Derived.JoinedCond
namespace Go.Proofs.Ytmbmknhpfolkkaa.DedupPlays
open Go.ChangeShapes Go.WideShapes Go.ChangeAt Go.RowKit Go.Cv
open Go.ChangeMaps (open_string shut_string)
set_option linter.unusedVariables false

theorem own : ownKnob Try.prog.godebug = none := by kernel_rfl
theorem laidOut : laidOutB Try.prog = true := by kernel_rfl

abbrev fcellsAsk (a : Int × Int × ByteArray × ByteArray) : List Value := [.int .i64 a.1, .int .i64 a.2.1, .string a.2.2.1, .string a.2.2.2]
abbrev fgoodAsk (a : Int × Int × ByteArray × ByteArray) : Prop := (Lit.int .i64 a.1).wf = true ∧ (Lit.int .i64 a.2.1).wf = true ∧ a.2.2.1.size ≤ 1048576 ∧ a.2.2.2.size ≤ 1048576
set_option maxRecDepth 100000 in
theorem felemAsk {H : Type} : ElemB Try.prog (uptoB (H := H)) 43 fcellsAsk fgoodAsk := by
  intro enc w base sp held fuel cs x h hb
  obtain ⟨xs, n, _, rfl, hl, hlen, hf⟩ := DataW.trod_struct Try.underlying43 h
  have hc : Try.prog.cellsOf 43 = 4 := by kernel_rfl
  rw [hc] at hl
  match cs, hl with
  | [c0, c1, c2, c3], _ =>
    have hx : xs.length = 4 := hlen
    obtain ⟨y0, hy0⟩ : ∃ y, xs[0]? = some y := ⟨_, List.getElem?_eq_getElem (by omega)⟩
    have e0 : DataW.trod enc Try.prog w base sp held n 3 ((([c0, c1, c2, c3] : List Value).drop 0).take (Try.prog.cellsOf 3)) = xs[0]? := hf 0 _ rfl
    rw [hy0, show Try.prog.cellsOf 3 = 1 from by kernel_rfl] at e0
    simp only [List.drop_zero, List.take_succ_cons, List.take_zero] at e0
    obtain ⟨y1, hy1⟩ : ∃ y, xs[1]? = some y := ⟨_, List.getElem?_eq_getElem (by omega)⟩
    have e1 : DataW.trod enc Try.prog w base sp held n 3 ((([c0, c1, c2, c3] : List Value).drop 1).take (Try.prog.cellsOf 3)) = xs[1]? := hf 1 _ rfl
    rw [hy1, show Try.prog.cellsOf 3 = 1 from by kernel_rfl] at e1
    simp only [List.drop_succ_cons, List.drop_zero, List.take_succ_cons, List.take_zero] at e1
    obtain ⟨y2, hy2⟩ : ∃ y, xs[2]? = some y := ⟨_, List.getElem?_eq_getElem (by omega)⟩
    have e2 : DataW.trod enc Try.prog w base sp held n 9 ((([c0, c1, c2, c3] : List Value).drop 2).take (Try.prog.cellsOf 9)) = xs[2]? := hf 2 _ rfl
    rw [hy2, show Try.prog.cellsOf 9 = 1 from by kernel_rfl] at e2
    simp only [List.drop_succ_cons, List.drop_zero, List.take_succ_cons, List.take_zero] at e2
    obtain ⟨y3, hy3⟩ : ∃ y, xs[3]? = some y := ⟨_, List.getElem?_eq_getElem (by omega)⟩
    have e3 : DataW.trod enc Try.prog w base sp held n 9 ((([c0, c1, c2, c3] : List Value).drop 3).take (Try.prog.cellsOf 9)) = xs[3]? := hf 3 _ rfl
    rw [hy3, show Try.prog.cellsOf 9 = 1 from by kernel_rfl] at e3
    simp only [List.drop_succ_cons, List.drop_zero, List.take_succ_cons, List.take_zero] at e3
    obtain ⟨z0, h0, _, w0⟩ := DataW.trod_int Try.underlying3 e0
    obtain ⟨z1, h1, _, w1⟩ := DataW.trod_int Try.underlying3 e1
    have b2 := (small_upto (H := H) (P := Try.prog)).agg Try.underlying43 hb 2 _ y2.1 rfl (by rw [List.getElem?_map, hy2]; rfl)
    obtain ⟨z2, h2, x2, _⟩ := DataW.trod_string Try.underlying9 e2
    have w2 : z2.size ≤ 1048576 := by rw [x2] at b2; exact (small_upto (H := H) (P := Try.prog)).text b2
    have b3 := (small_upto (H := H) (P := Try.prog)).agg Try.underlying43 hb 3 _ y3.1 rfl (by rw [List.getElem?_map, hy3]; rfl)
    obtain ⟨z3, h3, x3, _⟩ := DataW.trod_string Try.underlying9 e3
    have w3 : z3.size ≤ 1048576 := by rw [x3] at b3; exact (small_upto (H := H) (P := Try.prog)).text b3
    simp only [List.cons.injEq, and_true] at h0 h1 h2 h3
    subst h0
    subst h1
    subst h2
    subst h3
    exact ⟨(z0, z1, z2, z3), rfl, w0, w1, w2, w3⟩

set_option maxRecDepth 100000 in
theorem contract (H : Type) (enc : TypeId × Value → H) (W : World) (base : Nat) (args : Array Value) (ds gs : List (DataW H)) (before : List MemPlace)
    (hval : ∀ (j : Nat) t v, Try.f6.params[j]? = some t → args[j]? = some v → Value.okWide Try.prog W .any base t v)
    (hk : Rows.uptoSmall H (ds ++ gs) = true)
    (hW : DataW.Whole enc Try.prog Try.f6.params.toList Rows.dedupPlaysSpec.vars false W args.toList ds gs before) :
    Calls Try.prog 6 args W fun e W' => ∃ v, e = .returned v ∧ Rows.dedupPlaysSpec.post enc Try.prog Try.f6 false true false false W args v W' := by
  have hW' := hW
  obtain ⟨p, q, hA0, hV, rfl, hfz, hnd⟩ := hW
  have hA : DataW.TrodAll enc Try.prog W 0 (fun _ => true) true Try.f6.params.toList args.toList ds p := hA0
  rw [Try.params6] at hA hval
  obtain ⟨v0, vs0, d0, ds0, p0, q0, hargs, rfl, rfl, h0, r0⟩ := trodAll_cons hA
  obtain ⟨v1, vs1, d1, ds1, p1, q1, rfl, rfl, rfl, h1, r1⟩ := trodAll_cons r0
  obtain ⟨rfl, rfl, rfl⟩ := trodAll_nil r1
  obtain rfl : args = #[v0, v1] := by cases args; simp_all
  obtain ⟨rfl, rfl⟩ := trodVars_none hV
  have k0 := h0
  have lt0 : ∀ x ∈ p0, x.block < W.heap.size := by obtain ⟨m, hm⟩ := k0; exact DataW.trod_lt m _ _ _ hm
  have b0 : uptoB 3 d0 := Nat.le_trans (bulk_mem (by simp)) (of_decide_eq_true hk)
  obtain ⟨a0, rfl, e0, f0, w0⟩ := open_int Try.underlying3 (hval 0 3 v0 rfl rfl) h0
  have k1 := h1
  have lt1 : ∀ x ∈ p1, x.block < W.heap.size := by obtain ⟨m, hm⟩ := k1; exact DataW.trod_lt m _ _ _ hm
  have b1 : uptoB 39 d1 := Nat.le_trans (bulk_mem (by simp)) (of_decide_eq_true hk)
  obtain ⟨a1, len1, cap1, rfl⟩ := okWide_slice Try.underlying39 (hval 1 39 v1 rfl rfl)
  obtain ⟨l1, w1, g1, c1⟩ := open_rowsB (small_upto (H := H) (P := Try.prog)) felemAsk Try.underlying39 4 (fun _ => rfl) (by decide) (by kernel_rfl) h1 b1
  rw [Nat.mul_one] at c1
  refine (walk W a0 w0 _ l1 w1 g1 c1).mono fun e W' ⟨he, bel⟩ => ?_
  subst he
  exact ⟨_, rfl, _, _, _, [], _, [], hW', trodAll_mk1 (shut_bool Try.underlying4 _), (trodAll_cons_mk (Below.trod laidOut (by kernel_rfl) (of_decide_eq_true (by kernel_rfl)) k0 bel lt0) (trodAll_cons_mk (Below.trod laidOut (by kernel_rfl) (of_decide_eq_true (by kernel_rfl)) k1 bel lt1) trodAll_mk0)), rfl, bel.frame _, fun h => by cases h⟩

set_option maxRecDepth 100000 in
theorem lifted (os : Os) (started : os.Started) (H : Type) (enc : TypeId × Value → H) (F : Stop.Interp) :
    ReturnsInHanded {} Try.checked os 6 .any ((Rows.OpenSpec.upto Rows.dedupPlaysSpec).pre6 enc Try.prog Try.f6 Rows.dedupPlaysUptoRow.domain false) (((Rows.OpenSpec.upto Rows.dedupPlaysSpec).at F).post enc Try.prog Try.f6 false true false false) := by
  refine returnsInHanded_of_cond (C := Try.checked) (s := Rows.OpenSpec.upto Rows.dedupPlaysSpec) (k := Rows.uptoSmall) rfl own started (by kernel_rfl) Try.func6
    (OpenSpec.witness (enc := enc) (C := Try.checked) (s := Rows.OpenSpec.upto Rows.dedupPlaysSpec) (k := Rows.uptoSmall) rfl false ⟨#[], #[.int .i64 0, .slice none 0 0], []⟩ 8 (by kernel_rfl) (by kernel_rfl) (by kernel_rfl)
      (x := ([.lit (.int .i64 0), .nil], [], [])) (by kernel_rfl) rfl (by kernel_rfl)) ?_
  intro W base args ds gs before hval hW _ hk _
  exact contract H enc W base args ds gs before hval hk hW

theorem over : Rows.dedupPlaysUptoRow.holds Try.pinned (Rows.OpenSpec.upto Rows.dedupPlaysSpec) :=
  OpenClaim.holds_of_cond 6 Try.f6 rfl rfl rfl rfl rfl rfl rfl ⟨rfl, rfl, rfl, rfl, rfl⟩ rfl rfl rfl rfl rfl (by kernel_rfl) Try.func6 (by kernel_rfl)
    (of_decide_eq_true (by kernel_rfl)) (by unfold Func.isWrapper; first | (rw [if_pos (by decide +kernel)]; kernel_rfl) | (rw [if_neg (by decide +kernel)]; exact ⟨rfl, rfl⟩))
    (fun os started H enc _ F => lifted os started H enc F)

end Go.Proofs.Ytmbmknhpfolkkaa.DedupPlays
namespace Go.Proofs.Ytmbmknhpfolkkaa
theorem DedupPlays_upto : Rows.DedupPlaysUptoSaid := DedupPlays.over
end Go.Proofs.Ytmbmknhpfolkkaa
