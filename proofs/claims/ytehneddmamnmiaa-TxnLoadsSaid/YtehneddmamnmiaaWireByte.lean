/- Byte, of the Writer and of the Reader of wire. -/
import Derived.Test.YtehneddmamnmiaaWireR
namespace Go.Proofs.Ytehneddmamnmiaa
open Go.RowKit Go.Maps Go.Cv
set_option linter.unusedVariables false

theorem byte_any (w : World) (b : Nat) (v : Value) (xs : List UInt8) (h : Wt w b v xs) (n : Int) (hx : xs.length ≤ 140737488355000) :
    Calls Try.prog 50 #[.pointer (some ⟨b, 0, none⟩), .int .i64 n] w fun e w' => e = .returned (.tuple #[]) ∧ Wrote w w' b v (xs ++ beN (u64 n) 1) := by
  have hwr := wrap_u64 n
  have hp := put_any w b v xs h (u64 n) 1 (u64_lt n) (by omega) hx
  have HP := hide hp
  clear hp
  go_enter Try.func50, Try.ntmps50
  go_wp2_with fail
  refine HP.out.mono ?_
  rintro e w1 ⟨rfl, h1⟩
  go_wp2_with fail
  go_end0
  exact ⟨rfl, h1⟩

theorem rdByte_any (w : World) (rb : Nat) (v : Value) (bs : List UInt8) (r : RS) (h : Rd w rb v bs r) :
    Calls Try.prog 57 #[.pointer (some ⟨rb, 0, none⟩)] w fun e w' => e = .returned (.int .i64 (r.get bs 1).1) ∧ Rd w' rb v bs (r.get bs 1).2 ∧ Fr (fun k => k = rb) w w' := by
  have hp := get_any w rb v bs r h 1 (by omega)
  have hlt := getN_lt' _ 1 (take_length bs r 1) (by omega)
  have hwr : IntKind.i64.wrap (getN (r.take bs 1).1 : Int) = getN (r.take bs 1).1 := IntWalk.i64_in _ (by omega)
  have HP := hide hp
  clear hp h hlt
  go_enter Try.func57, Try.ntmps57
  go_wp2_with fail
  refine HP.out.mono ?_
  rintro e w1 ⟨rfl, h1, h2⟩
  have H1 := hide h1
  have H2 := hide h2
  clear h1 h2
  go_wp2_with fail
  go_ret
  exact ⟨rfl, H1.out, H2.out⟩
end Go.Proofs.Ytehneddmamnmiaa
