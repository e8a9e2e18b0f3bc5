/- Open of paxos: the closure. -/
import Derived.Test.YtkefffcfiedkeaaPaxosAcc
namespace Go.Proofs.Ytkefffcfiedkeaa
open Go.RowKit Go.Maps Go.Cv
set_option linter.unusedVariables false

/-- Is a slot decided? -/
def decB (s : PS) (i : Int) : Bool := match pkAt s.ks i with | some x => decide (s.nodes < 2 * (x.ns.length : Int)) | none => false

set_option maxRecDepth 100000 in
theorem open1_any (w : World) (bx pb : Nat) (mo : Mo) (n : Nat) (s : PS) (h : Pr w pb mo n s) (hb : w.cell? ⟨bx, 0, none⟩ = some (.pointer (some ⟨pb, 0, none⟩))) (slot : Int) (hs : -9223372036854775808 ≤ slot ∧ slot ≤ 9223372036854775807) :
    Calls Try.prog 32 #[.int .i64 slot, .pointer (some ⟨bx, 0, none⟩)] w fun e w' => e = .returned (.bool (decB s slot)) ∧ ∃ q, w' = w.drewN q := by
  have c8 : w.cell? ⟨pb, 8, none⟩ = some (.map (mo.map (·.2.2))) := by rw [cell_of_block h.blk]; rfl
  have hlook := pick_look w pb mo n s h slot hs
  unfold decB
  cases hx : pkAt s.ks slot with
  | none =>
    rw [hx] at hlook
    have hlook' : (Instr.lookup 64 (.map (mo.map (·.2.2))) (.int .i64 slot) false).run Try.prog w = .ok (.pointer none) w := hlook
    generalize mo.map (·.2.2) = mq at *
    clear hlook h hx
    go_enter Try.func32, Try.ntmps32
    go_wp2_with fail
    go_quiet (fail)
    go_wp2_with fail
    go_ret
    exact ⟨rfl, nq, rfl⟩
  | some x =>
    rw [hx] at hlook
    have hlook' : (Instr.lookup 64 (.map (mo.map (·.2.2))) (.int .i64 slot) false).run Try.prog w = .ok (.pointer (some ⟨x.pb, 0, none⟩)) w := hlook
    have hxm := List.mem_of_find?_eq_some hx
    obtain ⟨qx1, qx2, qx3, qx4⟩ := h.picks x hxm
    have x1 : w.cell? ⟨x.pb, 1, none⟩ = some (.map (some x.nb)) := by rw [cell_of_block qx1]; rfl
    have hl5 : x.ns.length ≤ 5 := nodup_len 5 x.ns qx3 (fun i hi => by have := qx4 i hi; have := h.nn; exact ⟨by omega, by show i < 5; omega⟩)
    have hlen : ∀ q, (Builtin.len_ #[62] 3 #[.map (some x.nb)]).run Try.prog (w.drewN q) = .ok (.int .i64 x.ns.length) (w.drewN q) := fun q => by
      have : mapN (w.drewN q) Try.prog 3 x.nb x.ns.length (setF x.ns) := qx2.of_block rfl
      exact this.len Try.underlying62 3
    obtain ⟨m, hm⟩ : ∃ m, x.ns.length = m := ⟨_, rfl⟩
    rw [hm] at hlen hl5
    simp only [hm]
    have hmore : ∀ q, Calls Try.prog 25 #[.pointer (some ⟨pb, 0, none⟩), .int .i64 (m : Int)] (w.drewN q) fun e w' => e = .returned (.bool (decide (s.nodes < 2 * (m : Int)))) ∧ w' = w.drewN q := fun q => more_any (w.drewN q) pb mo n s (h.fr0 ((Fr.refl _ _).drewN q)) m (by omega) (by omega)
    have HMORE := hide hmore
    generalize mo.map (·.2.2) = mq at *
    clear hlook h hx hxm qx1 qx2 qx3 qx4 hmore hm
    go_enter Try.func32, Try.ntmps32
    go_wp2_with fail
    go_quiet ((go_at_call 25; exact Calls.quiet_of_same (HMORE.out _)))
    go_wp2_with fail
    go_ret
    exact ⟨rfl, nq, rfl⟩
end Go.Proofs.Ytkefffcfiedkeaa
