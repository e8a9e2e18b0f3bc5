/- Of no program: a body that jumps back to one label. -/
import Derived.Test.YtkaibekeokkpnaaKit
import Derived.ScopeJumps
import Derived.WalkMore
namespace Go.Cv
variable {P : Program} {a : Act} {w : World} {Q : Exit → Act → World → Prop}

theorem Exit.jump_mono {l : Nat} {J J' : Act → World → Prop} (h : ∀ a w, J a w → J' a w) : ∀ (e : Exit) (a : Act) (w : World), Exit.jump l J Q e a w → Exit.jump l J' Q e a w := fun e a w hq => by
  cases e <;> first | exact hq | exact ⟨hq.1, h a w hq.2⟩

theorem wp_scope_both {c rest : Code} (l : Nat) (J : Act → World → Prop) (μ : Act → World → Nat) (hf : findLabel c l = some rest)
    (pass : ∀ a w, J a w → rest.wp P (Exit.jump l (fun a' w' => J a' w' ∧ μ a' w' < μ a w) Q) a w)
    (first : (∀ a w, J a w → rest.wp P (Exit.jump l J Q) a w) → c.wp P (Exit.jump l J Q) a w) : (Code.scope c).wp P Q a w :=
  wp_scope_jumps l J μ hf (first fun a w hJ => Code.wp_mono (Exit.jump_mono (fun _ _ h => h.1)) (pass a w hJ)) pass
theorem wp_scope_goto {c X : Code} (l : Nat) (J : Act → World → Prop) (μ : Act → World → Nat) (hf : findLabel c l = some (Code.skip.seq X))
    (pass : ∀ a w, J a w → X.wp P (Exit.jump l (fun a' w' => J a' w' ∧ μ a' w' < μ a w) Q) a w)
    (first : (∀ a w, J a w → X.wp P (Exit.jump l J Q) a w) → c.wp P (Exit.jump l J Q) a w) : (Code.scope c).wp P Q a w :=
  wp_scope_jumps l J μ hf (first fun a w hJ => Code.wp_mono (Exit.jump_mono (fun _ _ h => h.1)) (pass a w hJ)) (fun a w hJ => wp_seq (wp_skip (pass a w hJ)))
end Go.Cv
