/- Of no program: a body that jumps on to two labels. -/
import Derived.Test.YtehneddmamnmiaaGoto
namespace Go.Cv
variable {P : Program} {a : Act} {w : World} {Q : Exit → Act → World → Prop}

/-- As Q; by a goto to a label: J. -/
def Exit.jumps (J : Nat → Act → World → Prop) (Q : Exit → Act → World → Prop) : Exit → Act → World → Prop
  | .goto l', a, w => J l' a w
  | e, a, w => Q e a w
theorem Exit.jumps_mono {J J' : Nat → Act → World → Prop} (h : ∀ l a w, J l a w → J' l a w) : ∀ (e : Exit) (a : Act) (w : World), Exit.jumps J Q e a w → Exit.jumps J' Q e a w := fun e a w hq => by
  cases e <;> first | exact hq | exact h _ a w hq

theorem wp_scope_many {c : Code} (J : Nat → Act → World → Prop) (μ : Nat → Act → World → Nat)
    (first : c.wp P (Exit.jumps J Q) a w)
    (pass : ∀ l a w, J l a w → ∃ rest, findLabel c l = some rest ∧ rest.wp P (Exit.jumps (fun l' a' w' => J l' a' w' ∧ μ l' a' w' < μ l a w) Q) a w) : (Code.scope c).wp P Q a w := by
  intro b k cs
  have hg : ∀ l rest, findLabel c l = some rest → gotoIn l (.inScope c :: k) = some (.code rest :: .inScope c :: k) := fun l rest hf => by simp [gotoIn, hf]
  have key : ∀ n l a w rest, findLabel c l = some rest → μ l a w = n → J l a w → ∃ e a' w', Q e a' w' ∧ Arrives P (lone (b.at a (.code rest :: .inScope c :: k)) cs w) b k cs e a' w' := by
    intro n
    induction n using Nat.strongRecOn with
    | _ n ih =>
      intro l a w rest hf hn hJ
      obtain ⟨rest', hf', hp⟩ := pass l a w hJ
      rw [hf] at hf'
      cases hf'
      obtain ⟨e, a₁, w₁, hq, harr⟩ := hp b (.inScope c :: k) cs
      cases e with
      | normal => exact ⟨.normal, a₁, w₁, hq, Steps.trans harr (.one step_inScope)⟩
      | exit id => exact ⟨.exit id, a₁, w₁, hq, fun k' hk => harr k' (by simp [exitTo, hk])⟩
      | goto l' =>
        obtain ⟨hJ', hlt⟩ := hq
        obtain ⟨rest2, hf2, _⟩ := pass l' a₁ w₁ hJ'
        obtain ⟨e₂, a₂, w₂, hq₂, harr₂⟩ := ih _ (by omega) l' a₁ w₁ rest2 hf2 rfl hJ'
        exact ⟨e₂, a₂, w₂, hq₂, .of_steps (harr _ (hg _ _ hf2)) harr₂⟩
      | ret => exact ⟨_, a₁, w₁, hq, harr⟩
      | panic ch => exact ⟨_, a₁, w₁, hq, harr⟩
      | outgrown => exact ⟨_, a₁, w₁, hq, harr⟩
  obtain ⟨e, a₁, w₁, hq, harr⟩ := first b (.inScope c :: k) cs
  cases e with
  | normal => exact ⟨.normal, a₁, w₁, hq, .head step_scope (Steps.trans harr (.one step_inScope))⟩
  | exit id => exact ⟨.exit id, a₁, w₁, hq, fun k' hk => .head step_scope (harr k' (by simp [exitTo, hk]))⟩
  | goto l' =>
    obtain ⟨rest2, hf2, _⟩ := pass l' a₁ w₁ hq
    obtain ⟨e₂, a₂, w₂, hq₂, harr₂⟩ := key _ l' a₁ w₁ rest2 hf2 rfl hq
    exact ⟨e₂, a₂, w₂, hq₂, .of_steps (.head step_scope (harr _ (hg _ _ hf2))) harr₂⟩
  | ret => exact ⟨_, a₁, w₁, hq, .of_steps (.one step_scope) harr⟩
  | panic ch => exact ⟨_, a₁, w₁, hq, .of_steps (.one step_scope) harr⟩
  | outgrown => exact ⟨_, a₁, w₁, hq, .of_steps (.one step_scope) harr⟩
/-- Two labels, both further on: 1, then 0. -/
theorem wp_scope_fwd {c rest0 X : Code} (J0 : Act → World → Prop) (h0 : findLabel c 0 = some rest0) (h1 : findLabel c 1 = some (Code.skip.seq X))
    (end0 : ∀ a w, J0 a w → rest0.wp P (Exit.jumps (fun _ _ _ => False) Q) a w)
    (first : c.wp P (Exit.jumps (fun l a' w' => match l with | 0 => J0 a' w' | 1 => X.wp P (Exit.jumps (fun l a w => match l with | 0 => J0 a w | _ => False) Q) a' w' | _ => False) Q) a w) : (Code.scope c).wp P Q a w := by
  refine wp_scope_many (fun l a' w' => match l with | 0 => J0 a' w' | 1 => X.wp P (Exit.jumps (fun l a w => match l with | 0 => J0 a w | _ => False) Q) a' w' | _ => False) (fun l _ _ => l) first ?_
  intro l a' w' hJ
  match l, hJ with
  | 0, hJ => exact ⟨_, h0, Code.wp_mono (Exit.jumps_mono (fun _ _ _ hh => hh.elim)) (end0 a' w' hJ)⟩
  | 1, hJ =>
    refine ⟨_, h1, wp_seq (wp_skip (Code.wp_mono (Exit.jumps_mono (fun l a2 w2 hh => ?_)) hJ))⟩
    match l, hh with
    | 0, hh => exact ⟨hh, Nat.zero_lt_one⟩
    | n + 1, hh => exact hh.elim
end Go.Cv
