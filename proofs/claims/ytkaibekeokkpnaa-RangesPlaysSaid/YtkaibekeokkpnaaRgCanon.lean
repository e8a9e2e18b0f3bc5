/- Of no program: right parts are those that their hashes make. -/
import Derived.Test.YtkaibekeokkpnaaRgPlain
namespace Go.Cv
set_option linter.unusedVariables false

theorem chk_none : ∀ (l : List P3) (s e : Int × Int), chk l s = some e → ∀ x, e.1 ≤ x → own? l x = none
  | [], s, e, h, x, hx => rfl
  | p :: r, s, e, h, x, hx => by
    rw [chk] at h
    by_cases hb : bad s p
    · rw [if_pos hb] at h; cases h
    · rw [if_neg hb] at h
      have hle := (chk_le r _ e h).1
      simp only at hle
      rw [own_cons, if_neg (by rw [holds_iff]; omega)]
      exact chk_none r _ e h x hx
theorem chk_snoc {l : List P3} {p : P3} {s e : Int × Int} (h : chk (l ++ [p]) s = some e) : ∃ m, chk l s = some m ∧ ¬ bad m p ∧ e = (p.2.1, p.2.2) := by
  rw [chk_append] at h
  cases hc : chk l s with
  | none => rw [hc] at h; cases h
  | some m =>
    rw [hc] at h
    have h : chk [p] m = some e := h
    rw [chk] at h
    by_cases hb : bad m p
    · rw [if_pos hb] at h; cases h
    · rw [if_neg hb] at h
      exact ⟨m, rfl, hb, (Option.some.inj h).symm⟩
theorem canon_step (f : Int → Int) (l : List P3) (a : Nat) (g last : Int) (h0 : pz f a = l) (hl : (l = [] ∧ a = 0) ∨ ∃ i p, l = i ++ [p] ∧ p.2.2 = last) (hg : l ≠ [] → g ≠ last) : ∀ j : Nat, (∀ x : Nat, a ≤ x → x < a + (j + 1) → f (x : Int) = g) → pz f (a + (j + 1)) = l ++ [((a : Int), (a : Int) + (j : Int) + 1, g)]
  | 0, hf => by
    show pzStep (pz f a) (a : Int) (f (a : Int)) = _
    rw [h0, hf a (Nat.le_refl _) (by omega)]
    rcases hl with ⟨e, _⟩ | ⟨i, p, e, hp⟩
    · subst e; rw [pzStep_nil]; simp
    · rw [e, pzStep_new _ _ _ _ (by rw [hp]; exact fun e2 => hg (by rw [e]; simp) e2.symm)]; simp
  | j + 1, hf => by
    have ih := canon_step f l a g last h0 hl hg j (fun x h1 h2 => hf x h1 (by omega))
    show pzStep (pz f (a + (j + 1))) ((a + (j + 1) : Nat) : Int) (f ((a + (j + 1) : Nat) : Int)) = _
    rw [ih, hf (a + (j + 1)) (by omega) (by omega), pzStep_same _ _ _ _ rfl]
    have : ((a + (j + 1) : Nat) : Int) + 1 = (a : Int) + ((j + 1 : Nat) : Int) + 1 := by omega
    rw [this]
theorem canon_rev : ∀ (r : List P3) (s : Int × Int), chk r.reverse (0, -1) = some s → ∀ f : Int → Int, (∀ x, 0 ≤ x → x < s.1 → own? r.reverse x = some (f x)) →
    pz f s.1.toNat = r.reverse ∧ 0 ≤ s.1 ∧ ((r = [] ∧ s = (0, -1)) ∨ ∃ i p, r.reverse = i ++ [p] ∧ p.2.2 = s.2)
  | [], s, h, f, hf => by
    cases h
    exact ⟨rfl, Int.le_refl _, .inl ⟨rfl, rfl⟩⟩
  | p :: r, s, h, f, hf => by
    rw [List.reverse_cons] at h hf ⊢
    obtain ⟨m, hm, hb, rfl⟩ := chk_snoc h
    have hle := chk_le _ _ _ hm
    simp only at hle hf
    unfold bad at hb
    have hown : ∀ x, 0 ≤ x → x < m.1 → own? r.reverse x = some (f x) := fun x h0 h1 => by
      obtain ⟨g, hg, _⟩ := chk_own _ _ _ hm x h0 h1
      have := hf x h0 (by omega)
      rw [own_append, hg] at this
      rw [hg]; exact this
    obtain ⟨i1, i2, i3⟩ := canon_rev r m hm f hown
    refine ⟨?_, by omega, .inr ⟨r.reverse, p, rfl, rfl⟩⟩
    obtain ⟨a, ha⟩ : ∃ a : Nat, m.1 = (a : Int) := ⟨m.1.toNat, by omega⟩
    obtain ⟨j, hj⟩ : ∃ j : Nat, p.2.1 = (a : Int) + (j : Int) + 1 := ⟨(p.2.1 - a - 1).toNat, by omega⟩
    have hat : m.1.toNat = a := by omega
    rw [hat] at i1
    have hg : ∀ x : Nat, a ≤ x → x < a + (j + 1) → f (x : Int) = p.2.2 := fun x h1 h2 => by
      have h3 := hf (x : Int) (by omega) (by omega)
      rw [own_append, chk_none _ _ _ hm (x : Int) (by omega), Option.none_or, own_cons, if_pos (by rw [holds_iff]; omega)] at h3
      exact (Option.some.inj h3).symm
    have hl : (r.reverse = [] ∧ a = 0) ∨ ∃ i p, r.reverse = i ++ [p] ∧ p.2.2 = m.2 := by
      rcases i3 with ⟨e1, e2⟩ | h
      · left; subst e1; rw [e2] at ha; exact ⟨rfl, by simpa using ha.symm⟩
      · exact .inr h
    have h9 := canon_step f r.reverse a p.2.2 m.2 i1 hl (fun _ e => by omega) j hg
    rw [show p.2.1.toNat = a + (j + 1) by omega, h9]
    have e1 : p.1 = (a : Int) := by omega
    rw [← hj, ← e1]
/-- A right Map's parts are those that its owners make. -/
theorem right_canon {ep : Int} {l : List P3} (h : rightM ep l = true) (f : Int → Int) (hf : ∀ x, 0 ≤ x → x < 256 → f x = ownF l x) : pz f 256 = l := by
  obtain ⟨_, _, g, hc⟩ := right_chk h
  have := canon_rev l.reverse (256, g) (by rw [List.reverse_reverse]; exact hc) f (fun x h0 h1 => by
    rw [List.reverse_reverse, hf x h0 h1]; exact (right_own h x h0 h1).1)
  rw [List.reverse_reverse] at this
  exact this.1
end Go.Cv
