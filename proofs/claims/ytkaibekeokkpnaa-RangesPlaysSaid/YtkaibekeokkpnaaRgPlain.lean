/- Of no program: maps of hashes as parts: what is right, who owns, what a Move makes. -/
import Derived.WalkKit
namespace Go.Cv
set_option linter.unusedVariables false

/-- A part: lo, hi, group. -/
abbrev P3 := Int × Int × Int
/-- Is a hash within a part? -/
def holds (h : Int) (x : P3) : Bool := decide (x.1 ≤ h) && decide (h < x.2.1)
theorem holds_iff (h : Int) (x : P3) : holds h x = true ↔ x.1 ≤ h ∧ h < x.2.1 := by simp [holds]
theorem holds_no (h : Int) (x : P3) : holds h x = false ↔ ¬ (x.1 ≤ h ∧ h < x.2.1) := by
  rw [← holds_iff]; simp
def own? (l : List P3) (h : Int) : Option Int := (l.find? (holds h)).map (·.2.2)
/-- The group of a hash. -/
def ownF (l : List P3) (h : Int) : Int := (own? l h).getD 0

/-- May a part follow? -/
def bad (s : Int × Int) (p : P3) : Prop := p.1 ≠ s.1 ∨ p.2.1 ≤ p.1 ∨ 256 < p.2.1 ∨ p.2.2 < 0 ∨ 3 ≤ p.2.2 ∨ p.2.2 = s.2
instance (s : Int × Int) (p : P3) : Decidable (bad s p) := by unfold bad; infer_instance
def chk : List P3 → Int × Int → Option (Int × Int)
  | [], s => some s
  | p :: r, s => if bad s p then none else chk r (p.2.1, p.2.2)
def rightT (l : List P3) (at_ last : Int) : Bool := match chk l (at_, last) with | some e => decide (e.1 = 256) | none => false
def rightM (ep : Int) (l : List P3) : Bool := if ep < 1 ∨ 1073741824 < ep then false else rightT l 0 (-1)
theorem rightT_nil (a g : Int) : rightT [] a g = decide (a = 256) := rfl
theorem rightT_bad (p : P3) (r : List P3) (a g : Int) (h : bad (a, g) p) : rightT (p :: r) a g = false := by simp [rightT, chk, h]
theorem rightT_ok (p : P3) (r : List P3) (a g : Int) (h : ¬ bad (a, g) p) : rightT (p :: r) a g = rightT r p.2.1 p.2.2 := by simp [rightT, chk, h]
theorem chk_append : ∀ (l r : List P3) (s : Int × Int), chk (l ++ r) s = (chk l s).bind (chk r)
  | [], r, s => rfl
  | p :: l, r, s => by
    rw [List.cons_append, chk, chk]
    split
    · rfl
    · exact chk_append l r _
theorem chk_le : ∀ (l : List P3) (s e : Int × Int), chk l s = some e → s.1 ≤ e.1 ∧ (l.length : Int) ≤ e.1 - s.1 ∧ (s.1 ≤ 256 → e.1 ≤ 256)
  | [], s, e, h => by cases h; simp
  | p :: r, s, e, h => by
    rw [chk] at h
    by_cases hb : bad s p
    · rw [if_pos hb] at h; cases h
    · rw [if_neg hb] at h
      obtain ⟨h1, h2, h3⟩ := chk_le r _ e h
      unfold bad at hb
      simp only [List.length_cons] at *
      omega
theorem own_cons (p : P3) (r : List P3) (h : Int) : own? (p :: r) h = if holds h p = true then some p.2.2 else own? r h := by
  unfold own?; rw [List.find?_cons]
  cases hp : holds h p <;> simp
/-- What is right covers all. -/
theorem chk_own : ∀ (l : List P3) (s e : Int × Int), chk l s = some e → ∀ h, s.1 ≤ h → h < e.1 → ∃ g, own? l h = some g ∧ 0 ≤ g ∧ g < 3
  | [], s, e, h, x, h1, h2 => by cases h; omega
  | p :: r, s, e, h, x, h1, h2 => by
    rw [chk] at h
    by_cases hb : bad s p
    · rw [if_pos hb] at h; cases h
    · rw [if_neg hb] at h
      rw [own_cons]
      unfold bad at hb
      by_cases hx : holds x p = true
      · rw [if_pos hx]; exact ⟨_, rfl, by omega, by omega⟩
      · rw [if_neg hx]
        have : ¬ (p.1 ≤ x ∧ x < p.2.1) := fun hh => hx ((holds_iff x p).2 hh)
        exact chk_own r _ e h x (by show p.2.1 ≤ x; omega) h2
theorem right_chk {ep : Int} {l : List P3} (h : rightM ep l = true) : 1 ≤ ep ∧ ep ≤ 1073741824 ∧ ∃ g, chk l (0, -1) = some (256, g) := by
  unfold rightM at h
  split at h
  · cases h
  · refine ⟨by omega, by omega, ?_⟩
    unfold rightT at h
    cases hc : chk l (0, -1) with
    | none => rw [hc] at h; cases h
    | some e =>
      rw [hc] at h
      obtain ⟨a, g⟩ := e
      have : a = 256 := by simpa using h
      exact ⟨g, by rw [this]⟩
theorem chk_right {ep : Int} {l : List P3} (h1 : 1 ≤ ep) (h2 : ep ≤ 1073741824) {g : Int} (h : chk l (0, -1) = some (256, g)) : rightM ep l = true := by
  unfold rightM rightT; rw [if_neg (by omega), h]; rfl
theorem right_len {ep : Int} {l : List P3} (h : rightM ep l = true) : l.length ≤ 256 := by
  obtain ⟨_, _, g, hc⟩ := right_chk h
  have := (chk_le l _ _ hc).2.1
  simp only at this; omega
theorem right_own {ep : Int} {l : List P3} (h : rightM ep l = true) (x : Int) (h0 : 0 ≤ x) (h1 : x < 256) : own? l x = some (ownF l x) ∧ 0 ≤ ownF l x ∧ ownF l x < 3 := by
  obtain ⟨_, _, g, hc⟩ := right_chk h
  obtain ⟨g, hg, h2, h3⟩ := chk_own l _ _ hc x h0 h1
  unfold ownF; rw [hg]; exact ⟨rfl, h2, h3⟩
theorem own_find {l : List P3} {x : Int} {g : Int} (h : own? l x = some g) : (l.find? (holds x)).isSome = true := by
  unfold own? at h
  cases hf : l.find? (holds x) with
  | none => rw [hf] at h; cases h
  | some y => rfl

/-- One hash more. -/
def pzStep (ps : List P3) (k g : Int) : List P3 :=
  match ps.getLast? with
  | some p => if p.2.2 = g then ps.dropLast ++ [(p.1, k + 1, g)] else ps ++ [(k, k + 1, g)]
  | none => [(k, k + 1, g)]
def pz (f : Int → Int) : Nat → List P3
  | 0 => []
  | k + 1 => pzStep (pz f k) k (f k)

theorem own_append (l r : List P3) (h : Int) : own? (l ++ r) h = (own? l h).or (own? r h) := by
  unfold own?; rw [List.find?_append]
  cases l.find? (holds h) <;> simp
theorem pzStep_same (i : List P3) (p : P3) (k g : Int) (h : p.2.2 = g) : pzStep (i ++ [p]) k g = i ++ [(p.1, k + 1, g)] := by
  simp [pzStep, h]
theorem pzStep_new (i : List P3) (p : P3) (k g : Int) (h : ¬ p.2.2 = g) : pzStep (i ++ [p]) k g = i ++ [p] ++ [(k, k + 1, g)] := by
  simp [pzStep, h]
theorem pzStep_nil (k g : Int) : pzStep [] k g = [(k, k + 1, g)] := rfl

def pzLast (f : Int → Int) (k : Nat) : Int := if k = 0 then -1 else f ((k : Int) - 1)
/-- What the hashes' parts are. -/
theorem pz_inv (f : Int → Int) (hf : ∀ h, 0 ≤ h → h < 256 → 0 ≤ f h ∧ f h < 3) : ∀ k : Nat, k ≤ 256 →
    (∀ h : Int, 0 ≤ h → h < (k : Int) → own? (pz f k) h = some (f h)) ∧ (∀ h : Int, (k : Int) ≤ h → own? (pz f k) h = none) ∧ chk (pz f k) (0, -1) = some ((k : Int), pzLast f k)
  | 0, _ => ⟨fun h h0 h1 => by omega, fun h _ => rfl, rfl⟩
  | k + 1, hk => by
    obtain ⟨h1, h2, h3⟩ := pz_inv f hf k (by omega)
    have hfk := hf k (by omega) (by omega)
    have hl : pzLast f (k + 1) = f k := by simp [pzLast]
    rw [hl, pz]
    have hnew : (∀ h : Int, own? [((k : Int), (k : Int) + 1, f k)] h = if h = (k : Int) then some (f k) else none) := fun h => by
      rw [own_cons]
      by_cases e : h = (k : Int)
      · rw [if_pos e, if_pos (by rw [holds_iff]; simp only; omega)]
      · rw [if_neg e, if_neg (by rw [holds_iff]; simp only; omega)]; rfl
    have happ : (pz f k = [] ∨ ∃ i p, pz f k = i ++ [p] ∧ ¬ p.2.2 = f k) → pzStep (pz f k) k (f k) = pz f k ++ [((k : Int), (k : Int) + 1, f k)] := by
      rintro (e | ⟨i, p, e, hp⟩)
      · rw [e]; rfl
      · rw [e, pzStep_new _ _ _ _ hp]
    have hgo : (¬ f k = pzLast f k) → pzStep (pz f k) k (f k) = pz f k ++ [((k : Int), (k : Int) + 1, f k)] →
        (∀ h : Int, 0 ≤ h → h < ((k + 1 : Nat) : Int) → own? (pzStep (pz f k) k (f k)) h = some (f h)) ∧ (∀ h : Int, ((k + 1 : Nat) : Int) ≤ h → own? (pzStep (pz f k) k (f k)) h = none) ∧ chk (pzStep (pz f k) k (f k)) (0, -1) = some (((k + 1 : Nat) : Int), f k) := by
      intro hne e
      rw [e]
      refine ⟨fun h ha hb => ?_, fun h ha => ?_, ?_⟩
      · rw [own_append, hnew]
        by_cases e : h = (k : Int)
        · subst e; rw [h2 _ (by omega)]; simp
        · rw [h1 h ha (by omega)]; rfl
      · rw [own_append, hnew, h2 _ (by omega), if_neg (by omega)]; rfl
      · rw [chk_append, h3]
        show chk [_] _ = _
        rw [chk, if_neg (by unfold bad; simp only; omega)]
        simp [chk]
    rcases List.eq_nil_or_concat (pz f k) with e | ⟨i, p, e⟩
    · have hk0 : k = 0 := by
        rw [e] at h3
        have : (0 : Int) = (k : Int) := by simp only [chk, Option.some.injEq, Prod.mk.injEq] at h3; exact h3.1
        omega
      exact hgo (by rw [hk0]; show ¬ f ((0 : Nat) : Int) = -1; rw [hk0] at hfk; omega) (happ (.inl e))
    · rw [List.concat_eq_append] at e
      by_cases hp : p.2.2 = f k
      · rw [e, pzStep_same _ _ _ _ hp]
        rw [e] at h1 h2 h3
        rw [chk_append] at h3
        cases hc : chk i (0, -1) with
        | none => rw [hc] at h3; cases h3
        | some s =>
          rw [hc] at h3
          have h4 : chk [p] s = some ((k : Int), pzLast f k) := h3
          rw [chk] at h4
          by_cases hb : bad s p
          · rw [if_pos hb] at h4; cases h4
          · rw [if_neg hb] at h4
            simp only [chk, Option.some.injEq, Prod.mk.injEq] at h4
            obtain ⟨h5, h6⟩ := h4
            unfold bad at hb
            have hi : ∀ h : Int, (k : Int) ≤ h → own? i h = none := fun h hh => by
              have := h2 h hh
              rw [own_append] at this
              cases ho : own? i h with
              | none => rfl
              | some y => rw [ho] at this; cases this
            refine ⟨fun h ha hb2 => ?_, fun h ha => ?_, ?_⟩
            · rw [own_append]
              by_cases e2 : h = (k : Int)
              · subst e2
                rw [hi _ (by omega), own_cons, if_pos (by rw [holds_iff]; simp only; omega)]; rfl
              · have := h1 h ha (by omega)
                rw [own_append, own_cons] at this
                rw [own_cons]
                have hh : holds h (p.1, (k : Int) + 1, f k) = holds h p := by
                  rw [Bool.eq_iff_iff, holds_iff, holds_iff]; simp only; omega
                rw [hh, ← hp]; exact this
            · rw [own_append, hi _ (by omega), own_cons, if_neg (by rw [holds_iff]; simp only; omega)]; rfl
            · rw [chk_append, hc]
              show chk [_] s = _
              rw [chk, if_neg (by unfold bad; simp only; omega)]
              simp [chk]
      · refine hgo (fun hh => hp ?_) (happ (.inr ⟨i, p, e, hp⟩))
        rw [e, chk_append] at h3
        cases hc : chk i (0, -1) with
        | none => rw [hc] at h3; cases h3
        | some s =>
          rw [hc] at h3
          have h4 : chk [p] s = some ((k : Int), pzLast f k) := h3
          rw [chk] at h4
          by_cases hb : bad s p
          · rw [if_pos hb] at h4; cases h4
          · rw [if_neg hb] at h4
            simp only [chk, Option.some.injEq, Prod.mk.injEq] at h4
            rw [h4.2, hh]
theorem pz_right (f : Int → Int) (hf : ∀ h, 0 ≤ h → h < 256 → 0 ≤ f h ∧ f h < 3) {ep : Int} (h1 : 1 ≤ ep) (h2 : ep ≤ 1073741824) : rightM ep (pz f 256) = true :=
  chk_right h1 h2 (pz_inv f hf 256 (Nat.le_refl _)).2.2
theorem pz_own (f : Int → Int) (hf : ∀ h, 0 ≤ h → h < 256 → 0 ≤ f h ∧ f h < 3) (h : Int) (h0 : 0 ≤ h) (h1 : h < 256) : ownF (pz f 256) h = f h := by
  unfold ownF; rw [(pz_inv f hf 256 (Nat.le_refl _)).1 h h0 h1]; rfl
theorem pz_len (f : Int → Int) : ∀ k, (pz f k).length ≤ k
  | 0 => Nat.le_refl _
  | k + 1 => by
    have := pz_len f k
    rw [pz, pzStep]
    split
    · split
      · simp; omega
      · simp; omega
    · simp
/-- All of one group: one part. -/
theorem pz_const (f : Int → Int) (g : Int) (hf : ∀ h, 0 ≤ h → f h = g) : ∀ k : Nat, pz f (k + 1) = [(0, (k : Int) + 1, g)]
  | 0 => by simp [pz, pzStep, hf]
  | k + 1 => by
    have := hf ((k + 1 : Nat) : Int) (by omega)
    rw [pz, pz_const f g hf k, this]
    simp [pzStep]
/-- What Move makes. -/
def moveF (l : List P3) (lo hi g : Int) (h : Int) : Int := if lo ≤ h ∧ h < hi then g else ownF l h
def moveP (l : List P3) (lo hi g : Int) : List P3 := pz (moveF l lo hi g) 256
/-- What New makes. -/
def newP (n : Int) : Nat → List P3
  | 0 => []
  | k + 1 => newP n k ++ [((256 * (k : Int)).tdiv n, (256 * ((k : Int) + 1)).tdiv n, (k : Int))]
theorem newP_len (n : Int) : ∀ k, (newP n k).length = k
  | 0 => rfl
  | k + 1 => by rw [newP, List.length_append, newP_len n k]; rfl
theorem new_right : rightM 1 (newP 1 1) = true ∧ rightM 1 (newP 2 2) = true ∧ rightM 1 (newP 3 3) = true := by decide
theorem newP_right (n : Nat) (h : 1 ≤ n ∧ n ≤ 3) : rightM 1 (newP n n) = true := by
  obtain ⟨a, b, c⟩ := new_right
  have : n = 1 ∨ n = 2 ∨ n = 3 := by omega
  rcases this with rfl | rfl | rfl
  · exact a
  · exact b
  · exact c
theorem moveF_in {ep : Int} {l : List P3} (h : rightM ep l = true) (lo hi g : Int) (hg : 0 ≤ g ∧ g < 3) (x : Int) (h0 : 0 ≤ x) (h1 : x < 256) : 0 ≤ moveF l lo hi g x ∧ moveF l lo hi g x < 3 := by
  unfold moveF; split
  · exact hg
  · exact (right_own h x h0 h1).2
theorem move_right {ep : Int} {l : List P3} (h : rightM ep l = true) (hep : ep < 1073741824) (lo hi g : Int) (hg : 0 ≤ g ∧ g < 3) : rightM (ep + 1) (moveP l lo hi g) = true :=
  pz_right _ (moveF_in h lo hi g hg) (by have := (right_chk h).1; omega) (by omega)
theorem move_own {ep : Int} {l : List P3} (h : rightM ep l = true) (lo hi g : Int) (hg : 0 ≤ g ∧ g < 3) (x : Int) (h0 : 0 ≤ x) (h1 : x < 256) : ownF (moveP l lo hi g) x = moveF l lo hi g x :=
  pz_own _ (moveF_in h lo hi g hg) x h0 h1
theorem move_all {ep : Int} {l : List P3} (h : rightM ep l = true) (g : Int) : moveP l 0 256 g = [(0, 256, g)] := by
  have : ∀ k : Nat, k ≤ 255 → pz (moveF l 0 256 g) (k + 1) = [(0, (k : Int) + 1, g)] := by
    intro k hk
    induction k with
    | zero => simp [pz, pzStep, moveF]
    | succ k ih =>
      rw [pz, ih (by omega)]
      have : moveF l 0 256 g ((k + 1 : Nat) : Int) = g := by unfold moveF; rw [if_pos (by omega)]
      rw [this]; simp [pzStep]
  exact this 255 (by omega)
/-- What the document's New makes. -/
def newF (n : Int) : Nat → Int → Int
  | 0 => fun _ => 0
  | k + 1 => fun h => if (256 * (k : Int)).tdiv n ≤ h then (k : Int) else newF n k h
set_option maxRecDepth 100000 in
theorem new_pz1 : newP 1 1 = pz (newF 1 1) 256 := by decide
set_option maxRecDepth 100000 in
theorem new_pz2 : newP 2 2 = pz (newF 2 2) 256 := by decide
set_option maxRecDepth 100000 in
theorem new_pz3 : newP 3 3 = pz (newF 3 3) 256 := by decide
end Go.Cv
