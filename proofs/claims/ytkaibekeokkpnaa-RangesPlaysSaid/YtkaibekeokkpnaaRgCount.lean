/- Of no program: parts one behind the other; places of all groups are all places. -/
import Derived.Test.YtkaibekeokkpnaaRgSplit
namespace Go.Proofs.Ytkaibekeokkpnaa
open Go.RowKit Go.Maps Go.Cv Go.Shelf
set_option linter.unusedVariables false

theorem chk_take : ∀ (l : List P3) (s e : Int × Int), chk l s = some e → ∀ k x, l[k]? = some x → ∃ e', chk (l.take k) s = some e' ∧ x.1 = e'.1 ∧ x.1 < x.2.1 ∧ x.2.1 ≤ 256 ∧ chk (l.take (k + 1)) s = some (x.2.1, x.2.2)
  | [], s, e, h, k, x, hx => by simp at hx
  | p :: r, s, e, h, k, x, hx => by
    rw [chk] at h
    by_cases hb : bad s p
    · rw [if_pos hb] at h; cases h
    · rw [if_neg hb] at h
      cases k with
      | zero =>
        simp at hx; subst hx
        refine ⟨s, rfl, ?_, ?_, ?_, ?_⟩
        · unfold bad at hb; omega
        · unfold bad at hb; omega
        · unfold bad at hb; omega
        · show chk [_] s = _
          rw [chk, if_neg hb]; rfl
      | succ k =>
        obtain ⟨e', h1, h2, h3, h4, h5⟩ := chk_take r _ e h k x (by simpa using hx)
        refine ⟨e', ?_, h2, h3, h4, ?_⟩
        · rw [List.take_succ_cons, chk, if_neg hb]; exact h1
        · rw [List.take_succ_cons, chk, if_neg hb]; exact h5
/-- Where part k begins. -/
def startAt (l : List P3) (k : Nat) : Int := match chk (l.take k) (0, -1) with | some e => e.1 | none => 0
theorem start_part {ep : Int} {l : List P3} (h : rightM ep l = true) {k : Nat} {x : P3} (hx : l[k]? = some x) : x.1 = startAt l k ∧ x.1 < x.2.1 ∧ x.2.1 ≤ 256 ∧ startAt l (k + 1) = x.2.1 ∧ 0 ≤ x.1 := by
  obtain ⟨_, _, g, hc⟩ := right_chk h
  obtain ⟨e', h1, h2, h3, h4, h5⟩ := chk_take l _ _ hc k x hx
  have := (chk_le _ _ _ h1).1
  unfold startAt
  rw [h1, h5]
  exact ⟨h2, h3, h4, rfl, by rw [h2]; exact this⟩
theorem start_zero (l : List P3) : startAt l 0 = 0 := rfl
theorem start_end {ep : Int} {l : List P3} (h : rightM ep l = true) : startAt l l.length = 256 := by
  obtain ⟨_, _, g, hc⟩ := right_chk h
  unfold startAt; rw [List.take_length, hc]

theorem idx_mem {h : Nat → Int} {g : Int} : ∀ {n : Nat} {x : Int}, x ∈ idx h g n → ∃ k : Nat, x = (k : Int) ∧ k < n ∧ h k = g
  | 0, x, hx => by cases hx
  | n + 1, x, hx => by
    rw [idx] at hx
    split at hx
    · rename_i e
      rcases List.mem_append.1 hx with hx | hx
      · obtain ⟨k, h1, h2, h3⟩ := idx_mem hx; exact ⟨k, h1, by omega, h3⟩
      · simp at hx; exact ⟨n, hx, by omega, e⟩
    · obtain ⟨k, h1, h2, h3⟩ := idx_mem hx; exact ⟨k, h1, by omega, h3⟩
theorem splitG_mem {h : Nat → Int} {n : Nat} : ∀ {m : Nat} {x : Int × List Int}, x ∈ splitG h n m → ∃ g : Nat, x = ((g : Int), idx h g n) ∧ g < m ∧ idx h g n ≠ []
  | 0, x, hx => by cases hx
  | m + 1, x, hx => by
    rw [splitG] at hx
    split at hx
    · obtain ⟨g, h1, h2, h3⟩ := splitG_mem hx; exact ⟨g, h1, by omega, h3⟩
    · rename_i e
      rcases List.mem_append.1 hx with hx | hx
      · obtain ⟨g, h1, h2, h3⟩ := splitG_mem hx; exact ⟨g, h1, by omega, h3⟩
      · simp at hx; exact ⟨m, hx, by omega, e⟩
def total (S : List (Int × List Int)) : Nat := (S.map (fun x => x.2.length)).sum
theorem total_snoc (S : List (Int × List Int)) (x : Int × List Int) : total (S ++ [x]) = total S + x.2.length := by simp [total]
def cnt (h : Nat → Int) (n : Nat) : Nat → Nat
  | 0 => 0
  | m + 1 => cnt h n m + (idx h m n).length
theorem total_cnt (h : Nat → Int) (n : Nat) : ∀ m, total (splitG h n m) = cnt h n m
  | 0 => rfl
  | m + 1 => by
    rw [splitG, cnt]
    split
    · rename_i e; rw [total_cnt h n m, e]; rfl
    · rw [total_snoc, total_cnt h n m]
theorem idx_succ_len (h : Nat → Int) (g : Int) (n : Nat) : (idx h g (n + 1)).length = (idx h g n).length + if h n = g then 1 else 0 := by
  rw [idx]; split
  · simp
  · rfl
theorem cnt_succ (h : Nat → Int) (n : Nat) : ∀ m : Nat, cnt h (n + 1) m = cnt h n m + if 0 ≤ h n ∧ h n < (m : Int) then 1 else 0
  | 0 => by rw [cnt, cnt, if_neg (by omega)]
  | m + 1 => by
    rw [cnt, cnt, cnt_succ h n m, idx_succ_len]
    by_cases e : h n = (m : Int)
    · rw [if_pos e, if_neg (by omega), if_pos (by omega)]; omega
    · rw [if_neg e]
      by_cases e2 : 0 ≤ h n ∧ h n < (m : Int)
      · rw [if_pos e2, if_pos (by omega)]; omega
      · rw [if_neg e2, if_neg (by omega)]; omega
theorem cnt_all (h : Nat → Int) (m : Nat) : ∀ n : Nat, (∀ k, k < n → 0 ≤ h k ∧ h k < (m : Int)) → cnt h n m = n
  | 0, _ => by
    have : ∀ m, cnt h 0 m = 0 := fun m => by
      induction m with
      | zero => rfl
      | succ m ih => rw [cnt, ih]; rfl
    exact this m
  | n + 1, hh => by
    rw [cnt_succ, cnt_all h m n (fun k hk => hh k (by omega)), if_pos (hh n (by omega))]
theorem total_take (S : List (Int × List Int)) (k : Nat) (x : Int × List Int) (h : S[k]? = some x) : total (S.take (k + 1)) = total (S.take k) + x.2.length := by
  rw [List.take_add_one, h]; exact total_snoc _ _
theorem total_le (S : List (Int × List Int)) (k : Nat) : total (S.take k) ≤ total S := by
  have e : total S = total (S.take k) + total (S.drop k) := by
    unfold total; rw [← List.sum_append, ← List.map_append, List.take_append_drop]
  omega
end Go.Proofs.Ytkaibekeokkpnaa
