/- Of parts' bytes: what is saved is read as itself. -/
import Derived.Test.YtkaibekeokkpnaaRgLoad
import Derived.Test.YtkaibekeokkpnaaReadBack
namespace Go.Proofs.Ytkaibekeokkpnaa
open Go.RowKit Go.Maps Go.Cv Go.Shelf
set_option linter.unusedVariables false

theorem chk_small : ∀ (l : List P3) (s e : Int × Int), 0 ≤ s.1 → chk l s = some e → ∀ x ∈ l, 0 ≤ x.1 ∧ x.1 ≤ 256 ∧ 0 ≤ x.2.1 ∧ x.2.1 ≤ 256 ∧ 0 ≤ x.2.2 ∧ x.2.2 < 3
  | [], s, e, h0, h, x, hx => by cases hx
  | p :: r, s, e, h0, h, x, hx => by
    rw [chk] at h
    by_cases hb : bad s p
    · rw [if_pos hb] at h; cases h
    · rw [if_neg hb] at h
      unfold bad at hb
      rcases List.mem_cons.1 hx with rfl | hx
      · omega
      · exact chk_small r _ e (by show 0 ≤ p.2.1; omega) h x hx
theorem right_small {ep : Int} {l : List P3} (h : rightM ep l = true) : ∀ x ∈ l, 0 ≤ x.1 ∧ x.1 ≤ 256 ∧ 0 ≤ x.2.1 ∧ x.2.1 ≤ 256 ∧ 0 ≤ x.2.2 ∧ x.2.2 < 3 := by
  obtain ⟨_, _, g, hc⟩ := right_chk h
  exact chk_small l _ _ (by decide) hc

theorem load_step {ep : Int} {l : List P3} (G : rightM ep l = true) {k : Nat} {x : P3} (hx : l[k]? = some x) :
    ldStep (sv ep l) (⟨(svk ep l.length (l.take k)).length, 0, 0⟩, l.take k) = (⟨(svk ep l.length (l.take (k + 1))).length, 0, 0⟩, l.take (k + 1)) := by
  obtain ⟨s1, s2, s3, s4, s5, s6⟩ := right_small G x (List.mem_of_getElem? hx)
  have e : sv ep l = svk ep l.length (l.take k) ++ (entryP x ++ (l.drop (k + 1)).flatMap entryP) := by
    have h1 : sv ep l = svk ep l.length (l.take (k + 1)) ++ (l.drop (k + 1)).flatMap entryP := by
      unfold sv svk
      rw [List.append_assoc (beN (u64 ep) 4 ++ beN (u64 l.length) 4), ← List.flatMap_append, List.take_append_drop]
    rw [h1, svk_take ep _ l k x hx, List.append_assoc]
  obtain ⟨a, b, c⟩ := x
  obtain ⟨pre, hpre⟩ : ∃ pre, svk ep l.length (l.take k) = pre := ⟨_, rfl⟩
  obtain ⟨post, hpost⟩ : ∃ post, (l.drop (k + 1)).flatMap entryP = post := ⟨_, rfl⟩
  rw [hpre, hpost] at e
  have hL : (svk ep l.length (l.take (k + 1))).length = pre.length + 12 := by rw [svk_take ep _ l k _ hx, hpre, List.length_append, entryP_len]
  have e1 : sv ep l = pre ++ (beN (u64 a) 4 ++ ((beN (u64 b) 4 ++ beN (u64 c) 4) ++ post)) := by
    rw [e]; unfold entryP; simp only [List.append_assoc]
  have t1 := get_at e1 (by omega) (r := ⟨pre.length, 0, 0⟩) rfl
  have e2 : sv ep l = (pre ++ beN (u64 a) 4) ++ (beN (u64 b) 4 ++ (beN (u64 c) 4 ++ post)) := by
    rw [e1]; simp only [List.append_assoc]
  have p2 : (pre ++ beN (u64 a) 4).length = pre.length + 4 := by simp [beN_length]
  have t2 := get_at e2 (by omega) (r := ⟨pre.length + 4, 0, 0⟩) (by rw [p2])
  rw [p2] at t2
  have e3 : sv ep l = (pre ++ beN (u64 a) 4 ++ beN (u64 b) 4) ++ (beN (u64 c) 4 ++ post) := by
    rw [e2]; simp only [List.append_assoc]
  have p3 : (pre ++ beN (u64 a) 4 ++ beN (u64 b) 4).length = pre.length + 4 + 4 := by simp [beN_length]
  have t3 := get_at e3 (by omega) (r := ⟨pre.length + 4 + 4, 0, 0⟩) (by rw [p3])
  rw [p3] at t3
  have ha := u32_back a
  have hb := u32_back b
  have hc := u32_back c
  rw [Int.emod_eq_of_lt (by omega) (by simp at *; omega)] at ha hb hc
  unfold ldStep
  simp only [hpre, t1, t2, t3, ha, hb, hc]
  rw [hL, List.take_add_one, hx]
  simp

theorem load_all {ep : Int} {l : List P3} (G : rightM ep l = true) : ∀ k, k ≤ l.length → ldK (sv ep l) (⟨8, 0, 0⟩, []) k = (⟨(svk ep l.length (l.take k)).length, 0, 0⟩, l.take k)
  | 0, _ => by simp [ldK, svk, beN_length]
  | k + 1, h => by
    rw [ldK, load_all G k (by omega)]
    exact load_step G (List.getElem?_eq_getElem (by omega))

theorem load_saved {ep : Int} {l : List P3} (G : rightM ep l = true) : loadT (sv ep l) = some (ep, l) := by
  have hl := right_len G
  obtain ⟨m1, m2, -⟩ := right_chk G
  obtain ⟨m, hm⟩ : ∃ m : Nat, ep = m := ⟨ep.toNat, by omega⟩
  have hA := load_all G l.length (Nat.le_refl _)
  rw [List.take_length] at hA
  have e : sv ep l = [] ++ (beN m 4 ++ (beN l.length 4 ++ l.flatMap entryP)) := by
    unfold sv svk; rw [hm, u64_nat m (by omega), u64_nat l.length (by omega)]; simp
  have g1 := get_at e (by omega) (r := ⟨0, 0, 0⟩) rfl
  have e2 : sv ep l = beN m 4 ++ (beN l.length 4 ++ l.flatMap entryP) := by rw [e]; simp
  have c1 := count_at (most := 256) e2 (by omega) (by omega) (r := ⟨4, 0, 0⟩) (by rw [beN_length])
  rw [beN_length] at c1
  simp only [List.length_nil, Nat.zero_add] at g1
  have hmm : m % 256 ^ 4 = m := Nat.mod_eq_of_lt (by omega)
  rw [hmm] at g1
  unfold loadT
  simp only [g1, c1]
  rw [hA]
  have hend : (RS.end_ (sv ep l) ⟨(svk ep l.length l).length, 0, 0⟩) = (0, 0) := by
    unfold RS.end_ sv; simp
  simp only [hend]
  rw [hm] at G ⊢
  simp [G]
theorem sv_inj {e1 e2 : Int} {l1 l2 : List P3} (h1 : rightM e1 l1 = true) (h2 : rightM e2 l2 = true) : sv e1 l1 = sv e2 l2 ↔ (e1 = e2 ∧ l1 = l2) := by
  constructor
  · intro h
    have a := load_saved h1
    rw [h, load_saved h2] at a
    simp only [Option.some.injEq, Prod.mk.injEq] at a
    exact ⟨a.1.symm, a.2.symm⟩
  · rintro ⟨rfl, rfl⟩; rfl
theorem loadSaved (w : World) (v : Value) (ep : Int) (l : List P3) (G : rightM ep l = true) (h : Reads w v (sv ep l).length 1 (bc (sv ep l))) :
    Calls Try.prog 16 #[v] w fun e w' => ∃ a n c, e = .returned (.tuple #[.agg #[.int .i64 ep, .slice a n c], .int .i64 0]) ∧ RD w' a n c l ∧ Fr (fun _ => False) w w' := by
  have hl := right_len G
  refine (load_any w v (sv ep l) h (by unfold sv; rw [svk_len]; omega)).mono ?_
  rintro e w' ⟨hl, hf⟩
  rcases hl with ⟨h1, _⟩ | ⟨ep', l', a, n, c, h1, rfl, hd⟩
  · rw [load_saved G] at h1; cases h1
  · rw [load_saved G] at h1; cases h1; exact ⟨a, n, c, rfl, hd, hf⟩
end Go.Proofs.Ytkaibekeokkpnaa
