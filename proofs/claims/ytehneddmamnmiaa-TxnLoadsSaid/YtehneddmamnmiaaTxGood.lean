/- The plain law of a transaction's votes. -/
import Derived.Test.YtehneddmamnmiaaTxKnown
import Derived.Test.YtehneddmamnmiaaRgCount
namespace Go.Proofs.Ytehneddmamnmiaa
open Go.RowKit Go.Maps Go.Cv Go.Shelf
set_option linter.unusedVariables false

theorem splitG_nodup (h : Nat → Int) (n : Nat) : ∀ m, ((splitG h n m).map (·.1)).Nodup
  | 0 => List.nodup_nil
  | m + 1 => by
    rw [splitG]
    split
    · exact splitG_nodup h n m
    · rw [List.map_append, List.nodup_append]
      refine ⟨splitG_nodup h n m, by simp, fun a ha b hb e => ?_⟩
      simp at hb
      obtain ⟨x, hx, rfl⟩ := List.mem_map.1 ha
      obtain ⟨g, e2, hg, _⟩ := splitG_mem hx
      rw [e2] at e; rw [hb] at e; simp at e; omega

/-- A transaction that came about as the functions make it. -/
structure Good (r : TxR) : Prop where
  pl : ∀ x ∈ r.S, ∀ a ∈ x.2, 0 ≤ a ∧ a < r.ops.length
  len : r.ops.length ≤ 4
  pn : ∀ x ∈ r.S, x.2.length ≤ 4
  sl : r.S.length ≤ 3
  gr : ∀ g ∈ grp r, 0 ≤ g ∧ g < 3
  gnd : (grp r).Nodup
  vnd : (keys r).Nodup
  sub : ∀ g ∈ keys r, g ∈ grp r
  vl : ∀ x ∈ r.V, x.2.length = (atOf r x.1).length
  knd : r.K.Nodup
  ksub : ∀ g ∈ r.K, g ∈ grp r
  full : r.o = 1 → r.V.length = r.S.length
theorem Good.vlen {r : TxR} (h : Good r) : r.V.length ≤ 3 := by
  have := nodup_len 3 (keys r) h.vnd (fun x hx => h.gr x (h.sub x hx))
  rw [keys, List.length_map] at this; exact this
theorem Good.klen {r : TxR} (h : Good r) : r.K.length ≤ 3 := nodup_len 3 r.K h.knd (fun x hx => h.gr x (h.ksub x hx))
theorem nodup_full : ∀ (l m : List Int), l.Nodup → (∀ x ∈ l, x ∈ m) → m.Nodup → l.length = m.length → ∀ x ∈ m, x ∈ l
  | [], m, _, _, _, hl, x, hx => by cases m with | nil => cases hx | cons a b => simp at hl
  | a :: l, m, h, hs, hm, hl, x, hx => by
    rw [List.nodup_cons] at h
    by_cases e : x = a
    · subst e; exact List.mem_cons_self
    · refine List.mem_cons_of_mem _ (nodup_full l (m.erase a) h.2 (fun y hy => ?_) (hm.erase _) ?_ x ?_)
      · exact (List.mem_erase_of_ne (fun e2 => h.1 (by rw [← e2]; exact hy))).2 (hs y (List.mem_cons_of_mem _ hy))
      · rw [List.length_erase_of_mem (hs a List.mem_cons_self)]; simp at hl; omega
      · exact (List.mem_erase_of_ne e).2 hx
theorem atOf_mem {r : TxR} (h : (grp r).Nodup) {x : Int × List Int} (hx : x ∈ r.S) : atOf r x.1 = x.2 := by
  unfold atOf grp at *
  have : r.S.find? (fun y => decide (y.1 = x.1)) = some x := by
    generalize r.S = l at *
    induction l with
    | nil => cases hx
    | cons y t ih =>
      rw [List.map_cons, List.nodup_cons] at h
      rcases List.mem_cons.1 hx with rfl | hx
      · simp
      · have : y.1 ≠ x.1 := fun e => h.1 (by rw [e]; exact List.mem_map_of_mem (f := (·.1)) hx)
        rw [List.find?_cons_of_neg (by simpa using this)]
        exact ih h.2 hx
  rw [this]; rfl
theorem Good.all {r : TxR} (h : Good r) (ho : r.o = 1) : ∀ g ∈ grp r, g ∈ keys r :=
  nodup_full (keys r) (grp r) h.vnd h.sub h.gnd (by rw [keys, grp, List.length_map, List.length_map]; exact h.full ho)
theorem wf_small {g : Int} (h : 0 ≤ g ∧ g < 3) : (Lit.int .i64 g).wf = true := by
  have : g = 0 ∨ g = 1 ∨ g = 2 := by omega
  rcases this with rfl | rfl | rfl <;> rfl
theorem Good.ok {r : TxR} (h : Good r) : OkR r where
  pl := h.pl
  len := h.len
  few := h.sl
  pn := h.pn
  wf := fun x hx => wf_small (h.gr x.1 (List.mem_map_of_mem (f := (·.1)) hx))
  all := fun ho x hx => by
    have h1 := h.all ho x.1 (List.mem_map_of_mem (f := (·.1)) hx)
    obtain ⟨y, hy, e⟩ := List.mem_map.1 h1
    refine ⟨y.2, by rw [← e]; exact hy, ?_⟩
    rw [h.vl y hy, e, atOf_mem h.gnd hx]
theorem good_new (tx : ByteArray) (ops : List O4) (ep : Int) (l : List P3) (h4 : ops.length ≤ 4) : Good (newR tx ops ep l) where
  pl := fun x hx a ha => by
    obtain ⟨g, rfl, _, _⟩ := splitG_mem hx
    obtain ⟨k, rfl, hk, _⟩ := idx_mem ha
    exact ⟨by omega, by show (k : Int) < (ops.length : Int); omega⟩
  len := h4
  pn := fun x hx => by
    obtain ⟨g, rfl, _, _⟩ := splitG_mem hx
    exact Nat.le_trans (idx_len _ _ _) h4
  sl := splitG_len _ _ _
  gr := fun g hg => by
    obtain ⟨x, hx, rfl⟩ := List.mem_map.1 hg
    obtain ⟨k, rfl, hk, _⟩ := splitG_mem hx
    exact ⟨by show (0 : Int) ≤ (k : Int); omega, by show (k : Int) < 3; omega⟩
  gnd := splitG_nodup _ _ _
  vnd := List.nodup_nil
  sub := fun g hg => absurd hg List.not_mem_nil
  vl := fun x hx => absurd hx List.not_mem_nil
  knd := List.nodup_nil
  ksub := fun g hg => absurd hg List.not_mem_nil
  full := fun h => by cases h
theorem good_late {r : TxR} (h : Good r) : Good (lateR r) := by
  unfold lateR
  split
  · exact ⟨h.pl, h.len, h.pn, h.sl, h.gr, h.gnd, h.vnd, h.sub, h.vl, h.knd, h.ksub, fun e => by cases e⟩
  · exact h
theorem good_ack {r : TxR} (h : Good r) (g : Int) : Good (ackR r g) := by
  unfold ackR
  split
  · rename_i hg
    exact ⟨h.pl, h.len, h.pn, h.sl, h.gr, h.gnd, h.vnd, h.sub, h.vl, addS_nodup h.knd g, fun x hx => (mem_addS.1 hx).elim (h.ksub x) (fun e => e ▸ hg.2), h.full⟩
  · exact h
theorem good_vote {r : TxR} (h : Good r) (g : Int) (yes : Bool) (ts : List ByteArray) (p y : Int) : Good (voteR r g yes ts p y) := by
  unfold voteR
  split
  · exact h
  · rename_i hc
    have ho : r.o = 0 := Classical.byContradiction (fun e => hc (.inl e))
    have hg : g ∈ grp r := Classical.byContradiction (fun e => hc (.inr (.inl e)))
    have hk : g ∉ keys r := fun e => hc (.inr (.inr e))
    split
    · split
      · exact ⟨h.pl, h.len, h.pn, h.sl, h.gr, h.gnd, h.vnd, h.sub, h.vl, h.knd, h.ksub, fun e => by cases e⟩
      · exact ⟨h.pl, h.len, h.pn, h.sl, h.gr, h.gnd, h.vnd, h.sub, h.vl, h.knd, h.ksub, fun e => by cases e⟩
    · split
      · exact h
      · rename_i hl
        have e1 : (r.V ++ [(g, ts)]).map (·.1) = keys r ++ [g] := by simp [keys]
        refine ⟨h.pl, h.len, h.pn, h.sl, h.gr, h.gnd, ?_, ?_, ?_, h.knd, h.ksub, ?_⟩
        · show ((r.V ++ [(g, ts)]).map (·.1)).Nodup
          rw [e1, List.nodup_append]
          exact ⟨h.vnd, by simp, fun a ha b hb e => by simp at hb; subst hb; exact hk (e ▸ ha)⟩
        · show ∀ x ∈ (r.V ++ [(g, ts)]).map (·.1), x ∈ grp r
          rw [e1]
          intro x hx
          rcases List.mem_append.1 hx with hx | hx
          · exact h.sub x hx
          · simp at hx; subst hx; exact hg
        · intro x hx
          rcases List.mem_append.1 hx with hx | hx
          · exact h.vl x hx
          · simp at hx; subst hx
            exact Classical.byContradiction (fun e => hl e)
        · intro e
          show (r.V ++ [(g, ts)]).length = r.S.length
          rw [List.length_append]
          by_cases e2 : r.V.length + 1 = r.S.length
          · exact e2
          · have e : (if r.V.length + 1 = r.S.length then (1 : Int) else 0) = 1 := e
            rw [if_neg e2] at e; cases e
/-- What is decided stays. -/
theorem vote_stays {r : TxR} (h : r.o ≠ 0) (g : Int) (yes : Bool) (ts : List ByteArray) (p y : Int) : voteR r g yes ts p y = r := by
  unfold voteR; rw [if_pos (.inl h)]
theorem late_stays {r : TxR} (h : r.o ≠ 0) : lateR r = r := by unfold lateR; rw [if_neg h]
theorem ack_fields (r : TxR) (g : Int) : (ackR r g).o = r.o ∧ (ackR r g).pos = r.pos ∧ (ackR r g).why = r.why ∧ (ackR r g).S = r.S ∧ (ackR r g).V = r.V ∧ (ackR r g).ops = r.ops ∧ textsR (ackR r g) = textsR r := by
  unfold ackR
  split
  · refine ⟨rfl, rfl, rfl, rfl, rfl, rfl, ?_⟩
    have : ∀ n, fillT { r with K := addS r.K g } n = fillT r n := by
      intro n
      induction n with
      | zero => rfl
      | succ n ih => rw [fillT, fillT, ih]; rfl
    unfold textsR; rw [this]
  · exact ⟨rfl, rfl, rfl, rfl, rfl, rfl, rfl⟩
theorem vote_S (r : TxR) (g : Int) (yes : Bool) (ts : List ByteArray) (p y : Int) : (voteR r g yes ts p y).S = r.S ∧ (voteR r g yes ts p y).ops = r.ops := by
  unfold voteR; split
  · exact ⟨rfl, rfl⟩
  · split
    · split <;> exact ⟨rfl, rfl⟩
    · split <;> exact ⟨rfl, rfl⟩
theorem late_S (r : TxR) : (lateR r).S = r.S ∧ (lateR r).ops = r.ops ∧ (lateR r).V = r.V := by unfold lateR; split <;> exact ⟨rfl, rfl, rfl⟩
/-- A group comes among the voters by a yes alone. -/
theorem vote_keys (r : TxR) (g : Int) (yes : Bool) (ts : List ByteArray) (p y : Int) {x : Int} (hx : x ∈ keys (voteR r g yes ts p y)) : x ∈ keys r ∨ (x = g ∧ yes = true) := by
  unfold voteR at hx
  split at hx
  · exact .inl hx
  · split at hx
    · split at hx <;> exact .inl hx
    · split at hx
      · exact .inl hx
      · rename_i h2 _
        have e1 : x ∈ (r.V ++ [(g, ts)]).map (·.1) := hx
        rw [List.map_append] at e1
        rcases List.mem_append.1 e1 with h | h
        · exact .inl h
        · simp at h; exact .inr ⟨h, by simpa using h2⟩
end Go.Proofs.Ytehneddmamnmiaa
