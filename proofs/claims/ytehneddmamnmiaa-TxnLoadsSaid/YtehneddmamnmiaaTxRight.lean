/- right of a transaction: what was decided goes with the votes. -/
import Derived.Test.YtehneddmamnmiaaTxBegun
namespace Go.Proofs.Ytehneddmamnmiaa
open Go.RowKit Go.Maps Go.Cv Go.Shelf
set_option linter.unusedVariables false

def rightR (r : TxR) : Bool :=
  if r.o = 0 then !(((r.V.length : Int) == (r.S.length : Int))) && ((r.K.length : Int) == 0) && (r.pos == 0) && (r.why == 0)
  else if r.o = 1 then ((r.V.length : Int) == (r.S.length : Int)) && (r.pos == 0) && (r.why == 0)
  else if r.o = 2 then !(((r.V.length : Int) == (r.S.length : Int))) && (r.pos == 0) && (r.why == 0)
  else if r.o = 3 then !(((r.V.length : Int) == (r.S.length : Int))) && (r.why != 35) && (r.why != 36)
  else false

set_option maxRecDepth 100000 in
set_option maxHeartbeats 6400000 in
theorem right_tx (w : World) (X : Nat → Prop) (b0 tb : Nat) (r : TxR) (h : TX w X b0 tb r) (hV : r.V.length ≤ 1000) (hS : r.S.length ≤ 1000) (hK : r.K.length ≤ 1000) :
    Calls Try.prog 62 #[.pointer (some ⟨tb, 0, none⟩)] w fun e w' => e = .returned (.bool (rightR r)) ∧ Fr (fun _ => False) w w' := by
  obtain ⟨B, vb, kb, vo, vp, vg, va, vs, vals, h⟩ := h
  obtain ⟨nV, hnV⟩ : ∃ n, r.V.length = n := ⟨_, rfl⟩
  obtain ⟨nS, hnS⟩ : ∃ n, r.S.length = n := ⟨_, rfl⟩
  obtain ⟨nK, hnK⟩ : ∃ n, r.K.length = n := ⟨_, rfl⟩
  have hgo := h.sp.g
  rw [hnS] at hgo
  obtain ⟨ag, cg, rfl⟩ := own_shape hgo
  have hd := h.fr0 ((Fr.refl (fun _ => False) w).drew)
  have d4 : w.drew.cell? ⟨tb, 4, none⟩ = some (.slice ag nS cg) := hd.c 4
  have d6 : w.drew.cell? ⟨tb, 6, none⟩ = some (.map (some vb)) := hd.c 6
  have d7 : w.drew.cell? ⟨tb, 7, none⟩ = some (.map (some kb)) := hd.c 7
  have d8 : w.drew.cell? ⟨tb, 8, none⟩ = some (.int .i64 r.o) := hd.c 8
  have d9 : w.drew.cell? ⟨tb, 9, none⟩ = some (.int .i64 r.pos) := hd.c 9
  have d10 : w.drew.cell? ⟨tb, 10, none⟩ = some (.int .i64 r.why) := hd.c 10
  have c4 : w.cell? ⟨tb, 4, none⟩ = some (.slice ag nS cg) := d4
  have c6 : w.cell? ⟨tb, 6, none⟩ = some (.map (some vb)) := d6
  have lv : (Builtin.len_ #[82] 3 #[.map (some vb)]).run Try.prog w.drew = .ok (.int .i64 nV) w.drew := by
    have h1 := hd.vm.len Try.underlying82 3
    rw [hnV] at h1; exact h1
  have lk : (Builtin.len_ #[83] 3 #[.map (some kb)]).run Try.prog w.drew = .ok (.int .i64 nK) w.drew := by
    have h1 := hd.ak.len Try.underlying83 3
    rw [hnK] at h1; exact h1
  have lv0 : (Builtin.len_ #[82] 3 #[.map (some vb)]).run Try.prog w = .ok (.int .i64 nV) w := by
    have h1 := h.vm.len Try.underlying82 3
    rw [hnV] at h1; exact h1
  obtain ⟨o, ho⟩ : ∃ o, r.o = o := ⟨_, rfl⟩
  obtain ⟨pos, hpos⟩ : ∃ o, r.pos = o := ⟨_, rfl⟩
  obtain ⟨why, hwhy⟩ : ∃ o, r.why = o := ⟨_, rfl⟩
  have hR : rightR r = rightR r := rfl
  conv at hR => rhs; unfold rightR
  rw [hnV, hnS, hnK, ho, hpos, hwhy] at hR
  rw [ho] at d8
  rw [hpos] at d9
  rw [hwhy] at d10
  obtain ⟨qa, hqa⟩ : ∃ q, ((nV : Int) == (nS : Int)) = q := ⟨_, rfl⟩
  obtain ⟨qk, hqk⟩ : ∃ q, ((nK : Int) == 0) = q := ⟨_, rfl⟩
  obtain ⟨qp, hqp⟩ : ∃ q, (pos == 0) = q := ⟨_, rfl⟩
  obtain ⟨qw, hqw⟩ : ∃ q, (why == 0) = q := ⟨_, rfl⟩
  obtain ⟨q5, hq5⟩ : ∃ q, (why != 35) = q := ⟨_, rfl⟩
  obtain ⟨q6, hq6⟩ : ∃ q, (why != 36) = q := ⟨_, rfl⟩
  rw [hqa, hqk, hqp, hqw, hq5, hq6] at hR
  have hc : (o = 0 ∧ (qa = true ∨ (qa = false ∧ qk = false) ∨ (qa = false ∧ qk = true ∧ qp = false) ∨ (qa = false ∧ qk = true ∧ qp = true ∧ qw = false) ∨ (qa = false ∧ qk = true ∧ qp = true ∧ qw = true)))
      ∨ (o = 1 ∧ (qa = false ∨ (qa = true ∧ qp = false) ∨ (qa = true ∧ qp = true ∧ qw = false) ∨ (qa = true ∧ qp = true ∧ qw = true)))
      ∨ (o = 2 ∧ (qa = true ∨ (qa = false ∧ qp = false) ∨ (qa = false ∧ qp = true ∧ qw = false) ∨ (qa = false ∧ qp = true ∧ qw = true)))
      ∨ (o = 3 ∧ (qa = true ∨ (qa = false ∧ q5 = false) ∨ (qa = false ∧ q5 = true ∧ q6 = false) ∨ (qa = false ∧ q5 = true ∧ q6 = true)))
      ∨ ((o == 0) = false ∧ (o == 1) = false ∧ (o == 2) = false ∧ (o == 3) = false ∧ rightR r = false) := by
    by_cases h0 : o = 0
    · exact .inl ⟨h0, by cases qa <;> cases qk <;> cases qp <;> cases qw <;> simp⟩
    · by_cases h1 : o = 1
      · exact .inr (.inl ⟨h1, by cases qa <;> cases qp <;> cases qw <;> simp⟩)
      · by_cases h2 : o = 2
        · exact .inr (.inr (.inl ⟨h2, by cases qa <;> cases qp <;> cases qw <;> simp⟩))
        · by_cases h3 : o = 3
          · exact .inr (.inr (.inr (.inl ⟨h3, by cases qa <;> cases q5 <;> cases q6 <;> simp⟩)))
          · refine .inr (.inr (.inr (.inr ⟨by simp [h0], by simp [h1], by simp [h2], by simp [h3], ?_⟩)))
            rw [hR, if_neg h0, if_neg h1, if_neg h2, if_neg h3]
  have HR := hide hR
  clear h hgo hd hnV hnS hnK ho hpos hwhy hR hV hS hK
  rcases hc with ⟨rfl, rfl | ⟨rfl, rfl⟩ | ⟨rfl, rfl, rfl⟩ | ⟨rfl, rfl, rfl, rfl⟩ | ⟨rfl, rfl, rfl, rfl⟩⟩ | ⟨rfl, rfl | ⟨rfl, rfl⟩ | ⟨rfl, rfl, rfl⟩ | ⟨rfl, rfl, rfl⟩⟩ | ⟨rfl, rfl | ⟨rfl, rfl⟩ | ⟨rfl, rfl, rfl⟩ | ⟨rfl, rfl, rfl⟩⟩ | ⟨rfl, rfl | ⟨rfl, rfl⟩ | ⟨rfl, rfl, rfl⟩ | ⟨rfl, rfl, rfl⟩⟩ | ⟨o0, o1, o2, o3, hF⟩
  all_goals
    go_enter Try.func62, Try.ntmps62
    go_wp2_with fail
    go_region_held3 (fun w' => w'.cell? ⟨tb, 6, none⟩ = some (.map (some vb)) ∧ w'.cell? ⟨tb, 4, none⟩ = some (.slice ag nS cg) ∧ (Builtin.len_ #[82] 3 #[.map (some vb)]).run Try.prog w' = .ok (.int .i64 nV) w') (go_keep) (fail)
    go_wp2_with fail
    go_ret
    refine ⟨?_, (Fr.refl _ _).drew⟩
    first
      | (rw [hF]; rfl)
      | (rw [HR.out]; simp)
end Go.Proofs.Ytehneddmamnmiaa
