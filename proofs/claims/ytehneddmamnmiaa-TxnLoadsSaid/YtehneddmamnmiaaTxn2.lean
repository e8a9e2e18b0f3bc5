/- Late, Outcome, Ack, Vote of a transaction. -/
import Derived.Test.YtehneddmamnmiaaTxn
import Derived.Deep.RegionLaw
namespace Go.Proofs.Ytehneddmamnmiaa
open Go.RowKit Go.Maps Go.Cv Go.Shelf
set_option linter.unusedVariables false

def lateR (r : TxR) : TxR := if r.o = 0 then { r with o := 2 } else r
theorem late_any (w : World) (X : Nat → Prop) (b0 tb : Nat) (r : TxR) (h : TX w X b0 tb r) :
    Calls Try.prog 16 #[.pointer (some ⟨tb, 0, none⟩)] w fun e w' => e = .returned (.tuple #[]) ∧ TX w' X b0 tb (lateR r) ∧ Fr (Own X b0) w w' := by
  obtain ⟨B, vb, kb, vo, vp, vg, va, vs, vals, h⟩ := h
  have c8 : w.cell? ⟨tb, 8, none⟩ = some (.int .i64 r.o) := h.c 8
  have f8 := h.free 8
  obtain ⟨o, ho⟩ : ∃ o, r.o = o := ⟨_, rfl⟩
  rw [ho] at c8
  unfold lateR
  rw [ho]
  have HH := hide h
  have HO := hide ho
  clear h ho
  by_cases hz : o = 0
  · subst hz
    rw [if_pos rfl]
    go_enter Try.func16, Try.ntmps16
    go_wp2
    go_end0
    have hs : Fr (fun k => k = tb) w (w.setCell ⟨tb, 8, none⟩ (.int .i64 2)) := Fr.setCell _ _ _ rfl
    exact ⟨rfl, ⟨B, vb, kb, vo, vp, vg, va, vs, vals, HH.out.field _ (block_setCell HH.out.blk _) hs rfl rfl rfl rfl rfl⟩, hs.mono (fun k _ e => by subst e; exact ⟨HH.out.t0, HH.out.xt⟩)⟩
  · rw [if_neg hz]
    have hzb : (o == 0) = false := by simp [hz]
    clear hz
    go_enter Try.func16, Try.ntmps16
    go_wp2
    go_end0
    exact ⟨rfl, ⟨B, vb, kb, vo, vp, vg, va, vs, vals, HH.out⟩, Fr.refl _ _⟩

theorem outcome_any (w : World) (X : Nat → Prop) (b0 tb : Nat) (r : TxR) (h : TX w X b0 tb r) :
    Calls Try.prog 19 #[.pointer (some ⟨tb, 0, none⟩)] w fun e w' => e = .returned (.int .i64 r.o) ∧ w' = w := by
  obtain ⟨B, vb, kb, vo, vp, vg, va, vs, vals, h⟩ := h
  have c8 : w.cell? ⟨tb, 8, none⟩ = some (.int .i64 r.o) := h.c 8
  clear h
  go_enter Try.func19, Try.ntmps19
  go_wp2
  go_ret
  exact ⟨rfl, rfl⟩

def grp (r : TxR) : List Int := r.S.map (·.1)
def ackR (r : TxR) (g : Int) : TxR := if r.o ≠ 0 ∧ g ∈ grp r then { r with K := addS r.K g } else r
theorem Tx.groups {w : World} {X : Nat → Prop} {b0 B tb vb kb : Nat} {vo vp vg va : Value} {vs : List Value} {vals : Int → Value} {r : TxR} (h : Tx w X b0 B tb vb kb vo vp vg va vs vals r) : Reads w vg (grp r).length 1 (ints (grp r)) := by
  have := Reads.of_own h.sp.g
  unfold grp ints
  rw [List.length_map, List.map_map]; exact this
set_option maxRecDepth 100000 in
theorem ack_any (w : World) (X : Nat → Prop) (b0 tb : Nat) (r : TxR) (h : TX w X b0 tb r) (hS : r.S.length ≤ 3) (hK : r.K.length ≤ 1000) (g : Int) (hg : (Lit.int .i64 g).wf = true) :
    Calls Try.prog 17 #[.pointer (some ⟨tb, 0, none⟩), .int .i64 g] w fun e w' => e = .returned (.tuple #[]) ∧ TX w' X b0 tb (ackR r g) ∧ Fr (Own X b0) w w' := by
  obtain ⟨B, vb, kb, vo, vp, vg, va, vs, vals, h⟩ := h
  have c8 : w.cell? ⟨tb, 8, none⟩ = some (.int .i64 r.o) := h.c 8
  have c4 : w.cell? ⟨tb, 4, none⟩ = some vg := h.c 4
  have c7 : w.cell? ⟨tb, 7, none⟩ = some (.map (some kb)) := h.c 7
  have hC := contains_any w vg (grp r) h.groups (by unfold grp; rw [List.length_map]; omega) g
  have hkey : keyOf Try.prog 3 (.int .i64 g) = some (.int .i64 g) := keyOf_int_mk Try.underlying3 hg
  obtain ⟨o, ho⟩ : ∃ o, r.o = o := ⟨_, rfl⟩
  obtain ⟨q, hq⟩ : ∃ q, decide (g ∈ grp r) = q := ⟨_, rfl⟩
  rw [ho] at c8
  rw [hq] at hC
  have hak := h.ak
  have HH := hide h
  have HO := hide ho
  have HQ := hide hq
  have HC := hide hC
  clear h ho hq hC
  have hcase : (o = 0 ∧ ackR r g = r) ∨ ((o != 0) = true ∧ q = false ∧ ackR r g = r) ∨ ((o != 0) = true ∧ q = true ∧ ackR r g = { r with K := addS r.K g }) := by
    unfold ackR
    rw [HO.out]
    by_cases h1 : o = 0
    · exact .inl ⟨h1, by rw [if_neg]; exact fun h => h.1 h1⟩
    · by_cases h2 : g ∈ grp r
      · exact .inr (.inr ⟨by rw [bne_iff_ne]; exact h1, by rw [← HQ.out]; simp [h2], by rw [if_pos ⟨h1, h2⟩]⟩)
      · exact .inr (.inl ⟨by rw [bne_iff_ne]; exact h1, by rw [← HQ.out]; simp [h2], by rw [if_neg]; exact fun h => h2 h.2⟩)
  rcases hcase with ⟨rfl, he⟩ | ⟨hob, rfl, he⟩ | ⟨hob, rfl, he⟩
  · rw [he]
    clear he hak
    go_enter Try.func17, Try.ntmps17
    go_wp2_with fail
    go_end0
    exact ⟨rfl, ⟨B, vb, kb, vo, vp, vg, va, vs, vals, HH.out⟩, Fr.refl _ _⟩
  · rw [he]
    clear he hak
    go_enter Try.func17, Try.ntmps17
    go_wp2_with fail
    refine HC.out.mono ?_
    rintro e w1 ⟨rfl, rfl⟩
    go_wp2_with fail
    go_end0
    exact ⟨rfl, ⟨B, vb, kb, vo, vp, vg, va, vs, vals, HH.out⟩, Fr.refl _ _⟩
  · rw [he]
    clear he
    have hkm : r.K.length < maxLen := by unfold maxLen; omega
    go_enter Try.func17, Try.ntmps17
    go_wp2_with fail
    refine HC.out.mono ?_
    rintro e w1 ⟨rfl, rfl⟩
    go_wp2_with (first
      | (at_mapUpdate; refine wpList_store_mn _ rfl _ _ _ 83 rfl 3 3 law Try.underlying83 kb r.K rfl hak hkm g rfl rfl hkey ?_; intro w2 hk2 ht2; have HK2 := hide hk2; have HT2 := hide ht2; clear hk2 ht2)
      | fail)
    go_end0
    have hf : Fr (fun k => k = kb) _ w2 := Fr.turned HT2.out rfl
    exact ⟨rfl, ⟨B, vb, kb, vo, vp, vg, va, vs, vals, HH.out.acked _ HK2.out hf⟩, hf.mono (fun k _ e => by subst e; exact ⟨HH.out.k0, HH.out.xk⟩)⟩
end Go.Proofs.Ytehneddmamnmiaa
