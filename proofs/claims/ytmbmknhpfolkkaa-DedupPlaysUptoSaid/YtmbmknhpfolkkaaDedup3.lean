/- New, Ask, Done, Clients of dedup. -/
import Derived.Test.YtmbmknhpfolkkaaDedup2
import Derived.Test.YtmbmknhpfolkkaaBytes
import Derived.Deep.CutBlock
namespace Go.Proofs.Ytmbmknhpfolkkaa
open Go.RowKit Go.Maps Go.Cv Go.Shelf
set_option linter.unusedVariables false

def is (c : ByteArray) (x : L3) : Bool := decide (x.1 = c)
theorem found_is {l : List L3} {c : ByteArray} {r : Int} (h : Found l c r) : (r = -1 ∧ l.find? (is c) = none) ∨ ∃ (k : Nat) (x : L3), r = k ∧ l[k]? = some x ∧ l.find? (is c) = some x ∧ l.eraseP (is c) = l.eraseIdx k := by
  rcases h with ⟨k, x, h1, h2, h3, rfl⟩ | ⟨h1, rfl⟩
  · right
    refine ⟨k, x, rfl, h1, ?_⟩
    induction l generalizing k with
    | nil => simp at h1
    | cons y t ih =>
      cases k with
      | zero => simp at h1; subst h1; simp [is, h2]
      | succ k =>
        have hy : is c y = false := by simp [is]; exact h3 0 y (by omega) rfl
        obtain ⟨i1, i2⟩ := ih k (by simpa using h1) (fun j z hj hz => h3 (j + 1) z (by omega) (by simpa using hz))
        exact ⟨by rw [List.find?_cons, hy]; exact i1, by simp [hy, i2]⟩
  · left
    exact ⟨rfl, by rw [List.find?_eq_none]; intro x hx; simp [is]; exact h1 x hx⟩

/-- What a request is. -/
def askT (l : List L3) (c : ByteArray) (id : Int) : Int × ByteArray :=
  match l.find? (is c) with
  | none => (1, ⟨#[]⟩)
  | some x => if x.2.1 < id then (1, ⟨#[]⟩) else if id = x.2.1 then (2, x.2.2) else (3, ⟨#[]⟩)

def lose (most : Int) (l : List L3) : List L3 := if most < (l.length : Int) then l.eraseIdx 0 else l
/-- The table behind a Done that was Fresh. -/
def doneT (most : Int) (l : List L3) (c : ByteArray) (id : Int) (r : ByteArray) : List L3 := lose most (l.eraseP (is c) ++ [(c, id, r)])

theorem new_ok (w : World) (most : Int) (h1 : 1 ≤ most) (h2 : most ≤ 64) :
    Calls Try.prog 8 #[.int .i64 most] w fun e w' => e = .returned (.tuple #[.pointer (some ⟨w.heap.size, 0, none⟩), .int .i64 0]) ∧ Tb w' w.heap.size (.slice none 0 0) most [] ∧ Fr (fun _ => False) w w' := by
  go_enter Try.func8, Try.ntmps8
  go_wp2
  go_ret2
  exact ⟨rfl, ⟨block_alloc w _, World.ownsRow_nil _ _ _ _⟩, Fr.alloc _ _ _⟩

theorem new_no (w : World) (most : Int) (h : most < 1 ∨ 64 < most) :
    Calls Try.prog 8 #[.int .i64 most] w fun e w' => e = .returned (.tuple #[.pointer none, .int .i64 1]) ∧ w = w' := by
  rcases h with h | h
  · go_enter Try.func8, Try.ntmps8
    go_wp2
    go_ret2
    exact ⟨rfl, rfl⟩
  · have h' : ¬ most < 1 := by omega
    go_enter Try.func8, Try.ntmps8
    go_wp2
    go_ret2
    exact ⟨rfl, rfl⟩

set_option maxRecDepth 100000 in
set_option maxHeartbeats 800000 in
theorem ask_any (w : World) (tb : Nat) (v : Value) (most : Int) (l : List L3) (h : Tb w tb v most l) (hl : l.length ≤ maxLen) (c : ByteArray) (j : Int) :
    Calls Try.prog 9 #[.pointer (some ⟨tb, 0, none⟩), .string c, .int .i64 j] w fun e w' => e = .returned (.tuple #[.int .i64 (askT l c j).1, .string (askT l c j).2]) ∧ Fr (fun _ => False) w w' := by
  obtain ⟨r, hr⟩ := found_ex l c
  have hf := find_any w tb v most l h hl c r hr
  have HF := hide hf
  have HT := hide h
  clear hf h
  rcases found_is hr with ⟨rfl, hn⟩ | ⟨k, x, rfl, hk, hn, he⟩
  · have ha : askT l c j = (1, ⟨#[]⟩) := by unfold askT; rw [hn]
    rw [ha]
    clear hr hn ha
    go_enter Try.func9, Try.ntmps9
    go_wp2_with fail
    refine HF.out.mono ?_
    rintro e w1 ⟨rfl, hf1⟩
    go_wp2_with fail
    go_ret2
    exact ⟨rfl, hf1⟩
  · have hkl : k < l.length := (List.getElem?_eq_some_iff.1 hk).1
    obtain ⟨n, hnl⟩ : ∃ n, l.length = n := ⟨_, rfl⟩
    have hown := Reads.of_own HT.out.own
    rw [hnl] at hown hkl hl
    have hown' := hown
    obtain ⟨-, a, cp, rfl, -, hcp, -⟩ := hown'
    obtain ⟨b0, o0, rfl, hlt0, hcells⟩ := row_cells lc_len hown hk (by decide)
    obtain ⟨c0, i0, r0⟩ := x
    have hcl : ∀ w1, Fr (fun _ => False) w w1 → w1.cell? ⟨tb, 1, none⟩ = some (.slice (some ⟨b0, o0, none⟩) n cp) ∧ w1.cell? ⟨b0, o0 + k * 3 + 1, none⟩ = some (.int .i64 i0) ∧ w1.cell? ⟨b0, o0 + k * 3 + 2, none⟩ = some (.string r0) := fun w1 hf =>
      ⟨by rw [cell_of_block (HT.out.fr0 hf).blk]; rfl, hcells 1 _ rfl w1 (hf.block _ hlt0 id), hcells 2 _ rfl w1 (hf.block _ hlt0 id)⟩
    have HCL := hide hcl
    have ik0 : ¬ ((k : Int) < 0) := by omega
    have ik1 : (k : Int) < (n : Int) := by omega
    clear hcells hown hr hk hnl hcl he
    by_cases h1 : i0 < j
    · have ha : askT l c j = (1, ⟨#[]⟩) := by unfold askT; rw [hn]; simp only [if_pos h1]
      rw [ha]
      clear hn ha
      go_enter Try.func9, Try.ntmps9
      go_wp2_with fail
      refine HF.out.mono ?_
      rintro e w1 ⟨rfl, hf1⟩
      obtain ⟨e1, e2, e3⟩ := HCL.out w1 hf1
      have HF1 := hide hf1
      clear hf1
      go_wp2_with fail
      go_ret2
      exact ⟨rfl, HF1.out⟩
    · by_cases h2 : j = i0
      · have ha : askT l c j = (2, r0) := by unfold askT; rw [hn]; simp only [if_neg h1, if_pos h2]
        rw [ha]
        subst h2
        clear hn ha h1
        go_enter Try.func9, Try.ntmps9
        go_wp2_with fail
        refine HF.out.mono ?_
        rintro e w1 ⟨rfl, hf1⟩
        obtain ⟨e1, e2, e3⟩ := HCL.out w1 hf1
        have HF1 := hide hf1
        clear hf1
        go_wp2_with fail
        go_quiet (fail)
        go_wp2_with fail
        go_ret2
        exact ⟨rfl, HF1.out.drewN _⟩
      · have ha : askT l c j = (3, ⟨#[]⟩) := by unfold askT; rw [hn]; simp only [if_neg h1, if_neg h2]
        rw [ha]
        have h3 : (j == i0) = false := by rw [beq_eq_false_iff_ne]; exact h2
        clear hn ha h2
        go_enter Try.func9, Try.ntmps9
        go_wp2_with fail
        refine HF.out.mono ?_
        rintro e w1 ⟨rfl, hf1⟩
        obtain ⟨e1, e2, e3⟩ := HCL.out w1 hf1
        have HF1 := hide hf1
        clear hf1
        go_wp2_with fail
        go_ret2
        exact ⟨rfl, HF1.out⟩

/-- What a call leaves that may turn the table. -/
def Turned (w w' : World) (tb : Nat) (v : Value) (most : Int) (l : List L3) : Prop :=
  ∃ v', Tb w' tb v' most l ∧ (v'.ownBlock = v.ownBlock ∨ ∀ k, v'.ownBlock = some k → w.heap.size ≤ k) ∧ Fr (fun k => k = tb ∨ v.ownBlock = some k) w w'

theorem done_no (w : World) (tb : Nat) (v : Value) (most : Int) (l : List L3) (h : Tb w tb v most l) (hl : l.length ≤ maxLen) (c : ByteArray) (i : Int) (r : ByteArray) (hask : (askT l c i).1 ≠ 1) :
    Calls Try.prog 10 #[.pointer (some ⟨tb, 0, none⟩), .string c, .int .i64 i, .string r] w fun e w' => e = .returned (.int .i64 1) ∧ Fr (fun _ => False) w w' := by
  have hA := ask_any w tb v most l h hl c i
  obtain ⟨⟨q, u⟩, hq⟩ : ∃ p, askT l c i = p := ⟨_, rfl⟩
  rw [hq] at hA hask
  have hne : (q != 1) = true := by rw [bne_iff_ne]; exact hask
  have HA := hide hA
  clear hA h hq hask
  go_enter Try.func10, Try.ntmps10
  go_wp2_with fail
  refine HA.out.mono ?_
  rintro e w1 ⟨rfl, hf1⟩
  go_wp2_with fail
  go_ret
  exact ⟨rfl, hf1⟩

theorem reads_built3 (w : World) (x : L3) (t : TypeId) : Reads (w.alloc (.cells #[.string x.1, .int .i64 x.2.1, .string x.2.2] t)) (.slice (some ⟨w.heap.size, 0, none⟩) 1 1) 1 3 (lc x) :=
  ⟨rfl, _, _, rfl, (by intro h; cases h), Nat.le_refl _, fun i u hu => ⟨_, _, rfl, by rw [cell_of_block (block_alloc w _)]; simpa [lc] using hu⟩⟩

theorem one_last (x : L3) : ∀ u ∈ lc x, u.oneCell' = true := by
  intro u hu
  simp only [lc, List.mem_cons, List.not_mem_nil, or_false] at hu
  rcases hu with rfl | rfl | rfl <;> rfl
theorem zero_size : (Value.agg #[.string ⟨#[]⟩, .int .i64 0, .string ⟨#[]⟩]).cells.size = 3 := by simp [Value.cells]

theorem lose_le (most : Int) (l : List L3) (h : (l.length : Int) ≤ most + 1) (h0 : 0 ≤ most) : ((lose most l).length : Int) ≤ most := by
  unfold lose; split
  · rw [List.length_eraseIdx]; split <;> omega
  · omega

set_option maxRecDepth 100000 in
set_option maxHeartbeats 1600000 in
theorem done_yes (w : World) (tb : Nat) (v : Value) (most : Int) (l : List L3) (h : Tb w tb v most l) (hl : l.length ≤ 1000000) (c : ByteArray) (i : Int) (r : ByteArray) (hask : (askT l c i).1 = 1) :
    Calls Try.prog 10 #[.pointer (some ⟨tb, 0, none⟩), .string c, .int .i64 i, .string r] w fun e w' => e = .returned (.int .i64 0) ∧ Turned w w' tb v most (doneT most l c i r) := by
  have hlm : l.length ≤ maxLen := by unfold maxLen; omega
  have hA := ask_any w tb v most l h hlm c i
  obtain ⟨⟨q, u⟩, hq⟩ : ∃ p, askT l c i = p := ⟨_, rfl⟩
  rw [hq] at hA hask
  have hask' : q = 1 := hask
  subst hask'
  obtain ⟨i0, hi0, hz0, hz1, hz2⟩ := info_parts infoLast
  obtain ⟨p, hp⟩ := found_ex l c
  have hF : ∀ w1, Fr (fun _ => False) w w1 → Calls Try.prog 20 #[.pointer (some ⟨tb, 0, none⟩), .string c] w1 fun e w' => e = .returned (.int .i64 p) ∧ Fr (fun _ => False) w1 w' :=
    fun w1 hf => find_any w1 tb v most l (h.fr0 hf) hlm c p hp
  have hbw : tb < w.heap.size := lt_of_block h.blk
  have HA := hide hA
  have HF := hide hF
  have HT := hide h
  clear hA hF h hq hask
  have hlen1 : (l.eraseP (is c)).length ≤ 1000000 := Nat.le_trans (List.length_eraseP_le ..) hl
  rcases found_is hp with ⟨rfl, hn⟩ | ⟨k, x, rfl, hk, hn, he⟩
  case' inl =>
    have hl1 : l.eraseP (is c) = l := List.eraseP_of_forall_not (fun y hy => by rw [List.find?_eq_none] at hn; exact hn y hy)
    have hT1 : ∀ w2, Fr (fun _ => False) w w2 → Turned w w2 tb v most (l.eraseP (is c)) := fun w2 hf => ⟨v, hl1.symm ▸ HT.out.fr0 hf, .inl rfl, hf.mono (fun _ _ h => h.elim)⟩
    unfold doneT
    generalize l.eraseP (is c) = l1 at *
    have HT1 := hide hT1
    clear hn hp hT1 hl1
    go_enter Try.func10, Try.ntmps10
    go_wp2_with fail
    refine HA.out.mono ?_
    rintro e w1 ⟨rfl, hf1⟩
    go_wp2_with fail
    refine (HF.out w1 hf1).mono ?_
    rintro e w2 ⟨rfl, hf2⟩
    have ht := HT1.out w2 (hf1.trans hf2 (fun _ _ h => h))
    clear hf1 hf2
    obtain ⟨vv, hve⟩ : ∃ x, v = x := ⟨v, rfl⟩
    rw [hve] at ht
    have HVE := hide hve
    clear hve HT
    go_upto_region 7 with fail
  case' inr =>
    have hkl : k < l.length := (List.getElem?_eq_some_iff.1 hk).1
    obtain ⟨n, hnl⟩ : ∃ n, l.length = n := ⟨_, rfl⟩
    have hown := HT.out.own
    rw [hnl] at hown hkl hl hlm
    obtain ⟨a, cp, rfl⟩ := own_shape hown
    obtain ⟨g, rfl⟩ : ∃ g, a = some ⟨g, 0, none⟩ := by
      rcases hown.2 with ⟨e, e0⟩ | ⟨g, cap', cs, e, _⟩
      · omega
      · cases e; exact ⟨g, rfl⟩
    have hgt := (hown.lt g rfl).1
    have hD : ∀ w2, Fr (fun _ => False) w w2 → Calls Try.prog 21 #[.slice (some ⟨g, 0, none⟩) n cp, .int .i64 k, .int .i64 ((k : Int) + 1)] w2 fun e w' => e = .returned (.slice (some ⟨g, 0, none⟩) (n - 1) cp) ∧ w'.ownsRow (tb + 1) 53 3 (.slice (some ⟨g, 0, none⟩) (n - 1) cp) (n - 1) (rowOf (l.eraseP (is c))) ∧ Fr (fun k => k = g) w2 w' := fun w2 hf => by
      rw [he]
      exact delete_any w2 (tb + 1) g cp l n hnl.symm (ownsRow_fr hown hf (fun _ _ => id)) k hkl k (k + 1) rfl rfl
    have hl1 : (l.eraseP (is c)).length = n - 1 := by rw [he, List.length_eraseIdx, hnl, if_pos hkl]
    have hc0 : ∀ w2, Fr (fun _ => False) w w2 → w2.cell? ⟨tb, 1, none⟩ = some (.slice (some ⟨g, 0, none⟩) n cp) := fun w2 hf => by rw [cell_of_block (HT.out.fr0 hf).blk]; rfl
    have HC0 := hide hc0
    have HD := hide hD
    have HKL : Hid (k < n) := hkl
    have ik1 : (k : Int) < n := by omega
    unfold doneT
    generalize l.eraseP (is c) = l1 at *
    have HL1 : Hid (n - 1 = l1.length) := hl1.symm
    have HN := hide hnl
    clear hn hp hl1 hD he hk hkl hc0 hown hnl
    go_enter Try.func10, Try.ntmps10
    go_wp2_with fail
    refine HA.out.mono ?_
    rintro e w1 ⟨rfl, hf1⟩
    go_wp2_with fail
    refine (HF.out w1 hf1).mono ?_
    rintro e w2 ⟨rfl, hf2⟩
    have hf12 := hf1.trans hf2 (fun _ _ h => h)
    have e1 := HC0.out w2 hf12
    clear hf1 hf2
    go_wp2_with fail
    refine (HD.out w2 hf12).mono ?_
    rintro e w3 ⟨rfl, hown3, hf3⟩
    have hb3 : w3.heap[tb]? = some (.cells #[.int .i64 most, .slice (some ⟨g, 0, none⟩) n cp] 50 (0, 0)) :=
      (hf3.block tb (lt_of_block (HT.out.fr0 hf12).blk) (by omega)).trans (HT.out.fr0 hf12).blk
    have hf3' : w3.frozen? ⟨tb, 1, none⟩ = false := free_of_block hb3
    have hc3 : w3.cell? ⟨tb, 1, none⟩ = some (.slice (some ⟨g, 0, none⟩) n cp) := by rw [cell_of_block hb3]; rfl
    have ht : Turned w (w3.setCell ⟨tb, 1, none⟩ (.slice (some ⟨g, 0, none⟩) (n - 1) cp)) tb (.slice (some ⟨g, 0, none⟩) n cp) most l1 := by
      refine ⟨.slice (some ⟨g, 0, none⟩) (n - 1) cp, ⟨block_setCell hb3 _, ?_⟩, .inl rfl, ?_⟩
      · rw [← HL1.out]
        exact ownsRow_fr hown3 (Fr.setCell (S := fun k => k = tb) _ _ _ rfl) (fun k hk => by cases hk; show ¬ g = tb; omega)
      · exact (hf12.mono (fun _ _ h => h.elim)).trans ((hf3.mono (S' := fun k => k = tb ∨ some g = some k) (fun k _ hk => by subst hk; exact .inr rfl)).trans (Fr.setCell (S := fun k => k = tb ∨ some g = some k) _ _ _ (.inl rfl)) (fun _ _ h => h)) (fun _ _ h => h)
    clear hb3 hown3 hf3 hf12 e1
    go_upto_region 7 with fail
    generalize w3.setCell ⟨tb, 1, none⟩ (.slice (some ⟨g, 0, none⟩) (n - 1) cp) = w2 at *
    obtain ⟨vv, hve⟩ : ∃ v, Value.slice (some ⟨g, 0, none⟩) n cp = v := ⟨_, rfl⟩
    rw [hve] at ht
    have HVE := hide hve
    clear hve HT HC0 HD
  all_goals
    obtain ⟨v1, ht1, hv1, hf3⟩ := ht
    have c0 : w2.cell? ⟨tb, 1, none⟩ = some v1 := by rw [cell_of_block ht1.blk]; rfl
    have c1 : w2.cell? ⟨tb, 0, none⟩ = some (.int .i64 most) := by rw [cell_of_block ht1.blk]; rfl
    have hb : tb < w2.heap.size := lt_of_block ht1.blk
    obtain ⟨n1, hn1⟩ : ∃ n, l1.length = n := ⟨_, rfl⟩
    have hown := ht1.own
    rw [hn1] at hown hlen1
    obtain ⟨a1, k1, rfl⟩ := own_shape hown
    have HT2 := hide ht1
    have HV1 := hide hv1
    have HF3 := hide hf3
    have hr := Reads.of_own hown
    have hown' : (w2.alloc (.cells #[.string c, .int .i64 i, .string r] 53)).ownsRow (tb + 1) 53 3 (.slice a1 n1 k1) n1 (rowOf l1) := hown.alloc _
    have HO := hide hown'
    have HR := hide (reads_built3 w2 (c, i, r) 53)
    have hM : n1 + 1 ≤ maxLen := by unfold maxLen; omega
    have hone := one_last (c, i, r)
    have hM2 : (n1 + 1) * 40 ≤ 140737488355328 := by omega
    have hM3 : tb + 1 ≤ (w2.alloc (.cells #[.string c, .int .i64 i, .string r] 53)).heap.size := by simp; omega
    have hblk : ∀ w4 : World, (w2.alloc (.cells #[.string c, .int .i64 i, .string r] 53)).grownBy w4 (Value.slice a1 n1 k1).ownBlock → w4.heap[tb]? = some (.cells #[.int .i64 most, .slice a1 n1 k1] 50 (0, 0)) := fun w4 hg =>
      (hg.block tb (by simp; omega) (fun e => by have := (HO.out.lt tb e.symm).1; omega)).trans ((Below.heap_alloc _ _ _ hb).trans HT2.out.blk)
    have HBLK := hide hblk
    have HONE := hide hone
    have HM2 := hide hM2
    have HM3 := hide hM3
    have HL1 := hide hn1
    clear ht1 hv1 hf3 hown hr hown' hone hM2 hM3 hblk hn1
    go_upto_region 8 with (at_builtin; refine wpList_append_reads _ rfl _ _ _ rfl (tb + 1) 53 i0 _ 3 40 Try.underlying48 hi0 hz0 hz1 hz2 zero_size (by decide) _ n1 (rowOf l1) rfl HO.out _ 1 (lc (c, i, r)) rfl HR.out HONE.out hM HM2.out HM3.out ?_; intro v2 w4 hown2 hgrow hat; obtain ⟨a2, k2, rfl⟩ := own_shape hown2; have hc4 := cell_of_block (j := 1) (HBLK.out _ hgrow); have hf4 := free_of_block (j := 1) (HBLK.out _ hgrow); have HO2 := hide hown2; have HG2 := hide hgrow; have HAT := hide hat; clear hown2 hgrow hat)
    have hb5 : (w4.setCell ⟨tb, 1, none⟩ (.slice a2 (n1 + 1) k2)).heap[tb]? = some (.cells #[.int .i64 most, .slice a2 (n1 + 1) k2] 50 (0, 0)) := block_setCell (HBLK.out _ HG2.out) _
    have ht : Turned w (w4.setCell ⟨tb, 1, none⟩ (.slice a2 (n1 + 1) k2)) tb vv most (l1 ++ [(c, i, r)]) := by
      refine ⟨.slice a2 (n1 + 1) k2, ⟨hb5, ?_⟩, ?_, ?_⟩
      · have h5 : w4.ownsRow (tb + 1) 53 3 (.slice a2 (n1 + 1) k2) (l1 ++ [(c, i, r)]).length (rowOf (l1 ++ [(c, i, r)])) := by
          rw [List.length_append, HL1.out, row_append]; simpa [rowOf] using HO2.out
        exact ownsRow_setCell_below h5 (by simp) _
      · rcases HAT.out with hat | hat
        · rcases HV1.out with hv | hv
          · left; rw [← hv]; exact hat
          · right; intro k hk; rw [hat] at hk; exact hv k hk
        · right; intro k hk; rw [hat] at hk; cases hk; have := HF3.out.size; simp; omega
      · refine HF3.out.trans (((Fr.alloc (fun k => k = tb ∨ (Value.slice a1 n1 k1).ownBlock = some k) w2 _).trans (Fr.grown (S := fun k => k = tb ∨ (Value.slice a1 n1 k1).ownBlock = some k) HG2.out (fun k hk => .inr hk)) (fun _ _ h => h)).trans (Fr.setCell (S := fun k => k = tb ∨ (Value.slice a1 n1 k1).ownBlock = some k) _ _ _ (.inl rfl)) (fun _ _ h => h)) ?_
        intro k hk h2
        rcases h2 with h2 | h2
        · exact .inl h2
        · rcases HV1.out with hv | hv
          · right; rw [← hv, h2]
          · have := hv _ h2; omega
    have hl2 : (l1 ++ [(c, i, r)]).length = n1 + 1 := by rw [List.length_append, HL1.out]; rfl
    obtain ⟨l2, hl2e⟩ : ∃ l2, l1 ++ [(c, i, r)] = l2 := ⟨_, rfl⟩
    rw [hl2e] at ht hl2
    have HL2E := hide hl2e
    clear hl2e
    generalize w4.setCell ⟨tb, 1, none⟩ (.slice a2 (n1 + 1) k2) = w5 at *
    clear HT2 HV1 HF3 HO HR HBLK HO2 HG2 HAT hc4 hf4 c0 c1 hb hb5
    obtain ⟨v5, ht5, hv5, hf5⟩ := ht
    have d0 : w5.cell? ⟨tb, 1, none⟩ = some v5 := by rw [cell_of_block ht5.blk]; rfl
    have d1 : w5.cell? ⟨tb, 0, none⟩ = some (.int .i64 most) := by rw [cell_of_block ht5.blk]; rfl
    have hown5 := ht5.own
    rw [hl2] at hown5
    obtain ⟨a5, k5, rfl⟩ := own_shape hown5
    have HT5 := hide ht5
    have HV5 := hide hv5
    have HF5 := hide hf5
    have HOWN := hide hown5
    have HL2 := hide hl2
    clear ht5 hv5 hf5 hown5 hl2
    by_cases hm : most < (n1 : Int) + 1
    · obtain ⟨g, rfl⟩ : ∃ g, a5 = some ⟨g, 0, none⟩ := by
        rcases HOWN.out.2 with ⟨e, e0⟩ | ⟨g, cap', cs, e, _⟩
        · omega
        · cases e; exact ⟨g, rfl⟩
      have hgt := (HOWN.out.lt g rfl).1
      have hD : ∀ nq, Calls Try.prog 21 #[.slice (some ⟨g, 0, none⟩) (n1 + 1) k5, .int .i64 0, .int .i64 1] (w5.drewN nq) fun e w' => e = .returned (.slice (some ⟨g, 0, none⟩) n1 k5) ∧ w'.ownsRow (tb + 1) 53 3 (.slice (some ⟨g, 0, none⟩) n1 k5) n1 (rowOf (l2.eraseIdx 0)) ∧ Fr (fun k => k = g) w5 w' := fun nq => by
        refine (delete_any (w5.drewN nq) (tb + 1) g k5 l2 (n1 + 1) HL2.out.symm (ownsRow_fr HOWN.out ((Fr.refl (fun _ => False) w5).drewN nq) (fun _ _ => id)) 0 (by omega) 0 1 rfl rfl).mono ?_
        rintro e w' ⟨h1, h2, h3⟩
        exact ⟨h1, h2, ((Fr.refl _ w5).drewN nq).trans h3 (fun _ _ h => h)⟩
      have hlose : lose most l2 = l2.eraseIdx 0 := by unfold lose; rw [if_pos (by rw [HL2.out]; omega)]
      have hl3 : (l2.eraseIdx 0).length = n1 := by rw [List.length_eraseIdx, HL2.out, if_pos (by omega)]; rfl
      have HLO := hide hlose
      have HL3 := hide hl3
      have HD := hide hD
      clear hlose hl3 hD
      go_wp2_with fail
      go_quiet (fail)
      go_wp2_with fail
      refine (HD.out _).mono ?_
      rintro e w6 ⟨rfl, hown6, hf6⟩
      have hb6 : w6.heap[tb]? = some (.cells #[.int .i64 most, .slice (some ⟨g, 0, none⟩) (n1 + 1) k5] 50 (0, 0)) := (hf6.block tb (lt_of_block HT5.out.blk) (by omega)).trans HT5.out.blk
      have g0 : w6.cell? ⟨tb, 1, none⟩ = some (.slice (some ⟨g, 0, none⟩) (n1 + 1) k5) := by rw [cell_of_block hb6]; rfl
      have g1 : w6.frozen? ⟨tb, 1, none⟩ = false := free_of_block hb6
      have HB6 := hide hb6
      have HO6 := hide hown6
      have HF6 := hide hf6
      clear hb6 hown6 hf6
      go_wp2_with fail
      go_ret
      rw [HL2E.out, HLO.out, HVE.out]
      refine ⟨rfl, .slice (some ⟨g, 0, none⟩) n1 k5, ⟨block_setCell HB6.out _, ?_⟩, HV5.out, ?_⟩
      · rw [HL3.out]
        exact ownsRow_fr HO6.out (Fr.setCell (S := fun k => k = tb) _ _ _ rfl) (fun k hk => by cases hk; show ¬ g = tb; omega)
      · refine HF5.out.trans ((HF6.out.mono (S' := fun k => k = tb ∨ k = g) (fun k _ hk => .inr hk)).trans (Fr.setCell (S := fun k => k = tb ∨ k = g) _ _ _ (.inl rfl)) (fun _ _ h => h)) ?_
        intro k hk h2
        rcases h2 with h2 | h2
        · exact .inl h2
        · rcases HV5.out with hv | hv
          · right; rw [← hv, h2]; rfl
          · have := hv _ rfl; simp at this; omega
    · have hlose : lose most l2 = l2 := by unfold lose; rw [if_neg (by rw [HL2.out]; omega)]
      have HLO := hide hlose
      clear hlose
      go_wp2_with fail
      go_quiet (fail)
      go_wp2_with fail
      go_ret
      rw [HL2E.out, HLO.out, HVE.out]
      exact ⟨rfl, _, HT5.out.fr0 ((Fr.refl _ _).drewN _), HV5.out, HF5.out.drewN _⟩
end Go.Proofs.Ytmbmknhpfolkkaa
