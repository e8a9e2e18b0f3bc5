/- Vote of a transaction. -/
import Derived.Test.YtehneddmamnmiaaTxn2
import Derived.Test.YtehneddmamnmiaaGoto2
namespace Go.Proofs.Ytehneddmamnmiaa
open Go.RowKit Go.Maps Go.Cv Go.Shelf
set_option linter.unusedVariables false

def keys (r : TxR) : List Int := r.V.map (·.1)
/-- The places of a group's operations. -/
def atOf (r : TxR) (g : Int) : List Int := ((r.S.find? (fun x => decide (x.1 = g))).map (·.2)).getD []
def voteR (r : TxR) (g : Int) (yes : Bool) (ts : List ByteArray) (p y : Int) : TxR :=
  if r.o ≠ 0 ∨ g ∉ grp r ∨ g ∈ keys r then r
  else if yes = false then (if y ≠ 35 ∧ y ≠ 36 then { r with o := 3, pos := p, why := y } else { r with o := 2 })
  else if ts.length ≠ (atOf r g).length then r
  else { r with V := r.V ++ [(g, ts)], o := if r.V.length + 1 = r.S.length then 1 else 0 }

theorem at_of_ix {r : TxR} {g : Int} {k : Nat} (h1 : (grp r)[k]? = some g) (h2 : ∀ j : Nat, j < k → (grp r)[j]? ≠ some g) : ∃ x, r.S[k]? = some x ∧ x.1 = g ∧ atOf r g = x.2 := by
  unfold grp at h1 h2
  rw [List.getElem?_map] at h1
  cases hx : r.S[k]? with
  | none => rw [hx] at h1; cases h1
  | some x =>
    rw [hx] at h1
    have hxg : x.1 = g := Option.some.inj h1
    refine ⟨x, rfl, hxg, ?_⟩
    have : r.S.find? (fun x => decide (x.1 = g)) = some x := by
      rw [List.find?_eq_some_iff_getElem]
      obtain ⟨hk, hkx⟩ := List.getElem?_eq_some_iff.1 hx
      refine ⟨by simpa using hxg, k, hk, hkx, fun j hj => ?_⟩
      have := h2 j hj
      rw [List.getElem?_map, List.getElem?_eq_getElem (by omega)] at this
      simp at this ⊢
      exact this
    unfold atOf
    rw [this]; rfl

theorem zeroStrs (w : World) : (zeroValue 22).run Try.prog w = .ok (.slice none 0 0) w := by kernel_rfl

set_option maxRecDepth 100000 in
set_option maxHeartbeats 3200000 in
theorem vote_any (w : World) (X : Nat → Prop) (b0 tb : Nat) (r : TxR) (h : TX w X b0 tb r) (hS : r.S.length ≤ 3) (hV : r.V.length ≤ 1000) (hb0 : b0 ≤ w.heap.size) (g : Int) (hg : (Lit.int .i64 g).wf = true) (yes : Bool) (tv : Value) (ts : List ByteArray) (ht : Reads w tv ts.length 1 (ts.map .string)) (hts : ts.length ≤ 1000000) (p y : Int) :
    Calls Try.prog 15 #[.pointer (some ⟨tb, 0, none⟩), .int .i64 g, .bool yes, tv, .int .i64 p, .int .i64 y] w fun e w' => e = .returned (.tuple #[]) ∧ TX w' X b0 tb (voteR r g yes ts p y) ∧ Fr (Own X b0) w w' := by
  obtain ⟨B, vb, kb, vo, vp, vg, va, vs, vals, h⟩ := h
  have c8 : w.cell? ⟨tb, 8, none⟩ = some (.int .i64 r.o) := h.c 8
  have c4 : w.cell? ⟨tb, 4, none⟩ = some vg := h.c 4
  have c5 : w.cell? ⟨tb, 5, none⟩ = some va := h.c 5
  have c6 : w.cell? ⟨tb, 6, none⟩ = some (.map (some vb)) := h.c 6
  have f8 := h.free 8
  obtain ⟨i, hi⟩ := ix_ex (grp r) g
  have hI := index_any w vg (grp r) h.groups (by unfold grp; rw [List.length_map]; omega) g i hi
  have hkey : keyOf Try.prog 3 (.int .i64 g) = some (.int .i64 g) := keyOf_int_mk Try.underlying3 hg
  obtain ⟨o, ho⟩ : ∃ o, r.o = o := ⟨_, rfl⟩
  rw [ho] at c8
  obtain ⟨ok, hok⟩ : ∃ ok, (votF r.V vals (.int .i64 g)).isSome = ok := ⟨_, rfl⟩
  obtain ⟨u, hu⟩ : ∃ u, (votF r.V vals (.int .i64 g)).getD (.slice none 0 0) = u := ⟨_, rfl⟩
  have hokm : ok = decide (g ∈ keys r) := by
    rw [← hok]; unfold votF keys
    by_cases hm : g ∈ r.V.map (·.1) <;> simp [hm]
  have hvm := h.vm.toF
  have hcase : ((o != 0) = true ∨ ((o != 0) = false ∧ i < 0) ∨ ((o != 0) = false ∧ ¬ i < 0 ∧ ok = true)) ∧ voteR r g yes ts p y = r ∨
      ((o != 0) = false ∧ ok = false ∧ ∃ (k : Nat) (x : Int × List Int), i = k ∧ r.S[k]? = some x ∧ x.1 = g ∧ atOf r g = x.2 ∧ g ∈ grp r ∧ g ∉ keys r) := by
    by_cases h1 : o = 0
    · rcases hi with ⟨h2, h3⟩ | ⟨k, h2, h3, h4⟩
      · left
        refine ⟨.inr (.inl ⟨by simp [h1], by omega⟩), ?_⟩
        unfold voteR; rw [if_pos (.inr (.inl h3))]
      · cases hk : ok with
        | true =>
          left
          refine ⟨.inr (.inr ⟨by simp [h1], by omega, rfl⟩), ?_⟩
          unfold voteR; rw [if_pos]
          rw [hk] at hokm
          exact .inr (.inr (of_decide_eq_true hokm.symm))
        | false =>
          right
          rw [hk] at hokm
          obtain ⟨x, q1, q2, q3⟩ := at_of_ix h3 h4
          exact ⟨by simp [h1], rfl, k, x, h2, q1, q2, q3, List.mem_of_getElem? h3, of_decide_eq_false hokm.symm⟩
    · left
      refine ⟨.inl (by rw [bne_iff_ne]; exact h1), ?_⟩
      unfold voteR; rw [if_pos (.inl (by rw [ho]; exact h1))]
  have HH := hide h
  have HO := hide ho
  have HI := hide hI
  have HT := hide ht
  have HVM := hide hvm
  clear h ho hI ht hi hokm
  rcases hcase with ⟨hc, he⟩ | ⟨hob, rfl, k, x, rfl, hx, hxg, hat, hgm, hgk⟩
  · rw [he]
    clear he
    have hvm := HVM.out
    rcases hc with h1 | ⟨h1, h2⟩ | ⟨h1, h2, rfl⟩
    all_goals
      go_enter Try.func15, Try.ntmps15
      go_wp2_with fail
      refine wp_scope_fwd (fun a' w' => a'.defers = [] ∧ TX w' X b0 tb r ∧ Fr (Own X b0) w w') rfl rfl ?_ ?_
      · rintro a' w' hJ
        go_wp2_with fail
        simp only [Exit.jumps]
        exact bodyPost_end (results_none Try.results15 _ _ _) hJ.1 ⟨rfl, hJ.2⟩
      go_wp2_with fail
      refine HI.out.mono ?_
      rintro e w1 ⟨rfl, rfl⟩
      go_wp2_with (first
        | (at_lookup; refine wpList_lookup_mf _ rfl _ _ 82 rfl 3 22 law Try.underlying82 (zeroStrs _) vb r.V.length _ rfl hvm _ _ rfl hkey u _ hu hok ?_)
        | fail)
      go_step3
      exact ⟨rfl, ⟨B, vb, kb, vo, vp, vg, va, vs, vals, HH.out⟩, Fr.refl _ _⟩
  · have ik0 : ¬ (k : Int) < 0 := by omega
    have hvm := HVM.out
    have hne1 : ¬ (r.o ≠ 0 ∨ g ∉ grp r ∨ g ∈ keys r) := by
      rw [HO.out]
      have : o = 0 := by simpa using hob
      intro hh; rcases hh with hh | hh | hh
      · exact hh this
      · exact hh hgm
      · exact hgk hh
    have hvr : voteR r g yes ts p y = if yes = false then (if y ≠ 35 ∧ y ≠ 36 then { r with o := 3, pos := p, why := y } else { r with o := 2 })
        else if ts.length ≠ (atOf r g).length then r else { r with V := r.V ++ [(g, ts)], o := if r.V.length + 1 = r.S.length then 1 else 0 } := by
      unfold voteR; rw [if_neg hne1]
    rw [hvr]
    clear hvr hne1
    have HGK := hide hgk
    have HX := hide hx
    have HAT := hide hat
    clear hgk hx hat hgm hxg
    cases yes with
    | false =>
      rw [if_pos rfl]
      have hyc : ((y != 35) = false ∧ ¬ (y ≠ 35 ∧ y ≠ 36)) ∨ ((y != 35) = true ∧ (y != 36) = false ∧ ¬ (y ≠ 35 ∧ y ≠ 36)) ∨ ((y != 35) = true ∧ (y != 36) = true ∧ (y ≠ 35 ∧ y ≠ 36)) := by
        by_cases h1 : y = 35
        · left; simp [h1]
        · by_cases h2 : y = 36
          · right; left; simp [h2]
          · right; right; simp [h1, h2]
      have e8 : (w.setCell ⟨tb, 8, none⟩ (.int .i64 2)).heap[tb]? = some (.cells (tcells { r with o := 2 } vo vp vg va vb kb) 85 (0, 0)) := by rw [block_setCell HH.out.blk]; rfl
      obtain ⟨w2, hw2⟩ : ∃ w2, w.setCell ⟨tb, 8, none⟩ (.int .i64 2) = w2 := ⟨_, rfl⟩
      have hf2 : Fr (fun k => k = tb) w w2 := by rw [← hw2]; exact Fr.setCell _ _ _ rfl
      rw [hw2] at e8
      have d8 : w2.cell? ⟨tb, 8, none⟩ = some (.int .i64 2) := by rw [cell_of_block e8]; rfl
      have d9 : w2.cell? ⟨tb, 9, none⟩ = some (.int .i64 r.pos) := by rw [cell_of_block e8]; rfl
      have d10 : w2.cell? ⟨tb, 10, none⟩ = some (.int .i64 r.why) := by rw [cell_of_block e8]; rfl
      have g8 : w2.frozen? ⟨tb, 8, none⟩ = false := free_of_block e8
      have g9 : w2.frozen? ⟨tb, 9, none⟩ = false := free_of_block e8
      have g10 : w2.frozen? ⟨tb, 10, none⟩ = false := free_of_block e8
      have HT2 : Hid (Tx w2 X b0 B tb vb kb vo vp vg va vs vals { r with o := 2 }) := HH.out.field _ e8 hf2 rfl rfl rfl rfl rfl
      have HW2 := hide hw2
      have HF2 := hide hf2
      clear e8 hw2 hf2
      rcases hyc with ⟨y1, y2⟩ | ⟨y1, y2, y3⟩ | ⟨y1, y2, y3⟩
      · rw [if_neg y2]
        clear y2
        go_enter Try.func15, Try.ntmps15
        go_wp2_with fail
        refine wp_scope_fwd (fun a' w' => a'.defers = [] ∧ TX w' X b0 tb { r with o := 2 } ∧ Fr (Own X b0) w w') rfl rfl ?_ ?_
        · rintro a' w' hJ
          go_wp2_with fail
          simp only [Exit.jumps]
          exact bodyPost_end (results_none Try.results15 _ _ _) hJ.1 ⟨rfl, hJ.2⟩
        go_wp2_with fail
        refine HI.out.mono ?_
        rintro e w1 ⟨rfl, rfl⟩
        go_wp2_with (first
          | (at_lookup; refine wpList_lookup_mf _ rfl _ _ 82 rfl 3 22 law Try.underlying82 (zeroStrs _) vb r.V.length _ rfl hvm _ _ rfl hkey u _ hu hok ?_)
          | fail)
        go_step3
        change Code.wp _ _ _ _ _
        go_upto_region 9 with fail
        rw [HW2.out]
        go_wp2_with fail
        go_step3
        dsimp (config := { zetaDelta := true }) only [Exit.jumps, Exit.then, Exit.inBlock]
        exact bodyPost_end (results_none rfl _ _ _) rfl ⟨rfl, ⟨B, vb, kb, vo, vp, vg, va, vs, vals, HT2.out⟩, HF2.out.mono (fun k _ e => by subst e; exact ⟨HH.out.t0, HH.out.xt⟩)⟩
      · rw [if_neg y3]
        clear y3
        go_enter Try.func15, Try.ntmps15
        go_wp2_with fail
        refine wp_scope_fwd (fun a' w' => a'.defers = [] ∧ TX w' X b0 tb { r with o := 2 } ∧ Fr (Own X b0) w w') rfl rfl ?_ ?_
        · rintro a' w' hJ
          go_wp2_with fail
          simp only [Exit.jumps]
          exact bodyPost_end (results_none Try.results15 _ _ _) hJ.1 ⟨rfl, hJ.2⟩
        go_wp2_with fail
        refine HI.out.mono ?_
        rintro e w1 ⟨rfl, rfl⟩
        go_wp2_with (first
          | (at_lookup; refine wpList_lookup_mf _ rfl _ _ 82 rfl 3 22 law Try.underlying82 (zeroStrs _) vb r.V.length _ rfl hvm _ _ rfl hkey u _ hu hok ?_)
          | fail)
        go_step3
        change Code.wp _ _ _ _ _
        go_upto_region 9 with fail
        rw [HW2.out]
        go_wp2_with fail
        go_step3
        dsimp (config := { zetaDelta := true }) only [Exit.jumps, Exit.then, Exit.inBlock]
        exact bodyPost_end (results_none rfl _ _ _) rfl ⟨rfl, ⟨B, vb, kb, vo, vp, vg, va, vs, vals, HT2.out⟩, HF2.out.mono (fun k _ e => by subst e; exact ⟨HH.out.t0, HH.out.xt⟩)⟩
      · rw [if_pos y3]
        clear y3
        obtain ⟨w3, hw3⟩ : ∃ w3, ((w2.setCell ⟨tb, 8, none⟩ (.int .i64 3)).setCell ⟨tb, 9, none⟩ (.int .i64 p)).setCell ⟨tb, 10, none⟩ (.int .i64 y) = w3 := ⟨_, rfl⟩
        have hf3 : Fr (fun k => k = tb) w2 w3 := by
          rw [← hw3]
          exact ((Fr.setCell (S := fun k => k = tb) _ _ _ rfl).trans (Fr.setCell (S := fun k => k = tb) _ _ _ rfl) (fun _ _ h => h)).trans (Fr.setCell (S := fun k => k = tb) _ _ _ rfl) (fun _ _ h => h)
        have e3 : w3.heap[tb]? = some (.cells (tcells { r with o := 3, pos := p, why := y } vo vp vg va vb kb) 85 (0, 0)) := by
          rw [← hw3, block_setCell (block_setCell (block_setCell HT2.out.blk _) _) _]; rfl
        have HT3 : Hid (Tx w3 X b0 B tb vb kb vo vp vg va vs vals { r with o := 3, pos := p, why := y }) := HT2.out.field _ e3 hf3 rfl rfl rfl rfl rfl
        have HW3 := hide hw3
        have HF3 := hide (HF2.out.trans hf3 (fun _ _ h => h))
        clear hw3 hf3 e3
        go_enter Try.func15, Try.ntmps15
        go_wp2_with fail
        refine wp_scope_fwd (fun a' w' => a'.defers = [] ∧ TX w' X b0 tb { r with o := 3, pos := p, why := y } ∧ Fr (Own X b0) w w') rfl rfl ?_ ?_
        · rintro a' w' hJ
          go_wp2_with fail
          simp only [Exit.jumps]
          exact bodyPost_end (results_none Try.results15 _ _ _) hJ.1 ⟨rfl, hJ.2⟩
        go_wp2_with fail
        refine HI.out.mono ?_
        rintro e w1 ⟨rfl, rfl⟩
        go_wp2_with (first
          | (at_lookup; refine wpList_lookup_mf _ rfl _ _ 82 rfl 3 22 law Try.underlying82 (zeroStrs _) vb r.V.length _ rfl hvm _ _ rfl hkey u _ hu hok ?_)
          | fail)
        go_step3
        change Code.wp _ _ _ _ _
        go_upto_region 9 with fail
        rw [HW2.out]
        go_wp2_with fail
        rw [HW3.out]
        go_step3
        dsimp (config := { zetaDelta := true }) only [Exit.jumps, Exit.then, Exit.inBlock]
        exact bodyPost_end (results_none rfl _ _ _) rfl ⟨rfl, ⟨B, vb, kb, vo, vp, vg, va, vs, vals, HT3.out⟩, HF3.out.mono (fun k _ e => by subst e; exact ⟨HH.out.t0, HH.out.xt⟩)⟩
    | true =>
      rw [if_neg (by simp)]
      have hvl := HH.out.sp.len
      have hkS := (List.getElem?_eq_some_iff.1 HX.out).1
      obtain ⟨pv, hpv⟩ : ∃ pv, vs[k]? = some pv := ⟨_, List.getElem?_eq_getElem (by omega)⟩
      obtain ⟨hpr, _⟩ := HH.out.sp.rd k x pv HX.out hpv
      obtain ⟨-, ap, cp, rfl, -, -, -⟩ := id hpr
      have hra := Reads.of_own HH.out.sp.a
      obtain ⟨-, aa, ca, rfl, -, -, hca⟩ := hra
      obtain ⟨b5, o5, rfl, e5⟩ := hca k (.slice ap x.2.length cp) hpv
      have ikS : (k : Int) < (r.S.length : Int) := by omega
      have ik1 : (0 : Int) ≤ (k : Int) := by omega
      have htl : (atOf r g).length = x.2.length := by rw [HAT.out]
      rw [htl]
      obtain ⟨nt, hnt⟩ : ∃ nt, ts.length = nt := ⟨_, rfl⟩
      obtain ⟨na, hna⟩ : ∃ na, x.2.length = na := ⟨_, rfl⟩
      obtain ⟨nS, hnS⟩ : ∃ nS, r.S.length = nS := ⟨_, rfl⟩
      rw [hna] at e5 ⊢
      rw [hnS] at c5 ikS
      have ht' := HT.out
      rw [hnt] at ht' hts ⊢
      obtain ⟨-, at', ct, rfl, -, -, -⟩ := id ht'
      have HT' := hide ht'
      have HNT := hide hnt
      have HNS := hide hnS
      clear hca hpr hpv ht' hnt hnS hna htl hvl hkS
      by_cases hne : nt ≠ na
      · rw [if_pos hne]
        have hneb : (((nt : Int)) != ((na : Int))) = true := by rw [bne_iff_ne]; omega
        clear hne
        go_enter Try.func15, Try.ntmps15
        go_wp2_with fail
        refine wp_scope_fwd (fun a' w' => a'.defers = [] ∧ TX w' X b0 tb r ∧ Fr (Own X b0) w w') rfl rfl ?_ ?_
        · rintro a' w' hJ
          go_wp2_with fail
          simp only [Exit.jumps]
          exact bodyPost_end (results_none Try.results15 _ _ _) hJ.1 ⟨rfl, hJ.2⟩
        go_wp2_with fail
        refine HI.out.mono ?_
        rintro e w1 ⟨rfl, rfl⟩
        go_wp2_with (first
          | (at_lookup; refine wpList_lookup_mf _ rfl _ _ 82 rfl 3 22 law Try.underlying82 (zeroStrs _) vb r.V.length _ rfl hvm _ _ rfl hkey u _ hu hok ?_)
          | fail)
        go_step3
        exact ⟨rfl, ⟨B, vb, kb, vo, vp, vg, _, vs, vals, HH.out⟩, Fr.refl _ _⟩
      · rw [if_neg hne]
        have hneb : (((nt : Int)) != ((na : Int))) = false := by simp at hne; simp [hne]
        have hts2 : nt * 16 ≤ 140737488355328 := by omega
        have HCL := hide (fun wx hfx => cloneStr_any wx (.slice at' nt ct) nt (ts.map .string) (reads_old HT'.out (hfx : Fr (fun _ => False) w wx) (fun _ _ => id)) (by intro u hu; obtain ⟨q, _, rfl⟩ := List.mem_map.1 hu; rfl) hts2)
        clear hne
        have hgo := HH.out.sp.g
        rw [HNS.out] at hgo
        obtain ⟨ag, cg, rfl⟩ := own_shape hgo
        clear hgo
        obtain ⟨nV, hnV⟩ : ∃ nV, r.V.length + 1 = nV := ⟨_, rfl⟩
        rw [HNS.out, hnV]
        obtain ⟨o', ho'⟩ : ∃ o', (if nV = nS then (1 : Int) else 0) = o' := ⟨_, rfl⟩
        rw [ho']
        have HNV := hide hnV
        have HO' := hide ho'
        clear hnV ho'
        go_enter Try.func15, Try.ntmps15
        go_wp2_with fail
        refine wp_scope_fwd (fun a' w' => a'.defers = [] ∧ TX w' X b0 tb { r with V := r.V ++ [(g, ts)], o := o' } ∧ Fr (Own X b0) w w') rfl rfl ?_ ?_
        · rintro a' w' hJ
          go_wp2_with fail
          simp only [Exit.jumps]
          exact bodyPost_end (results_none Try.results15 _ _ _) hJ.1 ⟨rfl, hJ.2⟩
        go_wp2_with fail
        refine HI.out.mono ?_
        rintro e w1 ⟨rfl, rfl⟩
        go_upto_region 5 with (first
          | (at_lookup; refine wpList_lookup_mf _ rfl _ _ 82 rfl 3 22 law Try.underlying82 (zeroStrs _) vb r.V.length _ rfl hvm _ _ rfl hkey u _ hu hok ?_)
          | fail)
        have hfd : Fr (fun _ => False) w1 w1.drew := (Fr.refl (fun _ => False) w1).drew
        have hd6 : w1.drew.cell? ⟨tb, 6, none⟩ = some (.map (some vb)) := c6
        have HFD := hide hfd
        clear hfd
        go_region_with
          ((go_at_call 40; refine (HCL.out _ HFD.out).mono ?_; rintro e y1 ⟨cv, rfl, ho1, hf1⟩; have hfy := HFD.out.trans hf1 (fun _ _ h => h); have hy6 : y1.cell? ⟨tb, 6, none⟩ = some (.map (some vb)) := (by rw [(HH.out.fr0 hfy).c]; rfl); obtain ⟨w3, hrun, hm3, ht3⟩ := (HH.out.fr0 hfy).vm.store law Try.underlying82 (by unfold maxLen; omega) cv hkey; have HM3 := hide hm3; have HT3 := hide ht3; have HFY := hide hfy; have HO1 := hide ho1; clear hm3 ht3 hfy ho1 hf1))
        all_goals
          have hm3 := HM3.out
          rw [hok] at hm3
          have hyT := HH.out.fr0 HFY.out
          have hrc := Reads.of_own HO1.out
          rw [← HNT.out] at hrc
          have hfb : FB y1.heap.size X tb vb kb cv := fun a n c e => by
            subst e
            have hlt := HO1.out.lt a.block rfl
            have h1 : w1.heap.size ≤ a.block := hlt.1
            have l1 := HH.out.lt
            have l2 := HH.out.vm.lt
            have l3 := HH.out.ak.lt
            exact ⟨⟨fun hx => by have := HH.out.xl _ hx; omega, by omega, by omega, by omega⟩, hlt.2⟩
          have hT := hyT.voted g ts cv HGK.out hrc hfb hm3 (Fr.turned HT3.out rfl)
          have hFr := (HFY.out.mono (S' := fun k => k = vb) (fun _ _ h => h.elim)).trans (Fr.turned (S := fun k => k = vb) HT3.out rfl) (fun _ _ h => h)
          obtain ⟨vals2, hT2⟩ : ∃ vals2, Tx w3 X b0 B tb vb kb vo vp (.slice ag nS cg) _ vs vals2 { r with V := r.V ++ [(g, ts)] } := ⟨_, hT⟩
          clear hT hm3 hyT hfb hrc hrun hy6
          have q6 : w3.cell? ⟨tb, 6, none⟩ = some (.map (some vb)) := hT2.c 6
          have q4 : w3.cell? ⟨tb, 4, none⟩ = some (.slice ag nS cg) := hT2.c 4
          have g8 := hT2.free 8
          have hlen : (Builtin.len_ #[82] 3 #[.map (some vb)]).run Try.prog w3 = .ok (.int .i64 nV) w3 := by
            have h1 := hT2.vm.len Try.underlying82 3
            have h2 : (r.V ++ [(g, ts)]).length = nV := by rw [List.length_append]; exact HNV.out
            rw [h2] at h1; exact h1
          have HT2 := hide hT2
          have HFr := hide hFr
          clear hT2 hFr
          have hcase : ((nV : Int) == (nS : Int)) = true ∧ o' = 1 ∨ ((nV : Int) == (nS : Int)) = false ∧ o' = 0 := by
            have := HO'.out
            by_cases e : nV = nS
            · left; rw [if_pos e] at this; exact ⟨by simp [e], this.symm⟩
            · right; rw [if_neg e] at this; exact ⟨by simp; omega, this.symm⟩
          rcases hcase with ⟨hq, rfl⟩ | ⟨hq, rfl⟩
          · go_wp2_with fail
            have hlend : (Builtin.len_ #[82] 3 #[.map (some vb)]).run Try.prog w3.drew = .ok (.int .i64 nV) w3.drew := by
              have h1 := (HT2.out.fr0 ((Fr.refl (fun _ => False) w3).drew)).vm.len Try.underlying82 3
              have h2 : (r.V ++ [(g, ts)]).length = nV := by rw [List.length_append]; exact HNV.out
              rw [h2] at h1; exact h1
            go_region_held3 (fun w' => w'.cell? ⟨tb, 6, none⟩ = some (.map (some vb)) ∧ w'.cell? ⟨tb, 4, none⟩ = some (.slice ag nS cg) ∧ (Builtin.len_ #[82] 3 #[.map (some vb)]).run Try.prog w' = .ok (.int .i64 nV) w') (go_keep) (fail)
            have q8 : w3.cell? ⟨tb, 8, none⟩ = some (.int .i64 r.o) := HT2.out.c 8
            have q8d : w3.drew.cell? ⟨tb, 8, none⟩ = some (.int .i64 r.o) := q8
            have g8d : w3.drew.frozen? ⟨tb, 8, none⟩ = false := g8
            go_wp2_with fail
            go_step3
            have hs : Fr (fun k => k = tb) w3 (w3.setCell ⟨tb, 8, none⟩ (.int .i64 1)).drew := (Fr.setCell (S := fun k => k = tb) w3 ⟨tb, 8, none⟩ (.int .i64 1) rfl).drew
            have hfin : TX (w3.setCell ⟨tb, 8, none⟩ (.int .i64 1)).drew X b0 tb { r with V := r.V ++ [(g, ts)], o := 1 } := ⟨B, vb, kb, vo, vp, _, _, vs, vals2, HT2.out.field { r with V := r.V ++ [(g, ts)], o := 1 } (by show (w3.setCell ⟨tb, 8, none⟩ (.int .i64 1)).heap[tb]? = _; rw [block_setCell HT2.out.blk]; rfl) hs rfl rfl rfl rfl rfl⟩
            have hff : Fr (Own X b0) w1 (w3.setCell ⟨tb, 8, none⟩ (.int .i64 1)).drew := (HFr.out.step hs).mono (fun k _ e => by
              rcases e with e | e
              · subst e; exact ⟨HH.out.v0, HH.out.xv⟩
              · subst e; exact ⟨HH.out.t0, HH.out.xt⟩)
            dsimp (config := { zetaDelta := true }) only [Exit.jumps, Exit.then, Exit.inBlock]
            exact ⟨rfl, hfin, hff⟩
          · go_wp2_with fail
            have hlend : (Builtin.len_ #[82] 3 #[.map (some vb)]).run Try.prog w3.drew = .ok (.int .i64 nV) w3.drew := by
              have h1 := (HT2.out.fr0 ((Fr.refl (fun _ => False) w3).drew)).vm.len Try.underlying82 3
              have h2 : (r.V ++ [(g, ts)]).length = nV := by rw [List.length_append]; exact HNV.out
              rw [h2] at h1; exact h1
            go_region_held3 (fun w' => w'.cell? ⟨tb, 6, none⟩ = some (.map (some vb)) ∧ w'.cell? ⟨tb, 4, none⟩ = some (.slice ag nS cg) ∧ (Builtin.len_ #[82] 3 #[.map (some vb)]).run Try.prog w' = .ok (.int .i64 nV) w') (go_keep) (fail)
            go_wp2_with fail
            go_step3
            have ho : r.o = 0 := by rw [HO.out]; simpa using hob
            have hfin : TX w3.drew X b0 tb { r with V := r.V ++ [(g, ts)], o := 0 } := ⟨B, vb, kb, vo, vp, _, _, vs, vals2, by rw [← ho]; exact HT2.out.fr0 ((Fr.refl (fun _ => False) w3).drew)⟩
            have hff : Fr (Own X b0) w1 w3.drew := HFr.out.drew.mono (fun k _ e => by subst e; exact ⟨HH.out.v0, HH.out.xv⟩)
            dsimp (config := { zetaDelta := true }) only [Exit.jumps, Exit.then, Exit.inBlock]
            exact ⟨rfl, hfin, hff⟩
end Go.Proofs.Ytehneddmamnmiaa
