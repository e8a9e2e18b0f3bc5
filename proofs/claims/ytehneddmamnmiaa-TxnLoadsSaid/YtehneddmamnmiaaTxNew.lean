/- New of a transaction. -/
import Derived.Test.YtehneddmamnmiaaTxn3
import Derived.Test.YtehneddmamnmiaaNews
namespace Go.Proofs.Ytehneddmamnmiaa
open Go.RowKit Go.Maps Go.Cv Go.Shelf
set_option linter.unusedVariables false

def newR (tx : ByteArray) (ops : List O4) (ep : Int) (l : List P3) : TxR := ⟨tx, ops, ep, l, splitG (ownAt l ops) ops.length 3, [], [], 0, 0, 0⟩

set_option maxRecDepth 100000 in
set_option maxHeartbeats 3200000 in
theorem newTx_any (w : World) (tx : ByteArray) (htx : tx ≠ ⟨#[]⟩) (s3 : Option Addr) (n3 c3 : Nat) (ops : List O4) (h3 : Reads w (.slice s3 n3 c3) n3 4 (rowO ops)) (hl3 : ops.length = n3) (h30 : n3 ≠ 0) (h34 : n3 ≤ 4) (hsz : ∀ x ∈ ops, x.2.1.size ≤ maxLen)
    (ep : Int) (a : Option Addr) (n c : Nat) (l : List P3) (h : RD w a n c l) (hr : rightM ep l = true) :
    Calls Try.prog 10 #[.string tx, .slice s3 n3 c3, .agg #[.int .i64 ep, .slice a n c]] w fun e w' => ∃ tb, e = .returned (.tuple #[.pointer (some ⟨tb, 0, none⟩), .int .i64 0]) ∧ TX w' (fun k => k < w.heap.size) w.heap.size tb (newR tx ops ep l) ∧ Fr (fun _ => False) w w' := by
  have hM := MV.made ep h
  obtain ⟨wa, hwa⟩ : ∃ wa, w.alloc (.cells #[.int .i64 ep, .slice a n c] 30) = wa := ⟨_, rfl⟩
  have hfa : Fr (fun _ => False) w wa := by rw [← hwa]; exact Fr.alloc _ _ _
  have hsza : wa.heap.size = w.heap.size + 1 := by rw [← hwa]; simp
  rw [hwa] at hM
  obtain ⟨pb, hpb⟩ : ∃ pb, w.heap.size = pb := ⟨_, rfl⟩
  rw [hpb] at hM hsza
  have hri := rightC wa ep a n c l hM.2
  rw [hr] at hri
  have htxb : (tx.toList == []) = false := by have := bytes_beq htx; simpa using this
  have i30 : ((n3 : Int) == 0) = false := by simp; omega
  have i34 : ¬ (4 < (n3 : Int)) := by omega
  have c0 := hM.c0
  have c1 := hM.c1
  have HRI := hide hri
  have HFA := hide hfa
  have HWA := hide hwa
  have HPB := hide hpb
  have HSZ := hide hsza
  have H3 := hide h3
  have HL3 := hide hl3
  have HG := hide hsz
  have HM := hide hM
  have HR := hide hr
  clear hM hfa hwa hri h hr h3 hl3 hsz hpb hsza
  go_enter Try.func10, Try.ntmps10
  go_upto_region 1 with fail
  rw [HWA.out, HPB.out]
  go_wp2_with fail
  refine HRI.out.mono ?_
  rintro e w1 ⟨rfl, hf1⟩
  have HF1 := hide hf1
  clear hf1 c0 c1
  go_upto_region 3 with fail
  have hc01 : ∀ wx, Fr (fun _ => False) w1 wx → wx.cell? ⟨pb, 0, none⟩ = some (.int .i64 ep) ∧ wx.cell? ⟨pb, 1, none⟩ = some (.slice a n c) := fun wx hx => by
    have := (HM.out.fr0 HF1.out).fr0 hx
    exact ⟨this.c0, this.c1⟩
  have HC01 := hide hc01
  have hfw1 : Fr (fun _ => False) w w1 := HFA.out.trans HF1.out (fun _ _ h => h)
  have HFW1 := hide hfw1
  clear hc01 hfw1
  refine wp_region_news [Lft.is (.string tx), Lft.is (.slice s3 n3 c3), Lft.own (fun v w' => w'.ownsRow (pb + 1) 26 4 v n3 (rowO ops)) (fun u w1 w2 h g => ownsRow_fr h g (fun _ _ => id)), Lft.is (.pointer (some ⟨pb, 0, none⟩)), Lft.is (.int .i64 ep),
    Lft.is (.pointer (some ⟨pb, 1, none⟩)), Lft.is (.slice a n c), Lft.own (fun v w' => w'.ownsRow (pb + 1) 78 3 v n (rowP l)) (fun u w1 w2 h g => ownsRow_fr h g (fun _ _ => id)), Lft.of [7] (fun vs => .agg #[.int .i64 ep, vs 7]) (fun vs vs' h => by simp only [h 7 (by simp)]),
    Lft.own (fun v w' => ∃ b, v = .map (some b) ∧ mapN w' Try.prog 3 b 0 (fun _ => none)) (fun u w1 w2 h g => by obtain ⟨b, e, hm⟩ := h; exact ⟨b, e, hm.of_block (g.block b hm.lt id)⟩),
    Lft.own (fun v w' => ∃ b, v = .map (some b) ∧ mapN w' Try.prog 3 b 0 (fun _ => none)) (fun u w1 w2 h g => by obtain ⟨b, e, hm⟩ := h; exact ⟨b, e, hm.of_block (g.block b hm.lt id)⟩),
    Lft.of [2, 7, 9, 10] (fun vs => .agg #[.string tx, vs 2, .int .i64 ep, vs 7, .slice none 0 0, .slice none 0 0, vs 9, vs 10, .int .i64 0, .int .i64 0, .int .i64 0]) (fun vs vs' h => by simp only [h 2 (by simp), h 7 (by simp), h 9 (by simp), h 10 (by simp)]),
    ⟨[11], fun vs v w' => ∃ tb, v = .pointer (some ⟨tb, 0, none⟩) ∧ w'.heap[tb]? = some (.cells (vs 11).cells 85 (0, 0)), fun vs vs' u w h hp => by rw [← h 11 (by simp)]; exact hp, fun vs u w1 w2 h g => (by obtain ⟨tb, e, hb⟩ := h; exact ⟨tb, e, (g.block tb (lt_of_block hb) id).trans hb⟩), true⟩, Lft.of [12] (fun vs => vs 12) (fun vs vs' h => h 12 (by simp))] _ (by kernel_rfl) (by kernel_rfl) (fun vs => by simp only [putAll, Act.put, List.setIfInBounds_toArray, List.set_cons_succ, List.set_cons_zero, Nat.zero_add, Nat.reduceAdd]; exact rfl) ⟨?_, ?_, ?_, ?_, ?_, ?_, ?_, ?_, ?_, ?_, ?_, ?_, ?_, ?_, trivial⟩ ?_
  · exact StepN.quiet rfl _ rfl (fun vs w2 hf hp => by go_simp)
  · exact StepN.quiet rfl _ rfl (fun vs w2 hf hp => by go_simp)
  · refine StepN.call rfl 35 (fun _ => #[.slice s3 n3 c3]) (fun vs w2 hf hp => ?_) (fun vs w2 hf hp => ?_)
    · obtain ⟨h1, -⟩ := hp
      have h1 : vs 1 = .slice s3 n3 c3 := h1
      go_simp
    · refine (cloneOp_any w2 _ n3 _ (reads_old H3.out (HFW1.out.trans hf (fun _ _ h => h)) (fun _ _ => id)) (by intro u hu; obtain ⟨x, _, hx⟩ := List.mem_flatMap.1 hu; simp [oc] at hx; rcases hx with rfl | rfl | rfl | rfl <;> rfl) (by omega)).mono ?_
      rintro e w3 ⟨v, rfl, ho, hf3⟩
      have hs := hf.size
      have := HSZ.out
      have := HF1.out.size
      exact ⟨v, rfl, ownsRow_low ho (by omega), hf3, fun _ b hb => ownsRow_foot ho hb⟩
  · exact StepN.quiet rfl _ rfl (fun vs w2 hf hp => by go_simp)
  · refine StepN.quiet rfl _ rfl (fun vs w2 hf hp => ?_)
    obtain ⟨h1, -⟩ := hp
    have h1 : vs 3 = .pointer (some ⟨pb, 0, none⟩) := h1
    have c0 := (HC01.out w2 hf).1
    go_simp
  · exact StepN.quiet rfl _ rfl (fun vs w2 hf hp => by go_simp)
  · refine StepN.quiet rfl _ rfl (fun vs w2 hf hp => ?_)
    obtain ⟨h1, -⟩ := hp
    have h1 : vs 5 = .pointer (some ⟨pb, 1, none⟩) := h1
    have c0 := (HC01.out w2 hf).2
    go_simp
  · refine StepN.call rfl 36 (fun _ => #[.slice a n c]) (fun vs w2 hf hp => ?_) (fun vs w2 hf hp => ?_)
    · obtain ⟨h1, -⟩ := hp
      have h1 : vs 6 = .slice a n c := h1
      go_simp
    · have hRD := ((HM.out.fr0 HF1.out).fr0 hf).2
      refine (clonePart_any w2 _ n _ hRD.2.1 (by intro u hu; obtain ⟨x, _, hx⟩ := List.mem_flatMap.1 hu; simp [pc] at hx; rcases hx with rfl | rfl | rfl <;> rfl) (by have := hRD.2.2; omega)).mono ?_
      rintro e w3 ⟨v, rfl, ho, hf3⟩
      have hs := hf.size
      have := HSZ.out
      have := HF1.out.size
      exact ⟨v, rfl, ownsRow_low ho (by omega), hf3, fun _ b hb => ownsRow_foot ho hb⟩
  · refine StepN.run rfl (fun vs w2 hf hp => ?_)
    obtain ⟨h1, h2, -⟩ := hp
    have h1 : vs 4 = .int .i64 ep := h1
    obtain ⟨a7, c7, h7⟩ := own_shape h2
    have h7 : vs 7 = .slice a7 n c7 := h7
    refine ⟨.agg #[.int .i64 ep, .slice a7 n c7], w2, by go_simp, by show _ = Value.agg #[.int .i64 ep, vs 7]; rw [h7], Fr.refl _ _, by intro h; cases h⟩
  · refine StepN.run rfl (fun vs w2 hf hp => ⟨_, _, by have hmm := @run_makeMap Try.prog; go_simp, ⟨_, rfl, mapN_made _ _ _⟩, Fr.alloc _ _ _, fun _ b hb => by cases hb; simp⟩)
  · refine StepN.run rfl (fun vs w2 hf hp => ⟨_, _, by have hmm := @run_makeMap Try.prog; go_simp, ⟨_, rfl, mapN_made _ _ _⟩, Fr.alloc _ _ _, fun _ b hb => by cases hb; simp⟩)
  · refine StepN.run rfl (fun vs w2 hf hp => ?_)
    obtain ⟨h0, h2, h8, h9, h10, -⟩ := hp
    have h0 : vs 0 = .string tx := h0
    obtain ⟨a2, c2, h2⟩ := own_shape h2
    have h2 : vs 2 = .slice a2 n3 c2 := h2
    have h8 : vs 8 = .agg #[.int .i64 ep, vs 7] := h8
    obtain ⟨b9, h9, -⟩ := h9
    obtain ⟨b10, h10, -⟩ := h10
    have h9 : vs 9 = .map (some b9) := h9
    have h10 : vs 10 = .map (some b10) := h10
    refine ⟨.agg #[.string tx, .slice a2 n3 c2, .int .i64 ep, vs 7, .slice none 0 0, .slice none 0 0, .map (some b9), .map (some b10), .int .i64 0, .int .i64 0, .int .i64 0], w2, ?_, ?_, Fr.refl _ _, by intro h; cases h⟩
    · go_simp
    · show _ = Value.agg #[.string tx, vs 2, .int .i64 ep, vs 7, .slice none 0 0, .slice none 0 0, vs 9, vs 10, .int .i64 0, .int .i64 0, .int .i64 0]
      rw [h2, h9, h10]
  · refine StepN.run rfl (fun vs w2 hf hp => ?_)
    obtain ⟨h1, -⟩ := hp
    have h1 : vs 11 = .agg #[.string tx, vs 2, .int .i64 ep, vs 7, .slice none 0 0, .slice none 0 0, vs 9, vs 10, .int .i64 0, .int .i64 0, .int .i64 0] := h1
    refine ⟨.pointer (some ⟨w2.heap.size, 0, none⟩), w2.alloc (.cells #[.string tx, vs 2, .int .i64 ep, vs 7, .slice none 0 0, .slice none 0 0, vs 9, vs 10, .int .i64 0, .int .i64 0, .int .i64 0] 85), by go_simp, ?_, Fr.alloc _ _ _, fun _ b hb => by cases hb; simp⟩
    exact ⟨_, rfl, by rw [h1]; exact block_alloc _ _⟩
  · refine StepN.run rfl (fun vs w2 hf hp => ⟨vs 12, w2, by go_simp, rfl, Fr.refl _ _, by intro h; cases h⟩)
  · intro vs w2 hf he hd
    obtain ⟨h2, n2⟩ := he.get 2 (by decide)
    obtain ⟨h7, n7⟩ := he.get 7 (by decide)
    obtain ⟨⟨vb, h9, m9⟩, n9⟩ := he.get 9 (by decide)
    obtain ⟨⟨kb, h10, m10⟩, n10⟩ := he.get 10 (by decide)
    obtain ⟨h11, -⟩ := he.get 11 (by decide)
    obtain ⟨⟨tb, h12, hb⟩, n12⟩ := he.get 12 (by decide)
    obtain ⟨h13, -⟩ := he.get 13 (by decide)
    have h9 : vs 9 = .map (some vb) := h9
    have h10 : vs 10 = .map (some kb) := h10
    have h12 : vs 12 = .pointer (some ⟨tb, 0, none⟩) := h12
    have h13 : vs 13 = vs 12 := h13
    have h11 : vs 11 = .agg #[.string tx, vs 2, .int .i64 ep, vs 7, .slice none 0 0, .slice none 0 0, vs 9, vs 10, .int .i64 0, .int .i64 0, .int .i64 0] := h11
    rw [h12] at h13
    rw [h11] at hb
    rw [h9, h10] at hb
    have n2 := n2 rfl
    have n7 := n7 rfl
    have n9 := n9 rfl vb (by rw [h9]; rfl)
    have n10 := n10 rfl kb (by rw [h10]; rfl)
    have n12 := n12 rfl tb (by rw [h12]; rfl)
    have d9 := hd 9 10 (by decide) (by decide) (by decide) rfl rfl vb (by rw [h9]; rfl)
    have d1 := hd 9 12 (by decide) (by decide) (by decide) rfl rfl vb (by rw [h9]; rfl)
    have d2 := hd 10 12 (by decide) (by decide) (by decide) rfl rfl kb (by rw [h10]; rfl)
    have d29 := hd 9 2 (by decide) (by decide) (by decide) rfl rfl vb (by rw [h9]; rfl)
    have d20 := hd 10 2 (by decide) (by decide) (by decide) rfl rfl kb (by rw [h10]; rfl)
    have d22 := hd 12 2 (by decide) (by decide) (by decide) rfl rfl tb (by rw [h12]; rfl)
    have d79 := hd 9 7 (by decide) (by decide) (by decide) rfl rfl vb (by rw [h9]; rfl)
    have d70 := hd 10 7 (by decide) (by decide) (by decide) rfl rfl kb (by rw [h10]; rfl)
    have d72 := hd 12 7 (by decide) (by decide) (by decide) rfl rfl tb (by rw [h12]; rfl)
    have hb : w2.heap[tb]? = some (.cells #[.string tx, vs 2, .int .i64 ep, vs 7, .slice none 0 0, .slice none 0 0, .map (some vb), .map (some kb), .int .i64 0, .int .i64 0, .int .i64 0] 85 (0, 0)) := hb
    rw [h12] at d1 d2
    rw [h10] at d9
    clear h9 h10 h11 h12 he hd
    obtain ⟨c0, c1⟩ := HC01.out w2 hf
    have hfw : Fr (fun _ => False) w w2 := HFW1.out.trans hf (fun _ _ h => h)
    have hSP := split_any w2 ep a n c l ((HM.out.fr0 HF1.out).fr0 hf).2 HR.out s3 n3 c3 ops (reads_old H3.out hfw (fun _ _ => id)) HL3.out (by omega) HG.out
    rw [h13]
    have H2 := hide h2
    have H7 := hide h7
    have M9 := hide m9
    have M10 := hide m10
    have HB := hide hb
    have HSP := hide hSP
    have HFW := hide hfw
    have HF := hide hf
    have N := hide (And.intro n2 (And.intro n7 (And.intro n9 (And.intro n10 n12))))
    have D := hide (And.intro d9 (And.intro d1 (And.intro d2 (And.intro d29 (And.intro d20 (And.intro d22 (And.intro d79 (And.intro d70 d72))))))))
    clear h2 h7 m9 m10 hb hSP hfw hf n2 n7 n9 n10 n12 d9 d1 d2 d29 d20 d22 d79 d70 d72 h13 HC01
    generalize vs 2 = vo at *
    generalize vs 7 = vp at *
    generalize vs 0 = x0, vs 1 = x1, vs 3 = x3, vs 4 = x4, vs 5 = x5, vs 6 = x6, vs 8 = x8, vs 9 = x9, vs 10 = x10, vs 11 = x11, vs 12 = x12
    go_wp2_with fail
    refine HSP.out.mono ?_
    rintro e w4 ⟨vg, va, us, rfl, hsp, hf4⟩
    have HSP4 := hide hsp
    obtain ⟨ag, cg, hag⟩ := own_shape hsp.g
    obtain ⟨aa, ca, haa⟩ := own_shape hsp.a
    obtain ⟨Ln, hLn⟩ : ∃ Ln, (splitG (ownAt l ops) n3 3).length = Ln := ⟨_, rfl⟩
    rw [hLn] at hag haa
    subst hag haa
    clear hLn
    have hb4 : w4.heap[tb]? = some (.cells #[.string tx, vo, .int .i64 ep, vp, .slice none 0 0, .slice none 0 0, .map (some vb), .map (some kb), .int .i64 0, .int .i64 0, .int .i64 0] 85 (0, 0)) := (hf4.block tb (lt_of_block HB.out) id).trans HB.out
    have q4 : w4.cell? ⟨tb, 4, none⟩ = some (.slice none 0 0) := by rw [cell_of_block hb4]; rfl
    have q5 : w4.cell? ⟨tb, 5, none⟩ = some (.slice none 0 0) := by rw [cell_of_block hb4]; rfl
    have g4 : w4.frozen? ⟨tb, 4, none⟩ = false := free_of_block hb4
    have g5 : w4.frozen? ⟨tb, 5, none⟩ = false := free_of_block hb4
    have HB4 := hide hb4
    have HF4 := hide hf4
    clear hb4 hsp hf4 c0 c1
    go_wp2_with fail
    refine bodyPost_ret (results_tmp2 rfl _ _ _) rfl ⟨tb, rfl, ?_, ?_⟩
    all_goals
      obtain ⟨n2, n7, n9, n10, n12⟩ := N.out
      obtain ⟨d9, d1, d2, d29, d20, d22, d79, d70, d72⟩ := D.out
      have hp := HPB.out
      have hsz := HSZ.out
      have hz1 := HF1.out.size
      have hz4 := HF4.out.size
      have hs5 : Fr (fun k => k = tb) w4 ((w4.setCell ⟨tb, 4, none⟩ (.slice ag Ln cg)).setCell ⟨tb, 5, none⟩ (.slice aa Ln ca)) := (Fr.setCell (S := fun k => k = tb) _ _ _ rfl).trans (Fr.setCell (S := fun k => k = tb) _ _ _ rfl) (fun _ _ h => h)
      have hs25 : Fr (fun k => k = tb) w2 ((w4.setCell ⟨tb, 4, none⟩ (.slice ag Ln cg)).setCell ⟨tb, 5, none⟩ (.slice aa Ln ca)) := (HF4.out.mono (S' := fun k => k = tb) (fun _ _ h => h.elim)).trans hs5 (fun _ _ h => h)
    · have hz5 := hs25.size
      have hfb : ∀ v, (∀ b, foot v = some b → w1.heap.size ≤ b ∧ b < w2.heap.size) → foot v ≠ some vb → foot v ≠ some kb → foot v ≠ some tb → FB ((w4.setCell ⟨tb, 4, none⟩ (.slice ag Ln cg)).setCell ⟨tb, 5, none⟩ (.slice aa Ln ca)).heap.size (fun k => k < w.heap.size) tb vb kb v := by
        intro v hv h1 h2 h3 a n c e
        subst e
        obtain ⟨q1, q2⟩ := hv a.block rfl
        exact ⟨⟨by omega, fun e => h3 (by rw [← e]; rfl), fun e => h1 (by rw [← e]; rfl), fun e => h2 (by rw [← e]; rfl)⟩, by omega⟩
      have hsp5 : SP ((w4.setCell ⟨tb, 4, none⟩ (.slice ag Ln cg)).setCell ⟨tb, 5, none⟩ (.slice aa Ln ca)) w2.heap.size (.slice ag Ln cg) (.slice aa Ln ca) (splitG (ownAt l ops) ops.length 3) us := by
        rw [HL3.out]
        exact HSP4.out.fr hs5 (fun k hk e => by have := (HSP4.out.lt k hk).1; omega)
      refine ⟨w2.heap.size, vb, kb, vo, vp, _, _, us, fun _ => undef, ?_, ?_, ?_, hsp5, ?_, fun x hx => absurd hx List.not_mem_nil, ?_, by omega, by omega, by omega, by omega, by omega, by omega, ?_, ?_, ?_, by omega, by omega, by omega, hfb vo n2 d29 d20 d22, hfb vp n7 d79 d70 d72, ?_, fun x hx => absurd hx List.not_mem_nil, fun k hk => by omega, List.nodup_nil⟩
      · rw [block_setCell (block_setCell HB4.out _) _]; rfl
      · have := Reads.of_own (ownsRow_fr H2.out hs25 (fun k hk e => d22 (by rw [← e]; exact foot_own hk)))
        show Reads _ vo ops.length 4 (rowO ops)
        rw [HL3.out]; exact this
      · have := Reads.of_own (ownsRow_fr H7.out hs25 (fun k hk e => d72 (by rw [← e]; exact foot_own hk)))
        show Reads _ vp l.length 3 (rowP l)
        rw [HM.out.2.1]; exact this
      · refine (M9.out.of_block (hs25.block vb M9.out.lt (fun e => d1 (by rw [e]; rfl)))).congr (fun l => ?_)
        show votF [] _ l = none
        unfold votF; split <;> simp
      · refine (M10.out.of_block (hs25.block kb M10.out.lt (fun e => d2 (by rw [e]; rfl)))).congr (fun l => ?_)
        show setF [] l = none
        unfold setF; split <;> simp
      · intro e; exact d1 (by rw [e]; rfl)
      · intro e; exact d2 (by rw [e]; rfl)
      · intro e; exact d9 (by rw [e]; rfl)
      · intro k hk hx
        have := (hsp5.lt k hk).1
        have hx : k < w.heap.size := hx
        omega
    · exact (HFW.out.trans hs25 (fun k hk e => by omega)).mono (fun k hk h => by first | exact h.elim | omega)
end Go.Proofs.Ytehneddmamnmiaa
