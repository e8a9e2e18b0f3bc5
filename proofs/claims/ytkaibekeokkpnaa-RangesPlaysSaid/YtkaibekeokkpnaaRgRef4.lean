/- The document's Split. -/
import Derived.Test.YtkaibekeokkpnaaRgRef3
import Derived.Test.YtkaibekeokkpnaaRgSplit2
import Derived.Test.YtkaibekeokkpnaaNews
namespace Go.Proofs.Ytkaibekeokkpnaa
open Go.RowKit Go.Maps Go.Cv Go.Shelf
set_option linter.unusedVariables false

def rAt (f : Int → Int) (ops : List O4) (k : Nat) : Int := match ops[k]? with | some x => f (hashF x.2.1) | none => 0
theorem exec_load_ref {o : Oper} {ev : Operand → Value} {w : World} (x : Operand) (ho : o.op = .load 58 x) (b : Nat) (hx : ev x = .pointer (some ⟨b, 0, none⟩)) {cs : Array Value} {ep : Int} {f : Int → Int}
    (h1 : w.heap[b]? = some (.cells cs 58 (0, 0))) (h2 : RC cs ep f) : (execOp ev o).run Try.prog w = .ok (.value (.agg cs)) w := by
  unfold execOp
  simp only [ho, hx, Instr.loadAt, Instr.sureAddr, Sem.run_bind, Sem.run_pure, Result.andThen_ok, run_loadVar_row w b 58 58 cs (0, 0) _ h1 Try.underlying58 rfl (refSize h2)]

set_option maxRecDepth 100000 in
set_option maxHeartbeats 6400000 in
theorem refSplit_any (w : World) (cs : Array Value) (ep : Int) (f : Int → Int) (h : RC cs ep f) (s3 : Option Addr) (n3 c3 : Nat) (ops : List O4) (h3 : Reads w (.slice s3 n3 c3) n3 4 (rowO ops)) (hl3 : ops.length = n3) (hn3 : n3 ≤ 1000000) (hsz : ∀ x ∈ ops, x.2.1.size ≤ maxLen) :
    Calls Try.prog 24 #[.agg cs, .slice s3 n3 c3] w fun e w' => ∃ vg va vs, e = .returned (.tuple #[vg, va]) ∧ SP w' w.heap.size vg va (splitG (rAt f ops) n3 3) vs ∧ Fr (fun _ => False) w w' := by
  obtain ⟨i0, hi0, hz0, hz1, hz2⟩ := info_parts infoInt
  obtain ⟨i1, hi1, hy0, hy1, hy2⟩ := info_parts infoInts
  obtain ⟨wa, hwa⟩ : ∃ wa, w.alloc (.cells cs 58) = wa := ⟨_, rfl⟩
  have hfa : Fr (fun _ => False) w wa := by rw [← hwa]; exact Fr.alloc _ _ _
  have hsza : wa.heap.size = w.heap.size + 1 := by rw [← hwa]; simp
  have hbx : wa.heap[w.heap.size]? = some (.cells cs 58 (0, 0)) := by rw [← hwa]; exact block_alloc _ _
  obtain ⟨pb, hpb⟩ : ∃ pb, w.heap.size = pb := ⟨_, rfl⟩
  rw [hpb] at hbx hsza
  have hn9 : (n3 : Int) ≤ 1000000 := by omega
  have hbox : ∀ wx, Fr (fun k => pb < k) wa wx → wx.heap[pb]? = some (.cells cs 58 (0, 0)) := fun wx hf => (hf.block pb (lt_of_block hbx) (by omega)).trans hbx
  have HBOX := hide hbox
  have HRC := hide h
  have HFA := hide hfa
  have HWA := hide hwa
  have HPB := hide hpb
  have HSZ := hide hsza
  have H3 := hide h3
  have HL3 := hide hl3
  have HG := hide hsz
  clear hfa hwa hbx hbox h h3 hl3 hsz hpb hsza
  go_enter Try.func24, Try.ntmps24
  go_upto_region 1 with fail
  rw [HWA.out, HPB.out]
  go_wp2_with fail
  go_loopw [6, 7, 8] (fun vg va i wr => ∃ (g : Nat) (vs : List Value), i = .int .i64 g ∧ g ≤ 3 ∧ SP wr (pb + 1) vg va (splitG (rAt f ops) n3 g) vs ∧ Fr (fun k => pb < k) wa wr)
    (fun _ _ i _ => 3 - (intOf i).toNat)
  case atStart => exact ⟨0, [], rfl, by omega, SP.nil _ _, (Fr.refl _ _)⟩
  case round =>
    obtain ⟨g, vs, rfl, hg, hsp, hf⟩ := hrel
    obtain ⟨S, hS⟩ : ∃ S, splitG (rAt f ops) n3 g = S := ⟨_, rfl⟩
    have hSl := splitG_len (rAt f ops) n3 g
    rw [hS] at hsp hSl
    obtain ⟨Ln, hLn⟩ : ∃ Ln, S.length = Ln := ⟨_, rfl⟩
    have hgo := hsp.g
    have hao := hsp.a
    rw [hLn] at hgo hao hSl
    obtain ⟨ag, cg, rfl⟩ := own_shape hgo
    obtain ⟨aa, ca, rfl⟩ := own_shape hao
    have HSP := hide hsp
    have HF := hide hf
    have HS := hide hS
    have HLn := hide hLn
    clear hsp hf hS hgo hao hLn
    by_cases hlt : g < 3
    · have ig1 : (g : Int) < 3 := by omega
      go_wp2_with fail
      go_loopw [9, 10] (fun v9 i wx => ∃ k : Nat, i = .int .i64 k ∧ k ≤ n3 ∧ wx.ownsRow (pb + 1) 3 1 v9 (idx (rAt f ops) g k).length (ints (idx (rAt f ops) g k)) ∧ (∀ j, v9.ownBlock = some j → ¬ OB (.slice ag Ln cg) (.slice aa Ln ca) vs j) ∧ SP wx (pb + 1) (.slice ag Ln cg) (.slice aa Ln ca) S vs ∧ Fr (fun k => pb < k) wa wx)
        (fun _ i _ => n3 - (intOf i).toNat)
      case atStart => exact ⟨0, rfl, Nat.zero_le _, World.ownsRow_nil _ _ _ _, (fun j hj => by cases hj), HSP.out, HF.out⟩
      case round =>
        obtain ⟨k, rfl, hk, hown, hdis, hsp, hf⟩ := hrel
        obtain ⟨I, hI⟩ : ∃ I, idx (rAt f ops) g k = I := ⟨_, rfl⟩
        have hIl := idx_len (rAt f ops) g k
        rw [hI] at hown hIl
        obtain ⟨Li, hLi⟩ : ∃ Li, I.length = Li := ⟨_, rfl⟩
        rw [hLi] at hown hIl
        obtain ⟨a9, c9, rfl⟩ := own_shape hown
        have HO := hide hown
        have HDI := hide hdis
        have HSPk := hide hsp
        have HFk := hide hf
        have HI := hide hI
        have HLi := hide hLi
        clear hown hdis hsp hf hI hLi
        by_cases hlt2 : k < n3
        · have ik1 : (k : Int) < (n3 : Int) := by omega
          obtain ⟨x, hx⟩ : ∃ x, ops[k]? = some x := ⟨_, List.getElem?_eq_getElem (by have := HL3.out; omega)⟩
          have hxs := HG.out x (List.mem_of_getElem? hx)
          obtain ⟨bs, os, rfl, hls, hcs⟩ := row_cells oc_len H3.out hx (by decide)
          have hown : rAt f ops k = f (hashF x.2.1) := by unfold rAt; rw [hx]
          obtain ⟨x1, x2, x3, x4⟩ := x
          have hblk : wr.heap[bs]? = w.heap[bs]? := (HFk.out.block bs (by have := HSZ.out; have := HPB.out; omega) (by have := HPB.out; omega)).trans (HFA.out.block bs hls id)
          have e1 := hcs 1 (.string x2) rfl wr hblk
          have hoo : ∀ wx, Calls Try.prog 23 #[.agg cs, .string x2] wx fun e w' => e = .returned (.int .i64 (f (hashF x2))) ∧ Fr (fun _ => False) wx w' := fun wx => refOwner_any wx cs ep f HRC.out x2 hxs
          have hnx : idx (rAt f ops) g (k + 1) = if f (hashF x2) = (g : Int) then I ++ [(k : Int)] else I := by rw [idx, hown, HI.out]
          generalize hashF x2 = hq at *
          generalize f hq = o at *
          obtain ⟨q, hqq⟩ : ∃ q, (o == (g : Int)) = q := ⟨_, rfl⟩
          have HOO := hide hoo
          have HNX := hide hnx
          have HQQ := hide hqq
          have HBX := hide (fun (wx : World) (hx : Fr (fun _ => False) wr wx) => HBOX.out wx (HFk.out.trans hx (fun _ _ h => h.elim)))
          have ik0 : (0 : Int) ≤ (k : Int) := by omega
          clear hx hxs hcs hown hblk hoo hnx
          go_upto_region 10 with fail
          refine wp_region_news [Lft.is (.agg cs), Lft.is (.slice (some ⟨bs, os, none⟩) n3 c3), Lft.is (.int .i64 k), Lft.is (.pointer (some ⟨bs, os + k * 4, none⟩)), Lft.is (.pointer (some ⟨bs, os + k * 4 + 1, none⟩)), Lft.is (.string x2), Lft.is (.int .i64 o), Lft.is (.int .i64 g), Lft.is (.bool q)] _ (by kernel_rfl) (by kernel_rfl) (fun vs => by simp only [putAll, Act.put, List.setIfInBounds_toArray, List.set_cons_succ, List.set_cons_zero, Nat.zero_add, Nat.reduceAdd]; exact rfl) ⟨?_, ?_, ?_, ?_, ?_, ?_, ?_, ?_, ?_, trivial⟩ ?_
          · exact StepN.quiet rfl _ rfl (fun vs w2 hf hp => by exact exec_load_ref _ rfl pb rfl (HBX.out w2 hf) HRC.out)
          · exact StepN.quiet rfl _ rfl (fun vs w2 hf hp => by go_simp)
          · exact StepN.quiet rfl _ rfl (fun vs w2 hf hp => by go_simp)
          · exact StepN.quiet rfl _ rfl (fun vs w2 hf hp => by obtain ⟨g1, g2, -⟩ := hp; have g1 : vs 1 = .slice (some ⟨bs, os, none⟩) n3 c3 := g1; have g2 : vs 2 = .int .i64 k := g2; go_simp)
          · exact StepN.quiet rfl _ rfl (fun vs w2 hf hp => by obtain ⟨g3, -⟩ := hp; have g3 : vs 3 = .pointer (some ⟨bs, os + k * 4, none⟩) := g3; go_simp)
          · exact StepN.quiet rfl _ rfl (fun vs w2 hf hp => by obtain ⟨g4, -⟩ := hp; have g4 : vs 4 = .pointer (some ⟨bs, os + k * 4 + 1, none⟩) := g4; have ce1 := cell_fr0 hf e1; go_simp)
          · refine StepN.call rfl 23 (fun _ => #[.agg cs, .string x2]) (fun vs w2 hf hp => by obtain ⟨g0, g5, -⟩ := hp; have g0 : vs 0 = .agg cs := g0; have g5 : vs 5 = .string x2 := g5; go_simp) (fun vs w2 hf hp => ?_)
            obtain ⟨g0, g5, -⟩ := hp; have g0 : vs 0 = .agg cs := g0; have g5 : vs 5 = .string x2 := g5
            refine (HOO.out w2).mono ?_
            rintro e w3 ⟨rfl, hf3⟩
            exact ⟨_, rfl, rfl, hf3, by intro h; cases h⟩
          · exact StepN.quiet rfl _ rfl (fun vs w2 hf hp => by go_simp)
          · exact StepN.quiet rfl _ rfl (fun vs w2 hf hp => by obtain ⟨g6, g7, -⟩ := hp; have g6 : vs 6 = .int .i64 o := g6; have g7 : vs 7 = .int .i64 g := g7; go_simp)
          · intro vs9 y2 hfr2 he _
            have h8 : vs9 8 = .bool q := (he.get 8 (by decide)).1
            have h0 : vs9 0 = .agg cs := (he.get 0 (by decide)).1
            have h1 : vs9 1 = .slice (some ⟨bs, os, none⟩) n3 c3 := (he.get 1 (by decide)).1
            have h2 : vs9 2 = .int .i64 k := (he.get 2 (by decide)).1
            have h3 : vs9 3 = .pointer (some ⟨bs, os + k * 4, none⟩) := (he.get 3 (by decide)).1
            have h4 : vs9 4 = .pointer (some ⟨bs, os + k * 4 + 1, none⟩) := (he.get 4 (by decide)).1
            have h5 : vs9 5 = .string x2 := (he.get 5 (by decide)).1
            have h6 : vs9 6 = .int .i64 o := (he.get 6 (by decide)).1
            have h7 : vs9 7 = .int .i64 g := (he.get 7 (by decide)).1
            rw [h0, h1, h2, h3, h4, h5, h6, h7, h8]
            have HSP2 := hide (HSPk.out.fr hfr2 (fun _ _ => id))
            have HO2 := hide (ownsRow_fr HO.out hfr2 (fun _ _ => id))
            have HF2 := hide (HFk.out.trans hfr2 (fun _ _ h => h.elim))
            clear hfr2 he
            by_cases hog : o = (g : Int)
            · have hoe : q = true := by rw [← HQQ.out]; simp [hog]
              subst hoe
              have hnx := HNX.out
              rw [if_pos hog] at hnx
              have HNX2 := hide hnx
              clear hog hnx
              have HOa := hide (HO2.out.alloc (.cells #[.int .i64 k] 3))
              have HRd := hide (Reads.built y2 [.int .i64 k] 3)
              have HONE := hide (ints_one (k : Int))
              have hMx : Li + 1 ≤ maxLen := by unfold maxLen; omega
              have HM2b : Hid ((Li + 1) * 8 ≤ 140737488355328) := hide (by omega)
              have HM3 : Hid (pb + 1 ≤ (y2.alloc (.cells #[.int .i64 k] 3)).heap.size) := hide (by have := HF2.out.size; have := HSZ.out; simp; omega)
              go_wp2_with (at_builtin; refine wpList_append_reads _ rfl _ _ _ rfl (pb + 1) 3 i0 _ 1 8 Try.underlying42 hi0 hz0 hz1 hz2 rfl (by decide) (.slice a9 Li c9) Li (ints I) rfl HOa.out _ 1 [.int .i64 k] rfl HRd.out HONE.out hMx HM2b.out HM3.out ?_; intro v2 w4 hown2 hgrow hat; obtain ⟨a2, k2, rfl⟩ := own_shape hown2; have HO4 := hide hown2; have HG4 := hide hgrow; have HAT := hide hat; clear hown2 hgrow hat)
              go_roundw
              case rel =>
                have f1 : Fr (fun j => (Value.slice a9 Li c9).ownBlock = some j) y2 w4 := ((Fr.alloc (fun _ => False) y2 _).mono (fun _ _ h => h.elim)).trans (Fr.grown (S := fun j => (Value.slice a9 Li c9).ownBlock = some j) HG4.out (fun j hj => hj)) (fun _ _ h => h)
                refine ⟨k + 1, by go_num, by omega, ?_, ?_, HSP2.out.fr f1 (fun j hj e => HDI.out j e hj), HF2.out.trans f1 (fun j _ e => by have := (HO2.out.lt j e).1; omega)⟩
                · rw [HNX2.out, List.length_append, HLi.out, ints_snoc]; exact HO4.out
                · intro j hj hob
                  rcases HAT.out with e | e
                  · exact HDI.out j (by rw [← e]; exact hj) hob
                  · rw [e] at hj; cases hj
                    have := (HSP2.out.lt _ hob).2; simp at this; omega
              case measure => simp [intOf]; omega
            · have hoe : q = false := by rw [← HQQ.out]; simp [hog]
              subst hoe
              have hnx := HNX.out
              rw [if_neg hog] at hnx
              have HNX2 := hide hnx
              clear hog hnx
              go_wp2_with fail
              go_roundw
              case rel => exact ⟨k + 1, by go_num, by omega, by rw [HNX2.out, HLi.out]; exact HO2.out, HDI.out, HSP2.out, HF2.out⟩
              case measure => simp [intOf]; omega
        · have hkn : k = n3 := by omega
          subst hkn
          have ik1 : ¬ (k : Int) < (k : Int) := by omega
          by_cases hL0 : Li = 0
          · have hnx : splitG (rAt f ops) k (g + 1) = S := by
              rw [splitG, if_pos (by have := HLi.out; rw [HI.out]; exact List.eq_nil_of_length_eq_zero (by omega)), HS.out]
            have HNX := hide hnx
            have iL : ¬ (0 : Int) < (Li : Int) := by omega
            clear hnx
            go_wp2_with fail
            go_roundw
            case rel => exact ⟨g + 1, vs, by go_num, by omega, by rw [HNX.out]; exact HSPk.out, HFk.out⟩
            case measure => simp [intOf]; omega
          · have hnx : splitG (rAt f ops) k (g + 1) = S ++ [((g : Int), I)] := by
              rw [splitG, if_neg (by rw [HI.out]; intro e; have := HLi.out; rw [e] at this; simp at this; omega), HS.out, HI.out]
            have HNX := hide hnx
            have iL : (0 : Int) < (Li : Int) := by omega
            obtain ⟨b9, rfl⟩ : ∃ b, a9 = some ⟨b, 0, none⟩ := by
              rcases HO.out.2 with ⟨e, e0⟩ | ⟨b, cap', cs, e, _⟩
              · omega
              · cases e; exact ⟨b, rfl⟩
            have hb9 := HO.out.lt b9 rfl
            have hob9 := HDI.out b9 rfl
            have hr9 := Reads.of_own HO.out
            have HB9 := hide hb9
            have HOB9 := hide hob9
            have HR9 := hide hr9
            clear hnx hb9 hob9 hr9
            have hg0 := HSPk.out.g
            rw [HLn.out] at hg0
            have HOa := hide (hg0.alloc (.cells #[.int .i64 g] 3))
            have HRd := hide (Reads.built wr [.int .i64 g] 3)
            have HONE := hide (ints_one (g : Int))
            have hMx : Ln + 1 ≤ maxLen := by unfold maxLen; omega
            have HM2b : Hid ((Ln + 1) * 8 ≤ 140737488355328) := hide (by omega)
            have HM2c : Hid ((Ln + 1) * 24 ≤ 140737488355328) := hide (by omega)
            have HM3 : Hid (pb + 1 ≤ (wr.alloc (.cells #[.int .i64 g] 3)).heap.size) := hide (by have := HFk.out.size; have := HSZ.out; simp; omega)
            clear hg0
            go_wp2_with (first
              | (at_builtin; refine wpList_append_reads _ rfl _ _ 42 rfl (pb + 1) 3 i0 _ 1 8 Try.underlying42 hi0 hz0 hz1 hz2 rfl (by decide) (.slice ag Ln cg) Ln (S.map fun x => Value.int .i64 x.1) rfl HOa.out _ 1 [.int .i64 g] rfl HRd.out HONE.out hMx HM2b.out HM3.out ?_; intro vg' w4 hown2 hgrow hat; obtain ⟨ag', cg', rfl⟩ := own_shape hown2; have HOg := hide hown2; have HGg := hide hgrow; have HATg := hide hat;
                 have f1 : Fr (fun j => (Value.slice ag Ln cg).ownBlock = some j) wr w4 := ((Fr.alloc (fun _ => False) wr _).mono (fun _ _ h => h.elim)).trans (Fr.grown (S := fun j => (Value.slice ag Ln cg).ownBlock = some j) hgrow (fun j hj => hj)) (fun _ _ h => h);
                 have ha4 := ownsRow_fr HSPk.out.a f1 (fun j hj e => HSPk.out.dis j e hj);
                 have HOb := hide (ha4.alloc (.cells #[.slice (some ⟨b9, 0, none⟩) Li c9] 42));
                 have HRe := hide (Reads.built w4 [.slice (some ⟨b9, 0, none⟩) Li c9] 42);
                 have HM4 : Hid (pb + 1 ≤ (w4.alloc (.cells #[.slice (some ⟨b9, 0, none⟩) Li c9] 42)).heap.size) := hide (by have := f1.size; have := HFk.out.size; have := HSZ.out; simp; omega);
                 rw [HLn.out] at HOb;
                 clear hown2 hgrow hat ha4 f1)
              | (at_builtin; refine wpList_append_reads _ rfl _ _ 43 rfl (pb + 1) 42 i1 _ 1 24 Try.underlying43 hi1 hy0 hy1 hy2 rfl (by decide) (.slice aa Ln ca) Ln vs rfl HOb.out _ 1 [.slice (some ⟨b9, 0, none⟩) Li c9] rfl HRe.out (slice_one _ _ _) hMx HM2c.out HM4.out ?_; intro va' w5 hown2 hgrow hat; obtain ⟨aa', ca', rfl⟩ := own_shape hown2; have HOA := hide hown2; have HGA := hide hgrow; have HATA := hide hat; clear hown2 hgrow hat))
            go_roundw
            case rel =>
              have hpush := HSPk.out.push (g : Int) I (.slice (some ⟨b9, 0, none⟩) Li c9) (by rw [HLi.out]; exact HR9.out) rfl HB9.out.1 HB9.out.2 HOB9.out (by rw [HLn.out]; exact HOg.out) HGg.out HATg.out (by rw [HLn.out]; exact HOA.out) HGA.out HATA.out
              refine ⟨g + 1, vs ++ [.slice (some ⟨b9, 0, none⟩) Li c9], by go_num, by omega, by rw [HNX.out]; exact hpush.1, HFk.out.trans hpush.2.1 (fun j _ e => ?_)⟩
              rcases e with e | e
              · have := (HSPk.out.g.lt j e).1; omega
              · have := (HSPk.out.a.lt j e).1; omega
            case measure => simp [intOf]; omega
    · have hg3 : g = 3 := by omega
      subst hg3
      go_wp2_with fail
      go_ret2
      rw [HS.out]
      refine ⟨_, _, vs, rfl, ⟨?_, ?_, ?_, HSP.out.dis⟩, HFA.out.trans (HF.out.fresh (fun k hk => by have := HSZ.out; omega)) (fun _ _ h => h)⟩
      · exact own_base HSP.out.g (by have := HPB.out; omega)
      · exact own_base HSP.out.a (by have := HPB.out; omega)
      · intro i x v hx hv
        obtain ⟨r1, k, e, r2, r3⟩ := HSP.out.rd i x v hx hv
        exact ⟨r1, k, e, by have := HPB.out; omega, r3⟩
end Go.Proofs.Ytkaibekeokkpnaa
