/- Take of a table of locks. -/
import Derived.Test.YtkboipnfpcngcaaLkPut
namespace Go.Proofs.Ytkboipnfpcngcaa
open Go.RowKit Go.Maps Go.Cv
set_option linter.unusedVariables false

theorem run_mapUpdate_last {P : Program} {o : Oper} {a : Act} {w w' : World} {K : Act → World → Prop} {Q : Exit → Act → World → Prop} (t : TypeId) (m x v : Operand) (hop : o.op = Op.mapUpdate t m x v) (mv xv vv : Value) (hm : a.eval m = mv) (hx : a.eval x = xv) (hv : a.eval v = vv)
    (hrun : (Instr.mapUpdate t mv xv vv).run P w = .ok () w') (hK : K (a.put o.dst undef) w') : o.wp P a w K Q := by
  unfold Oper.wp
  simp [execOp, hop, hm, hx, hv, hrun, Result.andThen]
  exact hK

theorem map_eq_nil (w : World) (b : Nat) : (binOp BinOp.eql 55 (.map (some b)) (.map none)).run Try.prog w = .ok (.bool false) w := by kernel_rfl
theorem nil_eq_nil (w : World) : (binOp BinOp.eql 55 (.map none) (.map none)).run Try.prog w = .ok (.bool true) w := by kernel_rfl
theorem name_same {T : LkT} {c : Bs} (h : c ∈ T.names) : nameT T c = T := by unfold nameT addB; rw [if_pos h]
def takeE (T : LkT) (tx : Bs) (l : List WantT) : Int := if tx = [] then 1 else if busyB T tx l = true then 35 else 0
def takeS (T : LkT) (tx : Bs) (l : List WantT) : LkT := if takeE T tx l = 0 then takeT T tx l else T

set_option maxRecDepth 100000 in
set_option maxHeartbeats 6400000 in
theorem take_any (w : World) (X : Nat → Prop) (b0 tb ob : Nat) (mb : Bs → Nat) (T : LkT) (h : Lk w X b0 tb ob mb T) (ok : LkOk T) (hb0 : b0 ≤ w.heap.size) (tx : ByteArray) (htx : tx.size ≤ maxLen) (a : Option Addr) (n cp : Nat) (l : List WantT) (hl : Reads w (.slice a n cp) n 2 (l.flatMap wcell)) (hla : 0 < n → ∀ b, foot (.slice a n cp) = some b → ¬ Own X b0 b) (hln : l.length = n) (hn : n ≤ 100000) (hsz : ∀ x ∈ l, x.1.size ≤ maxLen) (hnl : ∀ k, k ≤ n → (takeT T tx.data.toList (l.take k)).names.length < maxLen ∧ ∀ s, ((takeT T tx.data.toList (l.take k)).whos s).length < maxLen) :
    Calls Try.prog 9 #[.pointer (some ⟨tb, 0, none⟩), .string tx, .slice a n cp] w fun e w' => e = .returned (.int .i64 (takeE T tx.data.toList l)) ∧ (∃ mb', Lk w' X b0 tb ob mb' (takeS T tx.data.toList l)) ∧ Fr (Own X b0) w w' := by
  have hn9 : (n : Int) ≤ 1000000 := by omega
  have hbusy := busy_any w X b0 tb ob mb T h ok tx htx a n cp l hl hln (by omega) hsz
  have HLK := hide h
  by_cases htz : tx = ⟨#[]⟩
  · subst htz
    have he : takeE T (⟨#[]⟩ : ByteArray).data.toList l = 1 := if_pos rfl
    have hs : takeS T (⟨#[]⟩ : ByteArray).data.toList l = T := by unfold takeS; rw [he]; rfl
    rw [he, hs]
    clear h ok hbusy hl hln hsz hnl he hs hla
    go_enter Try.func9, Try.ntmps9
    go_wp2_with fail
    go_ret
    exact ⟨rfl, ⟨mb, HLK.out⟩, Fr.refl _ _⟩
  · have htxb : (tx.toList == []) = false := by have := bytes_beq htz; simpa using this
    have htn : tx.data.toList ≠ [] := fun e => htz (by cases tx; simp at e; simp [e])
    cases hbz : busyB T tx.data.toList l with
    | true =>
      have he : takeE T tx.data.toList l = 35 := by unfold takeE; rw [if_neg htn, if_pos hbz]
      have hs : takeS T tx.data.toList l = T := by unfold takeS; rw [he]; rfl
      rw [he, hs]
      rw [hbz] at hbusy
      have HBUSY := hide hbusy
      clear h ok hbusy hl hln hsz hnl he hs htn htz hbz hla
      go_enter Try.func9, Try.ntmps9
      go_wp2_with fail
      refine HBUSY.out.mono ?_
      rintro e w1 ⟨rfl, hf1⟩
      have HF1 := hide hf1
      clear hf1
      go_wp2_with fail
      go_ret
      exact ⟨rfl, ⟨mb, HLK.out.fr0 HF1.out⟩, HF1.out.mono (fun _ _ h => h.elim)⟩
    | false =>
      have he : takeE T tx.data.toList l = 0 := by unfold takeE; rw [if_neg htn, if_neg (by rw [hbz]; simp)]
      have hs : takeS T tx.data.toList l = takeT T tx.data.toList l := by unfold takeS; rw [he]; rfl
      rw [he, hs]
      rw [hbz] at hbusy
      have HBUSY := hide hbusy
      have HOK := hide ok
      have HLR := hide hl
      have HLN := hide hln
      have HSZ := hide hsz
      have HNL := hide hnl
      have HLA := hide hla
      clear h ok hbusy hl hln hsz hnl he hs htn htz hbz hla
      go_enter Try.func9, Try.ntmps9
      go_wp2_with fail
      refine HBUSY.out.mono ?_
      rintro e w1 ⟨rfl, hf1⟩
      have HF1 := hide hf1
      clear hf1
      go_wp2_with fail
      go_loopw [20] (fun ii wr => ∃ (k : Nat) (mb' : Bs → Nat), ii = .int .i64 k ∧ k ≤ n ∧ Lk wr X b0 tb ob mb' (takeT T tx.data.toList (l.take k)) ∧ Fr (Own X b0) w wr) (fun ii _ => n - (intOf ii).toNat)
      case atStart => exact ⟨0, mb, rfl, Nat.zero_le _, HLK.out.fr0 HF1.out, HF1.out.mono (fun _ _ h => h.elim)⟩
      case round =>
        obtain ⟨k, mb', rfl, hk, hlk, hf⟩ := hrel
        by_cases hlt : k < n
        · have ik0 : (0 : Int) ≤ (k : Int) := by omega
          have ik1 : (k : Int) < (n : Int) := by omega
          obtain ⟨x, hx⟩ : ∃ x, l[k]? = some x := ⟨_, List.getElem?_eq_getElem (by rw [HLN.out]; exact hlt)⟩
          obtain ⟨bs, os, rfl, hls, hcs⟩ := row_cells wcell_len HLR.out hx (by decide)
          have hcz := HSZ.out x (List.mem_of_getElem? hx)
          have htk : takeT T tx.data.toList (l.take (k + 1)) = putW tx.data.toList (takeT T tx.data.toList (l.take k)) x := by
            rw [List.take_add_one, hx]; exact take_snoc _ _ _ _
          have hokk := take_ok (tx := tx.data.toList) (by simpa using htx) (l.take k) HOK.out (fun y hy => HSZ.out y (List.mem_of_mem_take hy))
          obtain ⟨hn1, hn2⟩ := HNL.out k hk
          obtain ⟨hn3, hn4⟩ := HNL.out (k + 1) (by omega)
          rw [htk] at hn3 hn4
          obtain ⟨Tk, hTk⟩ : ∃ Tk, takeT T tx.data.toList (l.take k) = Tk := ⟨_, rfl⟩
          rw [hTk] at hlk htk hokk hn1 hn2 hn3 hn4
          obtain ⟨c, b⟩ := x
          have hblk := hf.block bs hls (HLA.out (by omega) bs rfl)
          have e0 : wr.cell? ⟨bs, os + k * 2, none⟩ = some (.string c) := hcs 0 _ rfl wr hblk
          have e1 : wr.cell? ⟨bs, os + k * 2 + 1, none⟩ = some (.bool b) := hcs 1 _ rfl wr hblk
          obtain ⟨qb, hqb⟩ : ∃ qb, wr.heap.size = qb := ⟨_, rfl⟩
          obtain ⟨w3, hw3⟩ : ∃ w3, wr.alloc (.cells #[.string c, .bool b] 27) = w3 := ⟨_, rfl⟩
          have hf3 : Fr (fun _ => False) wr w3 := by rw [← hw3]; exact Fr.alloc _ _ _
          have hb3 : w3.heap[qb]? = some (.cells #[.string c, .bool b] 27 (0, 0)) := by rw [← hw3, ← hqb]; exact block_alloc _ _
          have q0 : w3.cell? ⟨qb, 0, none⟩ = some (.string c) := by rw [cell_of_block hb3]; rfl
          have hl3 := hlk.fr0 hf3
          have q1 := hl3.c
          have hob : ob ≠ qb := by rw [← hqb]; exact Nat.ne_of_lt hlk.out.lt
          have hmq : ∀ s ∈ Tk.names, mb' s ≠ qb := fun s hs => by rw [← hqb]; exact Nat.ne_of_lt (hlk.inn s hs).lt
          have HL := hide hl3
          have HC := hide hcz
          have HTK := hide htk
          have HOKK := hide hokk
          have HB3 := hide hb3
          have HF3 := hide (hf.trans hf3 (fun _ _ h => h.elim))
          have HW3 := hide hw3
          have HQB := hide hqb
          have HHF := hide hf
          have HN := hide (And.intro hn1 (And.intro hn2 (And.intro hn3 hn4)))
          have HOB := hide hob
          have HMQ := hide hmq
          clear hcs hblk hcz hx hf3 hb3 hl3 hw3 hqb hf htk hokk hlk hTk hn1 hn2 hn3 hn4 hob hmq
          go_upto_region 8 with fail
          rw [HW3.out, HQB.out]
          clear e0 e1
          obtain ⟨mv, hmv⟩ : ∃ mv, (if c.data.toList ∈ Tk.names then Value.map (some (mb' c.data.toList)) else .map none) = mv := ⟨_, rfl⟩
          have HMV := hide hmv
          have hres : ∃ bb, (c.data.toList ∈ Tk.names ∧ mv = .map (some (mb' c.data.toList)) ∧ bb = false ∨ c.data.toList ∉ Tk.names ∧ mv = .map none ∧ bb = true) := by
            by_cases hm : c.data.toList ∈ Tk.names
            · exact ⟨false, .inl ⟨hm, by rw [← hmv, if_pos hm], rfl⟩⟩
            · exact ⟨true, .inr ⟨hm, by rw [← hmv, if_neg hm], rfl⟩⟩
          clear hmv
          obtain ⟨bb, hres⟩ := hres
          refine wp_region_news [Lft.is (.pointer (some ⟨tb, 0, none⟩)), Lft.is (.pointer (some ⟨tb, 0, none⟩)), Lft.is (.pointer (some ⟨tb, 0, none⟩)), Lft.is (.map (some ob)), Lft.is (.pointer (some ⟨qb, 0, none⟩)), Lft.is (.string c), Lft.is mv, Lft.is (.bool bb)] _ (by kernel_rfl) (by kernel_rfl) (fun vs => by simp only [putAll, Act.put, List.setIfInBounds_toArray, List.set_cons_succ, List.set_cons_zero, Nat.zero_add, Nat.reduceAdd]; exact rfl) ⟨?_, ?_, ?_, ?_, ?_, ?_, ?_, ?_, trivial⟩ ?_
          · exact StepN.quiet rfl _ rfl (fun vs w2 hf hp => by go_simp)
          · exact StepN.quiet rfl _ rfl (fun vs w2 hf hp => by obtain ⟨h0, -⟩ := hp; have h0 : vs 0 = .pointer (some ⟨tb, 0, none⟩) := h0; go_simp)
          · exact StepN.quiet rfl _ rfl (fun vs w2 hf hp => by obtain ⟨h0, -⟩ := hp; have h0 : vs 1 = .pointer (some ⟨tb, 0, none⟩) := h0; go_simp)
          · exact StepN.quiet rfl _ rfl (fun vs w2 hf hp => by obtain ⟨h0, -⟩ := hp; have h0 : vs 2 = .pointer (some ⟨tb, 0, none⟩) := h0; have c := cell_fr0 hf q1; go_simp)
          · exact StepN.quiet rfl _ rfl (fun vs w2 hf hp => by go_simp)
          · exact StepN.quiet rfl _ rfl (fun vs w2 hf hp => by obtain ⟨h0, -⟩ := hp; have h0 : vs 4 = .pointer (some ⟨qb, 0, none⟩) := h0; have c := cell_fr0 hf q0; go_simp)
          · refine StepN.quiet rfl _ rfl (fun vs w2 hf hp => ?_)
            obtain ⟨h3, h5, -⟩ := hp
            have h3 : vs 3 = .map (some ob) := h3
            have h5 : vs 5 = .string c := h5
            have hlk := (HL.out.fr0 hf).look c HC.out
            rw [HMV.out] at hlk
            go_simp
          · refine StepN.quiet rfl _ rfl (fun vs w2 hf hp => ?_)
            obtain ⟨h6, -⟩ := hp
            have h6 : vs 6 = mv := h6
            rcases hres with ⟨-, rfl, rfl⟩ | ⟨-, rfl, rfl⟩
            · have hq := map_eq_nil w2 (mb' c.data.toList)
              go_simp
            · have hq := nil_eq_nil w2
              go_simp
          · intro vs w4 hf he _
            have h7 : vs 7 = .bool bb := (he.get 7 (by decide)).1
            rw [h7]
            have HFx := hide hf
            clear he hf h7
            have HL4 := hide (HL.out.fr0 HFx.out)
            have HB4 := hide ((HFx.out.block qb (lt_of_block HB3.out) id).trans HB3.out)
            have HF4 := hide (HF3.out.trans HFx.out (fun _ _ h => h.elim))
            have q0 := cell_fr0 HFx.out q0
            have q1 := cell_fr0 HFx.out q1
            generalize vs 0 = x0, vs 1 = x1, vs 2 = x2, vs 3 = x3, vs 4 = x4, vs 5 = x5, vs 6 = x6
            go_upto_if 31 with fail
            go_cut [] from 32 to 38 (fun wx => ∃ mb2, Lk wx X b0 tb ob mb2 (nameT Tk c.data.toList) ∧ Fr (Own X b0) w wx ∧ wx.heap[qb]? = some (.cells #[.string c, .bool b] 27 (0, 0)) ∧ ∀ s ∈ (nameT Tk c.data.toList).names, mb2 s ≠ qb)
            case first =>
              rcases hres with ⟨hm, -, rfl⟩ | ⟨hm, -, rfl⟩
              · go_wp2_with fail
                go_meet
                case rel => exact ⟨mb', by rw [name_same hm]; exact HL4.out, HF4.out, HB4.out, by rw [name_same hm]; exact HMQ.out⟩
              · go_upto_region 9 with fail
                refine wp_region_last [Lft.is (.pointer (some ⟨tb, 0, none⟩)), Lft.is (.pointer (some ⟨tb, 0, none⟩)), Lft.is (.pointer (some ⟨tb, 0, none⟩)), Lft.is (.map (some ob)), Lft.is (.pointer (some ⟨qb, 0, none⟩)), Lft.is (.string c), Lft.own (fun v w' => ∃ nb, v = .map (some nb) ∧ mapN w' Try.prog 9 nb 0 (fun _ => none)) (fun u w1 w2 h g => by obtain ⟨b, e, hm⟩ := h; exact ⟨b, e, hm.of_block (g.block b hm.lt id)⟩)] 7 _ _ (by kernel_rfl) rfl rfl (by kernel_rfl) (fun vs => by simp only [putAll, Act.put, List.setIfInBounds_toArray, List.set_cons_succ, List.set_cons_zero, Nat.zero_add, Nat.reduceAdd]; exact rfl) ⟨?_, ?_, ?_, ?_, ?_, ?_, ?_, trivial⟩ ?_
                · exact StepN.quiet rfl _ rfl (fun vs w2 hf hp => by go_simp)
                · exact StepN.quiet rfl _ rfl (fun vs w2 hf hp => by obtain ⟨h0, -⟩ := hp; have h0 : vs 0 = .pointer (some ⟨tb, 0, none⟩) := h0; go_simp)
                · exact StepN.quiet rfl _ rfl (fun vs w2 hf hp => by obtain ⟨h0, -⟩ := hp; have h0 : vs 1 = .pointer (some ⟨tb, 0, none⟩) := h0; go_simp)
                · exact StepN.quiet rfl _ rfl (fun vs w2 hf hp => by obtain ⟨h0, -⟩ := hp; have h0 : vs 2 = .pointer (some ⟨tb, 0, none⟩) := h0; have c := cell_fr0 hf q1; go_simp)
                · exact StepN.quiet rfl _ rfl (fun vs w2 hf hp => by go_simp)
                · exact StepN.quiet rfl _ rfl (fun vs w2 hf hp => by obtain ⟨h0, -⟩ := hp; have h0 : vs 4 = .pointer (some ⟨qb, 0, none⟩) := h0; have c := cell_fr0 hf q0; go_simp)
                · refine StepN.run rfl (fun vs w2 hf hp => ⟨_, _, by have hmm := @run_makeMap Try.prog; go_simp, ⟨_, rfl, mapN_made _ _ _⟩, Fr.alloc _ _ _, fun _ b hb => by cases hb; simp⟩)
                · intro vs w2 hf he _
                  have h3 : vs 3 = .map (some ob) := (he.get 3 (by decide)).1
                  have h5 : vs 5 = .string c := (he.get 5 (by decide)).1
                  obtain ⟨⟨nb, h6, hnb⟩, hnew⟩ := he.get 6 (by decide)
                  have h6 : vs 6 = .map (some nb) := h6
                  have hnew := hnew rfl nb (by rw [h6]; rfl)
                  have hl2 := HL4.out.fr0 hf
                  obtain ⟨w5, hrun, hm5, ht5⟩ := hl2.out.store lawS Try.underlying51 HN.out.1 (.map (some nb)) (keyS c HC.out)
                  have hon : outF Tk mb' (.string c.data.toList) = none := if_neg hm
                  rw [hon] at hm5
                  have hws : Tk.whos c.data.toList = [] := Classical.byContradiction (fun e => hm ((HOKK.out.ne _).2 e))
                  have hxl := hl2.xl
                  have hx4 := HL4.out.xl
                  have hob := HOB.out
                  have hqb4 := lt_of_block HB4.out
                  have hl5 := hl2.named hm hws hnb (by have := HF4.out.size; omega) (fun hx => by have := hx4 _ hx; omega) (by have := HL4.out.lt; omega) (by have := HL4.out.out.lt; omega) (fun s hs => by have := (HL4.out.inn s hs).lt; omega) hm5 ht5
                  have hf5 : Fr (fun k => k = ob) w2 w5 := Fr.turned ht5 rfl
                  have hfin : ∃ mb2, Lk w5 X b0 tb ob mb2 (nameT Tk c.data.toList) ∧ Fr (Own X b0) w w5 ∧ w5.heap[qb]? = some (.cells #[.string c, .bool b] 27 (0, 0)) ∧ ∀ s ∈ (nameT Tk c.data.toList).names, mb2 s ≠ qb :=
                    ⟨_, hl5, (HF4.out.trans hf (fun _ _ h => h.elim)).trans hf5 (fun k hk e => by subst e; exact ⟨hl2.o0, hl2.xo⟩), (hf5.block qb (Nat.lt_of_lt_of_le hqb4 hf.size) (fun e => hob e.symm)).trans ((hf.block qb hqb4 id).trans HB4.out), fun s hs => by
                      show (if s = c.data.toList then nb else mb' s) ≠ qb
                      by_cases e : s = c.data.toList
                      · rw [if_pos e]; omega
                      · rw [if_neg e]
                        exact HMQ.out s ((mem_addB.1 hs).elim (fun h => h) (fun h => absurd h e))⟩
                  have HFIN := hide hfin
                  refine run_mapUpdate_last _ _ _ _ rfl _ _ _ h3 h5 h6 hrun ?_
                  clear he hnew hl2 hm5 ht5 hl5 hf5 hfin h3 h5 h6 hnb hrun
                  simp only [Act.put]
                  go_wp2_with fail
                  go_meet
                  case rel => exact HFIN.out
            case rest =>
              obtain ⟨mb2, hl6, hf6, hb6, hmq6⟩ := hcut
              have q0 : wc.cell? ⟨qb, 0, none⟩ = some (.string c) := by rw [cell_of_block hb6]; rfl
              have qb1 : wc.cell? ⟨qb, 1, none⟩ = some (.bool b) := by rw [cell_of_block hb6]; rfl
              have q1 := hl6.c
              have HL6 := hide hl6
              have HF6 := hide hf6
              have HMEM := hide (show c.data.toList ∈ (nameT Tk c.data.toList).names from mem_addB.2 (.inr rfl))
              clear hl6 hf6 hb6 hmq6
              obtain ⟨hN, hhN⟩ : ∃ hN, wantN b = hN := ⟨_, rfl⟩
              obtain ⟨h0, hh0⟩ : ∃ h0, Tk.how c.data.toList tx.data.toList = h0 := ⟨_, rfl⟩
              have hb12 : (b = true ∧ hN = 2) ∨ (b = false ∧ hN = 1) := by cases b <;> simp [← hhN, wantN]
              have h012 : h0 = 0 ∨ h0 = 1 ∨ h0 = 2 := by rw [← hh0]; exact HOKK.out.hv _ _
              have hput : putW tx.data.toList Tk (c, b) = setT (nameT Tk c.data.toList) c.data.toList tx.data.toList (max hN h0) := by rw [← hhN, ← hh0]; rfl
              have HPUT := hide hput
              have HH0 := hide hh0
              clear hhN hput hh0
              rcases hb12 with ⟨rfl, rfl⟩ | ⟨rfl, rfl⟩
              · go_upto_region 13 with fail
                refine wp_region_last [Lft.is (.pointer (some ⟨tb, 0, none⟩)), Lft.is (.pointer (some ⟨tb, 0, none⟩)), Lft.is (.pointer (some ⟨tb, 0, none⟩)), Lft.is (.map (some ob)), Lft.is (.pointer (some ⟨qb, 0, none⟩)), Lft.is (.string c), Lft.is (.map (some (mb2 c.data.toList))), Lft.is (.string tx), Lft.is (.int .i64 2), Lft.is (.pointer (some ⟨tb, 0, none⟩)), Lft.is (.pointer (some ⟨tb, 0, none⟩)), Lft.is (.pointer (some ⟨tb, 0, none⟩)), Lft.is (.map (some ob)), Lft.is (.pointer (some ⟨qb, 0, none⟩)), Lft.is (.string c), Lft.is (.map (some (mb2 c.data.toList))), Lft.is (.string tx), Lft.is (.int .i64 h0), Lft.is (.int .i64 (max 2 h0))] 19 _ _ (by kernel_rfl) rfl rfl (by kernel_rfl) (fun vs => by simp only [putAll, Act.put, List.setIfInBounds_toArray, List.set_cons_succ, List.set_cons_zero, Nat.zero_add, Nat.reduceAdd]; exact rfl) ⟨?_, ?_, ?_, ?_, ?_, ?_, ?_, ?_, ?_, ?_, ?_, ?_, ?_, ?_, ?_, ?_, ?_, ?_, ?_, trivial⟩ ?_
                · exact StepN.quiet rfl _ rfl (fun vs w2 hf hp => by go_simp)
                · exact StepN.quiet rfl _ rfl (fun vs w2 hf hp => by obtain ⟨h0, -⟩ := hp; have h0 : vs 0 = .pointer (some ⟨tb, 0, none⟩) := h0; go_simp)
                · exact StepN.quiet rfl _ rfl (fun vs w2 hf hp => by obtain ⟨h0, -⟩ := hp; have h0 : vs 1 = .pointer (some ⟨tb, 0, none⟩) := h0; go_simp)
                · exact StepN.quiet rfl _ rfl (fun vs w2 hf hp => by obtain ⟨h0, -⟩ := hp; have h0 : vs 2 = .pointer (some ⟨tb, 0, none⟩) := h0; have c := cell_fr0 hf q1; go_simp)
                · exact StepN.quiet rfl _ rfl (fun vs w2 hf hp => by go_simp)
                · exact StepN.quiet rfl _ rfl (fun vs w2 hf hp => by obtain ⟨h0, -⟩ := hp; have h0 : vs 4 = .pointer (some ⟨qb, 0, none⟩) := h0; have c := cell_fr0 hf q0; go_simp)
                · refine StepN.quiet rfl _ rfl (fun vs w2 hf hp => ?_)
                  obtain ⟨h3, h5, -⟩ := hp
                  have h3 : vs 3 = .map (some ob) := h3
                  have h5 : vs 5 = .string c := h5
                  have hlk := (HL6.out.fr0 hf).look c HC.out
                  rw [if_pos HMEM.out] at hlk
                  go_simp
                · exact StepN.quiet rfl _ rfl (fun vs w2 hf hp => by go_simp)
                · exact StepN.quiet rfl _ rfl (fun vs w2 hf hp => by go_simp)
                · exact StepN.quiet rfl _ rfl (fun vs w2 hf hp => by go_simp)
                · exact StepN.quiet rfl _ rfl (fun vs w2 hf hp => by obtain ⟨h0, -⟩ := hp; have h0 : vs 9 = .pointer (some ⟨tb, 0, none⟩) := h0; go_simp)
                · exact StepN.quiet rfl _ rfl (fun vs w2 hf hp => by obtain ⟨h0, -⟩ := hp; have h0 : vs 10 = .pointer (some ⟨tb, 0, none⟩) := h0; go_simp)
                · exact StepN.quiet rfl _ rfl (fun vs w2 hf hp => by obtain ⟨h0, -⟩ := hp; have h0 : vs 11 = .pointer (some ⟨tb, 0, none⟩) := h0; have c := cell_fr0 hf q1; go_simp)
                · exact StepN.quiet rfl _ rfl (fun vs w2 hf hp => by go_simp)
                · exact StepN.quiet rfl _ rfl (fun vs w2 hf hp => by obtain ⟨h0, -⟩ := hp; have h0 : vs 13 = .pointer (some ⟨qb, 0, none⟩) := h0; have c := cell_fr0 hf q0; go_simp)
                · refine StepN.quiet rfl _ rfl (fun vs w2 hf hp => ?_)
                  obtain ⟨h3, h5, -⟩ := hp
                  have h3 : vs 12 = .map (some ob) := h3
                  have h5 : vs 14 = .string c := h5
                  have hlk := (HL6.out.fr0 hf).look c HC.out
                  rw [if_pos HMEM.out] at hlk
                  go_simp
                · exact StepN.quiet rfl _ rfl (fun vs w2 hf hp => by go_simp)
                · refine StepN.quiet rfl _ rfl (fun vs w2 hf hp => ?_)
                  obtain ⟨h15, h16, -⟩ := hp
                  have h15 : vs 15 = .map (some (mb2 c.data.toList)) := h15
                  have h16 : vs 16 = .string tx := h16
                  have hlk0 := (HL6.out.fr0 hf).ilook HOKK.out.hw _ HMEM.out tx htx
                  have hlk : (Instr.lookup 55 (.map (some (mb2 c.data.toList))) (.string tx) false).run Try.prog w2 = .ok (.int .i64 h0) w2 := by rw [← HH0.out]; exact hlk0
                  clear hlk0
                  go_simp
                · refine StepN.quiet rfl _ rfl (fun vs w2 hf hp => ?_)
                  obtain ⟨h8, h17, -⟩ := hp
                  have h8 : vs 8 = .int .i64 2 := h8
                  have h17 : vs 17 = .int .i64 h0 := h17
                  go_simp
                  split <;> omega
                · intro vs w2 hf he _
                  have h6 : vs 6 = .map (some (mb2 c.data.toList)) := (he.get 6 (by decide)).1
                  have h7 : vs 7 = .string tx := (he.get 7 (by decide)).1
                  have h18 : vs 18 = .int .i64 (max 2 h0) := (he.get 18 (by decide)).1
                  have hl2 := HL6.out.fr0 hf
                  obtain ⟨w5, hrun, hm5, ht5⟩ := (hl2.inn _ HMEM.out).store lawS Try.underlying55 (HN.out.2.1 _) (.int .i64 (max 2 h0)) (keyS tx htx)
                  have hl5 := hl2.holds HMEM.out tx.data.toList (max 2 h0) hm5 ht5
                  rw [← HPUT.out, ← HTK.out] at hl5
                  have hf5 : Fr (fun k => k = mb2 c.data.toList) w2 w5 := Fr.turned ht5 rfl
                  have hff := (HF6.out.trans hf (fun _ _ h => h.elim)).trans hf5 (fun k hk e => by subst e; exact ⟨hl2.m0 _ HMEM.out, hl2.xm _ HMEM.out⟩)
                  have HL5 := hide hl5
                  have HF5 := hide hff
                  refine run_mapUpdate_last _ _ _ _ rfl _ _ _ h6 h7 h18 hrun ?_
                  clear he hl2 hm5 ht5 hl5 hf5 hff h6 h7 h18 hrun
                  simp only [Act.put]
                  go_wp2_with fail
                  go_roundw
                  case rel => exact ⟨k + 1, mb2, by go_num, by omega, HL5.out, HF5.out⟩
                  case measure => simp [intOf]; omega
              · go_upto_region 13 with fail
                refine wp_region_last [Lft.is (.pointer (some ⟨tb, 0, none⟩)), Lft.is (.pointer (some ⟨tb, 0, none⟩)), Lft.is (.pointer (some ⟨tb, 0, none⟩)), Lft.is (.map (some ob)), Lft.is (.pointer (some ⟨qb, 0, none⟩)), Lft.is (.string c), Lft.is (.map (some (mb2 c.data.toList))), Lft.is (.string tx), Lft.is (.int .i64 1), Lft.is (.pointer (some ⟨tb, 0, none⟩)), Lft.is (.pointer (some ⟨tb, 0, none⟩)), Lft.is (.pointer (some ⟨tb, 0, none⟩)), Lft.is (.map (some ob)), Lft.is (.pointer (some ⟨qb, 0, none⟩)), Lft.is (.string c), Lft.is (.map (some (mb2 c.data.toList))), Lft.is (.string tx), Lft.is (.int .i64 h0), Lft.is (.int .i64 (max 1 h0))] 19 _ _ (by kernel_rfl) rfl rfl (by kernel_rfl) (fun vs => by simp only [putAll, Act.put, List.setIfInBounds_toArray, List.set_cons_succ, List.set_cons_zero, Nat.zero_add, Nat.reduceAdd]; exact rfl) ⟨?_, ?_, ?_, ?_, ?_, ?_, ?_, ?_, ?_, ?_, ?_, ?_, ?_, ?_, ?_, ?_, ?_, ?_, ?_, trivial⟩ ?_
                · exact StepN.quiet rfl _ rfl (fun vs w2 hf hp => by go_simp)
                · exact StepN.quiet rfl _ rfl (fun vs w2 hf hp => by obtain ⟨h0, -⟩ := hp; have h0 : vs 0 = .pointer (some ⟨tb, 0, none⟩) := h0; go_simp)
                · exact StepN.quiet rfl _ rfl (fun vs w2 hf hp => by obtain ⟨h0, -⟩ := hp; have h0 : vs 1 = .pointer (some ⟨tb, 0, none⟩) := h0; go_simp)
                · exact StepN.quiet rfl _ rfl (fun vs w2 hf hp => by obtain ⟨h0, -⟩ := hp; have h0 : vs 2 = .pointer (some ⟨tb, 0, none⟩) := h0; have c := cell_fr0 hf q1; go_simp)
                · exact StepN.quiet rfl _ rfl (fun vs w2 hf hp => by go_simp)
                · exact StepN.quiet rfl _ rfl (fun vs w2 hf hp => by obtain ⟨h0, -⟩ := hp; have h0 : vs 4 = .pointer (some ⟨qb, 0, none⟩) := h0; have c := cell_fr0 hf q0; go_simp)
                · refine StepN.quiet rfl _ rfl (fun vs w2 hf hp => ?_)
                  obtain ⟨h3, h5, -⟩ := hp
                  have h3 : vs 3 = .map (some ob) := h3
                  have h5 : vs 5 = .string c := h5
                  have hlk := (HL6.out.fr0 hf).look c HC.out
                  rw [if_pos HMEM.out] at hlk
                  go_simp
                · exact StepN.quiet rfl _ rfl (fun vs w2 hf hp => by go_simp)
                · exact StepN.quiet rfl _ rfl (fun vs w2 hf hp => by go_simp)
                · exact StepN.quiet rfl _ rfl (fun vs w2 hf hp => by go_simp)
                · exact StepN.quiet rfl _ rfl (fun vs w2 hf hp => by obtain ⟨h0, -⟩ := hp; have h0 : vs 9 = .pointer (some ⟨tb, 0, none⟩) := h0; go_simp)
                · exact StepN.quiet rfl _ rfl (fun vs w2 hf hp => by obtain ⟨h0, -⟩ := hp; have h0 : vs 10 = .pointer (some ⟨tb, 0, none⟩) := h0; go_simp)
                · exact StepN.quiet rfl _ rfl (fun vs w2 hf hp => by obtain ⟨h0, -⟩ := hp; have h0 : vs 11 = .pointer (some ⟨tb, 0, none⟩) := h0; have c := cell_fr0 hf q1; go_simp)
                · exact StepN.quiet rfl _ rfl (fun vs w2 hf hp => by go_simp)
                · exact StepN.quiet rfl _ rfl (fun vs w2 hf hp => by obtain ⟨h0, -⟩ := hp; have h0 : vs 13 = .pointer (some ⟨qb, 0, none⟩) := h0; have c := cell_fr0 hf q0; go_simp)
                · refine StepN.quiet rfl _ rfl (fun vs w2 hf hp => ?_)
                  obtain ⟨h3, h5, -⟩ := hp
                  have h3 : vs 12 = .map (some ob) := h3
                  have h5 : vs 14 = .string c := h5
                  have hlk := (HL6.out.fr0 hf).look c HC.out
                  rw [if_pos HMEM.out] at hlk
                  go_simp
                · exact StepN.quiet rfl _ rfl (fun vs w2 hf hp => by go_simp)
                · refine StepN.quiet rfl _ rfl (fun vs w2 hf hp => ?_)
                  obtain ⟨h15, h16, -⟩ := hp
                  have h15 : vs 15 = .map (some (mb2 c.data.toList)) := h15
                  have h16 : vs 16 = .string tx := h16
                  have hlk0 := (HL6.out.fr0 hf).ilook HOKK.out.hw _ HMEM.out tx htx
                  have hlk : (Instr.lookup 55 (.map (some (mb2 c.data.toList))) (.string tx) false).run Try.prog w2 = .ok (.int .i64 h0) w2 := by rw [← HH0.out]; exact hlk0
                  clear hlk0
                  go_simp
                · refine StepN.quiet rfl _ rfl (fun vs w2 hf hp => ?_)
                  obtain ⟨h8, h17, -⟩ := hp
                  have h8 : vs 8 = .int .i64 1 := h8
                  have h17 : vs 17 = .int .i64 h0 := h17
                  go_simp
                  split <;> omega
                · intro vs w2 hf he _
                  have h6 : vs 6 = .map (some (mb2 c.data.toList)) := (he.get 6 (by decide)).1
                  have h7 : vs 7 = .string tx := (he.get 7 (by decide)).1
                  have h18 : vs 18 = .int .i64 (max 1 h0) := (he.get 18 (by decide)).1
                  have hl2 := HL6.out.fr0 hf
                  obtain ⟨w5, hrun, hm5, ht5⟩ := (hl2.inn _ HMEM.out).store lawS Try.underlying55 (HN.out.2.1 _) (.int .i64 (max 1 h0)) (keyS tx htx)
                  have hl5 := hl2.holds HMEM.out tx.data.toList (max 1 h0) hm5 ht5
                  rw [← HPUT.out, ← HTK.out] at hl5
                  have hf5 : Fr (fun k => k = mb2 c.data.toList) w2 w5 := Fr.turned ht5 rfl
                  have hff := (HF6.out.trans hf (fun _ _ h => h.elim)).trans hf5 (fun k hk e => by subst e; exact ⟨hl2.m0 _ HMEM.out, hl2.xm _ HMEM.out⟩)
                  have HL5 := hide hl5
                  have HF5 := hide hff
                  refine run_mapUpdate_last _ _ _ _ rfl _ _ _ h6 h7 h18 hrun ?_
                  clear he hl2 hm5 ht5 hl5 hf5 hff h6 h7 h18 hrun
                  simp only [Act.put]
                  go_wp2_with fail
                  go_roundw
                  case rel => exact ⟨k + 1, mb2, by go_num, by omega, HL5.out, HF5.out⟩
                  case measure => simp [intOf]; omega
        · have ik1 : ¬ (k : Int) < (n : Int) := by omega
          have : k = n := by omega
          subst this
          have HT := hide (show Lk wr X b0 tb ob mb' (takeT T tx.data.toList l) by rw [List.take_of_length_le (by rw [HLN.out]; exact Nat.le_refl _)] at hlk; exact hlk)
          have HF := hide hf
          clear hlk hf
          go_wp2_with fail
          go_ret
          exact ⟨rfl, ⟨mb', HT.out⟩, HF.out⟩
end Go.Proofs.Ytkboipnfpcngcaa
