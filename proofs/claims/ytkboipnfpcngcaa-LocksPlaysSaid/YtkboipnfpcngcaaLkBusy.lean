/- Busy of a table of locks. -/
import Derived.Test.YtkboipnfpcngcaaLk
import Derived.Test.YtkboipnfpcngcaaNews
import Derived.Test.YtkboipnfpcngcaaKeysLawS
import Derived.Laws.IdiomRangeMap
import Derived.Deep.Cut
import Derived.Deep.CutBlock
import Derived.Deep.CutRange
import Derived.Maps.RangeWalk
namespace Go.Proofs.Ytkboipnfpcngcaa
open Go.RowKit Go.Maps Go.Cv
set_option linter.unusedVariables false

abbrev WantT := ByteArray × Bool
def wcell (x : WantT) : List Value := [.string x.1, .bool x.2]
theorem wcell_len (x : WantT) : (wcell x).length = 2 := rfl
/-- Does another hold what is wanted? -/
def other (T : LkT) (tx : Bs) (x : WantT) (u : Bs) : Bool := decide (u ≠ tx) && (x.2 || decide (T.how x.1.data.toList u = 2))
def busy1 (T : LkT) (tx : Bs) (x : WantT) : Bool := (T.whos x.1.data.toList).any (other T tx x)
def busyB (T : LkT) (tx : Bs) (l : List WantT) : Bool := l.any (busy1 T tx)

theorem wp_range_val {P : Program} {o : Oper} {a : Act} {w w' : World} {K : Act → World → Prop} {Q : Exit → Act → World → Prop} (t : TypeId) (m : Operand) (hop : o.op = Op.range t m) (x v : Value) (hm : a.eval m = x) (hrun : (Instr.range t x).run P w = .ok v w') (hK : K (a.put o.dst v) w') : o.wp P a w K Q := by
  unfold Oper.wp
  simp [execOp, hop, hm, hrun, Result.andThen]
  exact hK

set_option maxRecDepth 100000 in
set_option maxHeartbeats 3200000 in
theorem busy_any (w : World) (X : Nat → Prop) (b0 tb ob : Nat) (mb : Bs → Nat) (T : LkT) (h : Lk w X b0 tb ob mb T) (ok : LkOk T) (tx : ByteArray) (htx : tx.size ≤ maxLen) (a : Option Addr) (n cp : Nat) (l : List WantT) (hl : Reads w (.slice a n cp) n 2 (l.flatMap wcell)) (hln : l.length = n) (hn : n ≤ 1000000) (hsz : ∀ x ∈ l, x.1.size ≤ maxLen) :
    Calls Try.prog 25 #[.pointer (some ⟨tb, 0, none⟩), .string tx, .slice a n cp] w fun e w' => e = .returned (.bool (busyB T tx.data.toList l)) ∧ Fr (fun _ => False) w w' := by
  have hn9 : (n : Int) ≤ 1000000 := by omega
  have HLK := hide h
  have HOK := hide ok
  have HLR := hide hl
  have HLN := hide hln
  have HSZ := hide hsz
  clear h ok hl hln hsz htx
  go_enter Try.func25, Try.ntmps25
  go_wp2_with fail
  go_loopw [13] (fun ii wr => ∃ k : Nat, ii = .int .i64 k ∧ k ≤ n ∧ Fr (fun _ => False) w wr ∧ Hid (∀ (j : Nat) x, j < k → l[j]? = some x → busy1 T tx.data.toList x = false)) (fun ii _ => n - (intOf ii).toNat)
  case atStart => exact ⟨0, rfl, Nat.zero_le _, Fr.refl _ _, fun j x hj => absurd hj (Nat.not_lt_zero _)⟩
  case round =>
    obtain ⟨k, rfl, hk, hf, HB⟩ := hrel
    by_cases hlt : k < n
    · have ik0 : (0 : Int) ≤ (k : Int) := by omega
      have ik1 : (k : Int) < (n : Int) := by omega
      obtain ⟨x, hx⟩ : ∃ x, l[k]? = some x := ⟨_, List.getElem?_eq_getElem (by rw [HLN.out]; exact hlt)⟩
      obtain ⟨bs, os, rfl, hls, hcs⟩ := row_cells wcell_len HLR.out hx (by decide)
      have hcz := HSZ.out x (List.mem_of_getElem? hx)
      obtain ⟨c, b⟩ := x
      have hblk := hf.block bs hls id
      have e0 : wr.cell? ⟨bs, os + k * 2, none⟩ = some (.string c) := hcs 0 _ rfl wr hblk
      have e1 : wr.cell? ⟨bs, os + k * 2 + 1, none⟩ = some (.bool b) := hcs 1 _ rfl wr hblk
      obtain ⟨qb, hqb⟩ : ∃ qb, wr.heap.size = qb := ⟨_, rfl⟩
      obtain ⟨w1, hw1⟩ : ∃ w1, wr.alloc (.cells #[.string c, .bool b] 27) = w1 := ⟨_, rfl⟩
      have hf1 : Fr (fun _ => False) wr w1 := by rw [← hw1]; exact Fr.alloc _ _ _
      have hb1 : w1.heap[qb]? = some (.cells #[.string c, .bool b] 27 (0, 0)) := by rw [← hw1, ← hqb]; exact block_alloc _ _
      have q0 : w1.cell? ⟨qb, 0, none⟩ = some (.string c) := by rw [cell_of_block hb1]; rfl
      have qw : w1.cell? ⟨qb, 1, none⟩ = some (.bool b) := by rw [cell_of_block hb1]; rfl
      have hfw1 := hf.trans hf1 (fun _ _ h => h)
      have hl1 := HLK.out.fr0 hfw1
      have q1 := hl1.c
      have HL := hide hl1
      have HC := hide hcz
      have HX := hide hx
      have HF1 := hide hfw1
      have HW1 := hide hw1
      have HQB := hide hqb
      have HHF := hide hf
      clear hcs hblk hcz hx hf1 hb1 hfw1 hl1 hw1 hqb hf
      go_upto_region 4 with fail
      rw [HW1.out, HQB.out]
      clear e0 e1
      by_cases hm : c.data.toList ∈ T.names
      · refine wp_region_last [Lft.is (.pointer (some ⟨tb, 0, none⟩)), Lft.is (.pointer (some ⟨tb, 0, none⟩)), Lft.is (.pointer (some ⟨tb, 0, none⟩)), Lft.is (.map (some ob)), Lft.is (.pointer (some ⟨qb, 0, none⟩)), Lft.is (.string c), Lft.is (.map (some (mb c.data.toList)))] 7 _ _ (by kernel_rfl) rfl rfl (by kernel_rfl) (fun vs => by simp only [putAll, Act.put, List.setIfInBounds_toArray, List.set_cons_succ, List.set_cons_zero, Nat.zero_add, Nat.reduceAdd]; exact rfl) ⟨?_, ?_, ?_, ?_, ?_, ?_, ?_, trivial⟩ ?_
        · exact StepN.quiet rfl _ rfl (fun vs w2 hf hp => by go_simp)
        · exact StepN.quiet rfl _ rfl (fun vs w2 hf hp => by obtain ⟨h0, -⟩ := hp; have h0 : vs 0 = .pointer (some ⟨tb, 0, none⟩) := h0; go_simp)
        · exact StepN.quiet rfl _ rfl (fun vs w2 hf hp => by obtain ⟨h0, -⟩ := hp; have h0 : vs 1 = .pointer (some ⟨tb, 0, none⟩) := h0; go_simp)
        · exact StepN.quiet rfl _ rfl (fun vs w2 hf hp => by obtain ⟨h0, -⟩ := hp; have h0 : vs 2 = .pointer (some ⟨tb, 0, none⟩) := h0; have c := cell_fr0 hf q1; go_simp)
        · exact StepN.quiet rfl _ rfl (fun vs w2 hf hp => by go_simp)
        · exact StepN.quiet rfl _ rfl (fun vs w2 hf hp => by obtain ⟨h0, -⟩ := hp; have h0 : vs 4 = .pointer (some ⟨qb, 0, none⟩) := h0; have c := cell_fr0 hf q0; go_simp)
        · refine StepN.quiet rfl _ rfl (fun vs w2 hf hp => ?_)
          obtain ⟨h3, h5, -⟩ := hp
          have h3 : vs 3 = .map (some ob) := h3
          have h5 : vs 5 = .string c := h5
          have hlk := (HL.out.fr0 hf).look c HC.out
          rw [if_pos hm] at hlk
          go_simp
        · intro vs w2 hf he _
          have h6 : vs 6 = .map (some (mb c.data.toList)) := (he.get 6 (by decide)).1
          have HFx := hide hf
          clear he hf
          obtain ⟨D, hown, hD⟩ := ((HL.out.fr0 HFx.out).inn _ hm).toF
          obtain ⟨w3, hrun, hrg, hgr, hs3⟩ := hown.range lawS Try.underlying55
          have HD := hide hD
          have HOWN := hide hown
          have HGR := hide hgr
          clear hD hown hgr
          obtain ⟨rb, hrb⟩ : ∃ rb, w2.heap.size = rb := ⟨_, rfl⟩
          rw [hrb] at hrun hrg
          have hqbr : qb < rb := by rw [← hrb]; exact Nat.lt_of_lt_of_le (World.block_lt_of_cell? w1 _ qw) HFx.out.size
          have HQBR := hide hqbr
          clear hqbr
          have hrb0 : w.heap.size ≤ rb := by rw [← hrb]; exact Nat.le_trans HF1.out.size HFx.out.size
          have hf3 : Fr (fun _ => False) w2 w3 := Fr.grown (HGR.out.but none) (fun j hj => by cases hj)
          have hqw := cell_fr0 (HFx.out.trans hf3 (fun _ _ h => h)) qw
          have HF3 := hide ((HF1.out.trans HFx.out (fun _ _ h => h)).trans hf3 (fun _ _ h => h))
          have HRB0 := hide hrb0
          clear hf3 hrb hrb0
          refine wp_range_val _ _ rfl _ _ h6 hrun ?_
          clear h6 hrun
          simp only [Act.put, List.setIfInBounds_toArray, List.set_cons_succ, List.set_cons_zero]
          go_wp2_with fail
          go_loopw [9] (fun _ wx => ∃ (left : Lit → Bool) (cnt : Nat), wx.ranges Try.prog 9 hv (mb c.data.toList) rb (T.whos c.data.toList).length D left cnt ∧ Hid (∀ u, u ∈ T.whos c.data.toList → left (.string u) = false → other T tx.data.toList (c, b) u = false) ∧ Fr (fun _ => False) w wx ∧ wx.cell? ⟨qb, 1, none⟩ = some (.bool b))
            (fun _ wx => wx.rangeLeft (mb c.data.toList) rb)
          case atStart =>
            refine ⟨_, _, hrg, fun u hu hl => ?_, HF3.out, hqw⟩
            have h1 := mapF_hasS HD.out (.string u)
            rw [hl] at h1
            have h2 : (innF T c.data.toList (.string u)).isSome = true := by show (if u ∈ T.whos c.data.toList then some (Value.int .i64 (T.how c.data.toList u)) else none).isSome = true; rw [if_pos hu]; rfl
            rw [h2] at h1; cases h1
          case round =>
            obtain ⟨left, cnt, hrg, HB2, hfw, hqw⟩ := hrel
            have HFW := hide hfw
            clear hfw
            go_wp2_with (first
              | (at_next; refine wpList_next_ranges _ rfl _ rfl 9 lawS hv (Value.string) id (fun key kl h => by obtain ⟨s, rfl, _⟩ := WideMaps.string_of_keyOf Try.underlying9 h; exact ⟨s, rfl⟩) (fun v _ _ => ⟨v, rfl⟩) (mb c.data.toList) rb (T.whos c.data.toList).length _ _ _ rfl hrg ?_ ?_)
              | fail)
            · intro _ hl0
              have hb1 : busy1 T tx.data.toList (c, b) = false := by
                unfold busy1
                rw [List.any_eq_false]
                intro u hu
                rw [HB2.out u hu (hl0 _)]; simp
              have HB1 := hide hb1
              clear hb1
              go_wp2_with fail
              go_roundw
              case rel =>
                refine ⟨k + 1, by go_num, by omega, HFW.out, fun j x hj hx => ?_⟩
                by_cases e : j < k
                · exact HB.out j x e hx
                · have : j = k := by omega
                  subst this
                  rw [HX.out] at hx; cases hx; exact HB1.out
              case measure => simp [intOf]; omega
            · intro u val kl yd yp w4 cnt1 hkey hlk hy hat hrg1 hlt1 hg1 hs1 hen
              obtain ⟨u', e1, hkl, hul⟩ := WideMaps.string_of_keyOf Try.underlying9 hkey
              injection e1 with e1
              subst e1
              have hv1 : u.data.toList ∈ T.whos c.data.toList ∧ val = .int .i64 (T.how c.data.toList u.data.toList) := by
                have h1 := mapF_hasS HD.out kl
                rw [Maps.has_true_of_atKey hat] at h1
                have h2 := HD.out kl (.held val)
                rw [hat] at h2
                have h3 : yd = .held val := by have : hv val = some (yd, yp) := hy; cases this; rfl
                rw [h3, hkl] at h2
                rw [hkl] at h1
                have h4 : innF T c.data.toList (.string u.data.toList) = if u.data.toList ∈ T.whos c.data.toList then some (.int .i64 (T.how c.data.toList u.data.toList)) else none := rfl
                by_cases hm2 : u.data.toList ∈ T.whos c.data.toList
                · rw [h4, if_pos hm2] at h2
                  refine ⟨hm2, ?_⟩
                  injection h2
                · rw [h4, if_neg hm2] at h1; cases h1
              obtain ⟨hum, rfl⟩ := hv1
              have hf4 : Fr (fun _ => False) w w4 := HFW.out.trans (Fr.grown (S := fun k => k = rb) hg1 (fun j hj => by cases hj; rfl)) (fun k hk e => by have := HRB0.out; omega)
              have hqw4 : w4.cell? ⟨qb, 1, none⟩ = some (.bool b) := by
                rw [World.cell?_of_block (w := wr) (hg1.block qb (World.block_lt_of_cell? wr _ hqw) (fun e => by have := HQBR.out; injection e; omega))]; exact hqw
              obtain ⟨hw, hhw⟩ : ∃ hw, T.how c.data.toList u.data.toList = hw := ⟨_, rfl⟩
              rw [hhw] at hen ⊢
              have HF4 := hide hf4
              have hle := hrg1.left_eq
              have hle0 := hrg.left_eq
              have HLE := hide (show w4.rangeLeft (mb c.data.toList) rb < wr.rangeLeft (mb c.data.toList) rb by omega)
              have hnot : other T tx.data.toList (c, b) u.data.toList = false → ∀ v, v ∈ T.whos c.data.toList → (left (.string v) && !(Lit.string v).sameKey (.string u.data.toList)) = false → other T tx.data.toList (c, b) v = false := by
                intro ho v hv hl
                by_cases e : v = u.data.toList
                · rw [e]; exact ho
                · refine HB2.out v hv ?_
                  rw [Bool.and_eq_false_iff] at hl
                  rcases hl with hl | hl
                  · exact hl
                  · simp [Lit.sameKey, e] at hl
              have hyes : other T tx.data.toList (c, b) u.data.toList = true → busyB T tx.data.toList l = true := by
                intro ho
                unfold busyB
                rw [List.any_eq_true]
                exact ⟨(c, b), List.mem_of_getElem? HX.out, by unfold busy1; rw [List.any_eq_true]; exact ⟨_, hum, ho⟩⟩
              have HNOT := hide hnot
              have HYES := hide hyes
              have HRG1 := hide hrg1
              have hkl2 : kl = .string u.data.toList := hkl
              subst hkl2
              have ho : other T tx.data.toList (c, b) u.data.toList = (decide (u.data.toList ≠ tx.data.toList) && (b || decide (hw = 2))) := by unfold other; rw [show ((c, b) : WantT).1 = c from rfl, show ((c, b) : WantT).2 = b from rfl, hhw]
              have HO := hide ho
              clear hf4 hle hle0 hlt1 hnot hyes hrg1 hrg hqw hg1 hs1 hat hy hkey hlk hkl hul hum hhw ho
              by_cases hut : u = tx
              · subst hut
                have hf : other T u.data.toList (c, b) u.data.toList = false := by rw [HO.out]; simp
                have HFL := hide hf
                clear hf
                go_wp2_with fail
                go_roundw
                case rel => exact ⟨_, _, HRG1.out, HNOT.out HFL.out, HF4.out, hqw4⟩
                case measure => exact HLE.out
              · have hutb : (u.toList == tx.toList) = false := bytes_beq hut
                have hne : u.data.toList ≠ tx.data.toList := fun e => hut (by cases u; cases tx; simp at e; simp [e])
                have HNE := hide hne
                clear hut hne
                cases b with
                | true =>
                  have ht : busyB T tx.data.toList l = true := HYES.out (by rw [HO.out]; simp [HNE.out])
                  have HT := hide ht
                  clear ht
                  go_wp2_with fail
                  go_ret
                  exact ⟨by rw [HT.out]; rfl, HF4.out⟩
                | false =>
                  by_cases h2 : hw = 2
                  · subst h2
                    have ht : busyB T tx.data.toList l = true := HYES.out (by rw [HO.out]; simp [HNE.out])
                    have HT := hide ht
                    clear ht
                    go_wp2_with fail
                    go_ret
                    exact ⟨by rw [HT.out]; rfl, HF4.out⟩
                  · have h2b : (hw == 2) = false := by simp [h2]
                    have hf : other T tx.data.toList (c, false) u.data.toList = false := by rw [HO.out]; simp [h2]
                    have HFL := hide hf
                    clear hf h2
                    go_wp2_with fail
                    go_roundw
                    case rel => exact ⟨_, _, HRG1.out, HNOT.out HFL.out, HF4.out, hqw4⟩
                    case measure => exact HLE.out
      · have hb1 : busy1 T tx.data.toList (c, b) = false := by
          unfold busy1
          have : T.whos c.data.toList = [] := Classical.byContradiction (fun e => hm ((HOK.out.ne _).2 e))
          rw [show ((c, b) : WantT).1 = c from rfl, this]; rfl
        have HB1 := hide hb1
        clear hb1
        refine wp_region_last [Lft.is (.pointer (some ⟨tb, 0, none⟩)), Lft.is (.pointer (some ⟨tb, 0, none⟩)), Lft.is (.pointer (some ⟨tb, 0, none⟩)), Lft.is (.map (some ob)), Lft.is (.pointer (some ⟨qb, 0, none⟩)), Lft.is (.string c), Lft.is (.map none)] 7 _ _ (by kernel_rfl) rfl rfl (by kernel_rfl) (fun vs => by simp only [putAll, Act.put, List.setIfInBounds_toArray, List.set_cons_succ, List.set_cons_zero, Nat.zero_add, Nat.reduceAdd]; exact rfl) ⟨?_, ?_, ?_, ?_, ?_, ?_, ?_, trivial⟩ ?_
        · exact StepN.quiet rfl _ rfl (fun vs w2 hf hp => by go_simp)
        · exact StepN.quiet rfl _ rfl (fun vs w2 hf hp => by obtain ⟨h0, -⟩ := hp; have h0 : vs 0 = .pointer (some ⟨tb, 0, none⟩) := h0; go_simp)
        · exact StepN.quiet rfl _ rfl (fun vs w2 hf hp => by obtain ⟨h0, -⟩ := hp; have h0 : vs 1 = .pointer (some ⟨tb, 0, none⟩) := h0; go_simp)
        · exact StepN.quiet rfl _ rfl (fun vs w2 hf hp => by obtain ⟨h0, -⟩ := hp; have h0 : vs 2 = .pointer (some ⟨tb, 0, none⟩) := h0; have c := cell_fr0 hf q1; go_simp)
        · exact StepN.quiet rfl _ rfl (fun vs w2 hf hp => by go_simp)
        · exact StepN.quiet rfl _ rfl (fun vs w2 hf hp => by obtain ⟨h0, -⟩ := hp; have h0 : vs 4 = .pointer (some ⟨qb, 0, none⟩) := h0; have c := cell_fr0 hf q0; go_simp)
        · refine StepN.quiet rfl _ rfl (fun vs w2 hf hp => ?_)
          obtain ⟨h3, h5, -⟩ := hp
          have h3 : vs 3 = .map (some ob) := h3
          have h5 : vs 5 = .string c := h5
          have hlk := (HL.out.fr0 hf).look c HC.out
          rw [if_neg hm] at hlk
          go_simp
        · intro vs w2 hf he _
          have h6 : vs 6 = .map none := (he.get 6 (by decide)).1
          have HFx := hide hf
          clear he hf
          have hrun := Go.run_range_nilMap (P := Try.prog) w2 _ _ _ Try.underlying55
          have hf3 : Fr (fun _ => False) w2 (w2.alloc (.mapIter none 0 #[] 0)) := Fr.alloc _ _ _
          have HF3 := hide ((HF1.out.trans HFx.out (fun _ _ h => h)).trans hf3 (fun _ _ h => h))
          have hnx := run_next_nilMap (P := Try.prog) w2 0 0 0 #[]
          refine wp_range_val _ _ rfl _ _ h6 hrun ?_
          clear h6 hrun hf3
          simp only [Act.put, List.setIfInBounds_toArray, List.set_cons_succ, List.set_cons_zero]
          go_wp2_with fail
          go_loopw [9] (fun _ wx => wx = w2.alloc (.mapIter none 0 #[] 0)) (fun _ _ => 0)
          case atStart => exact rfl
          case round =>
            subst hrel
            go_wp2_with fail
            go_roundw
            case rel =>
              refine ⟨k + 1, by go_num, by omega, HF3.out, fun j x hj hx => ?_⟩
              by_cases e : j < k
              · exact HB.out j x e hx
              · have : j = k := by omega
                subst this
                rw [HX.out] at hx; cases hx; exact HB1.out
            case measure => simp [intOf]; omega

    · have ik1 : ¬ (k : Int) < (n : Int) := by omega
      have hbz : busyB T tx.data.toList l = false := by
        unfold busyB
        rw [List.any_eq_false]
        intro x hx
        obtain ⟨j, hj⟩ := List.mem_iff_getElem?.1 hx
        have := (List.getElem?_eq_some_iff.1 hj).1
        rw [HB.out j x (by have := HLN.out; omega) hj]; simp
      have HBZ := hide hbz
      clear hbz
      go_wp2_with fail
      go_ret
      exact ⟨by rw [HBZ.out]; rfl, hf⟩
end Go.Proofs.Ytkboipnfpcngcaa
