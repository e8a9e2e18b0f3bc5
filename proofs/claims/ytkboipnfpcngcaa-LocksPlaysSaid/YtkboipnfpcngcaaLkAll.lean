/- All of a table of locks. -/
import Derived.Test.YtkboipnfpcngcaaLkTell
namespace Go.Proofs.Ytkboipnfpcngcaa
open Go.RowKit Go.Maps Go.Cv
set_option linter.unusedVariables false

theorem ranges_fr2 {w w' : World} {P : Program} {k : TypeId} {R : Value → Option (DataW Value × List MemPlace)} {b r n : Nat} {D : DataW Value} {left : Lit → Bool} {cnt : Nat} (h : w.ranges P k R b r n D left cnt) {S : Nat → Prop} (g : Fr S w w') (h1 : ¬ S b) (h2 : ¬ S r) : w'.ranges P k R b r n D left cnt := by
  obtain ⟨es, clock, since, seen, c0, q1, q2, q3, q4, q5, q6⟩ := h
  exact ⟨es, clock, since, seen, c0, (g.block _ (lt_of_block q1) h1).trans q1, q2, q3, q4, (g.block _ (lt_of_block q5) h2).trans q5, q6⟩
def setB (l : List Bs) : Lit → Option Value
  | .string s => if s ∈ l then some (.int .i64 1) else none
  | _ => none
theorem setB_add (l : List Bs) (i : Bs) (q : Lit) : setB (addB l i) q = put (setB l) (.string i) (.int .i64 1) q := by
  unfold put
  split
  · rename_i h; subst h; simp [setB, mem_addB]
  · rename_i h
    match q, h with
    | .string x, h =>
      have : x ≠ i := fun e => h (by rw [e])
      simp only [setB, mem_addB, this, or_false]
    | .int _ _, _ | .bool _, _ | .float _ _, _ | .nil, _ => rfl
theorem addB_lenS (l : List Bs) (i : Bs) : (addB l i).length = if (setB l (.string i)).isSome then l.length else l.length + 1 := by
  unfold addB setB
  by_cases h : i ∈ l <;> simp [h]
theorem nodup_sub_len : ∀ {l U : List Bs}, l.Nodup → (∀ x ∈ l, x ∈ U) → l.length ≤ U.length := by
  intro l U h hs
  exact List.Nodup.length_le_of_subset h hs
/-- Who holds something, in order. -/
structure IsAll (T : LkT) (l : List Bs) : Prop where
  st : l.Pairwise (fun x y => leB x y = true)
  nd : l.Nodup
  mem : ∀ u, u ∈ l ↔ ∃ s, u ∈ T.whos s

theorem left_step {P : List UInt8 → Prop} {left : Lit → Bool} {u : Bs} (h : ∀ v, left (.string v) = false → P v) (hu : P u) : ∀ v, (left (.string v) && !(Lit.string v).sameKey (.string u)) = false → P v := by
  intro v hv
  by_cases e : v = u
  · rw [e]; exact hu
  · refine h v ?_
    rw [Bool.and_eq_false_iff] at hv
    rcases hv with hv | hv
    · exact hv
    · simp [Lit.sameKey, e] at hv
theorem at_val {D : DataW Value} {f : Lit → Option Value} (hD : ∀ l z, D.atKey l z = match f l with | some v => .held v | none => z) {kl : Lit} {val : Value} {yp : List MemPlace} {yd : DataW Value} (hy : hv val = some (yd, yp)) (hat : ∀ z, D.atKey kl z = yd) : f kl = some val := by
  have h1 := mapF_hasS hD kl
  rw [Maps.has_true_of_atKey hat] at h1
  have h2 := hD kl (.held val)
  rw [hat] at h2
  have h3 : yd = .held val := by have : hv val = some (yd, yp) := hy; cases this; rfl
  rw [h3] at h2
  cases hf : f kl with
  | none => rw [hf] at h1; cases h1
  | some v => rw [hf] at h2; injection h2 with h2; rw [h2]

set_option maxHeartbeats 3200000 in
theorem all_any (w : World) (X : Nat → Prop) (b0 tb ob : Nat) (mb : Bs → Nat) (T : LkT) (h : Lk w X b0 tb ob mb T) (ok : LkOk T) (U : List Bs) (hU : ∀ s, ∀ u ∈ T.whos s, u ∈ U) (hl : U.length ≤ 1000000) :
    Calls Try.prog 13 #[.pointer (some ⟨tb, 0, none⟩)] w fun e w' => ∃ v l, e = .returned v ∧ IsAll T l ∧ w'.ownsRow w.heap.size 9 1 v l.length (l.map encStr) ∧ Fr (fun _ => False) w w' := by
  have hmm := @run_makeMap Try.prog
  obtain ⟨al, hal⟩ : ∃ al, w.heap.size = al := ⟨_, rfl⟩
  obtain ⟨w1, hw1⟩ : ∃ w1, w.alloc (.map #[] 0) = w1 := ⟨_, rfl⟩
  have hf1 : Fr (fun _ => False) w w1 := by rw [← hw1]; exact Fr.alloc _ _ _
  have hm1 : mapN w1 Try.prog 9 al ([] : List Bs).length (setB []) := by
    rw [← hw1, ← hal]; exact (mapN_made w Try.prog 9).congr (fun l => by unfold setB; split <;> simp)
  have hL1 := h.fr0 hf1
  have q1 := hL1.c
  have HW1 := hide hw1
  have HAL := hide hal
  have HM1 := hide hm1
  have HF1 := hide hf1
  have HL1 := hide hL1
  have HL := hide h
  have HOK := hide ok
  have HU := hide hU
  obtain ⟨D1, hown1, hD1⟩ := hL1.out.toF
  have HD1 := hide hD1
  have hob : ob < al := by rw [← hal]; exact h.out.lt
  have hal1 : al < w1.heap.size := hm1.lt
  clear h ok hU hal hw1 hm1 hf1 hL1 hD1
  go_enter Try.func13, Try.ntmps13
  go_upto_region 2 with fail
  rw [HW1.out, HAL.out]
  go_wp2_with (first
    | (at_range; go_must (refine wpList_range_own _ rfl _ 51 rfl 9 55 lawS Try.underlying51 hv ob T.names.length _ rfl hown1 ?_); intro w0 hrg0 hg0 hs0; go_frame)
    | fail)
  obtain ⟨r1, hr1⟩ : ∃ q, w1.heap.size = q := ⟨_, rfl⟩
  rw [hr1] at hrg0 hal1 ⊢
  have HR1 := hide hr1
  have hf0 : Fr (fun _ => False) w1 w0 := Fr.grown (hg0.but none) (fun j hj => by cases hj)
  have HM0 := hide (HM1.out.of_block (hf0.block al HM1.out.lt id))
  have HF0 := hide ((HF1.out.trans hf0 (fun _ _ h => h)).mono (S' := fun k => al ≤ k) (fun _ _ h => h.elim))
  clear hf0 hr1 hg0 hs0 q1
  have hob1 : ob ≠ al ∧ ob ≠ r1 ∧ al ≠ r1 := by have := HAL.out; omega
  go_loopw [13] (fun _ wr => ∃ (left : Lit → Bool) (cnt : Nat) (A : List Bs), wr.ranges Try.prog 9 hv ob r1 T.names.length D1 left cnt ∧ Hid (mapN wr Try.prog 9 al A.length (setB A)) ∧ Hid A.Nodup ∧ Hid (∀ u ∈ A, ∃ s, u ∈ T.whos s) ∧ Hid (∀ s, left (.string s) = false → s ∈ T.names → ∀ u ∈ T.whos s, u ∈ A) ∧ Fr (fun k => al ≤ k) w wr)
    (fun _ wr => wr.rangeLeft ob r1)
  case atStart =>
    refine ⟨_, _, [], hrg0, HM0.out, List.nodup_nil, (fun u hu => by cases hu), (fun s hl hs => ?_), HF0.out⟩
    have h1 := mapF_hasS HD1.out (.string s)
    rw [hl] at h1
    have h2 : (outF T mb (.string s)).isSome = true := by show (if s ∈ T.names then some (Value.map (some (mb s))) else none).isSome = true; rw [if_pos hs]; rfl
    rw [h2] at h1; cases h1
  case round =>
    obtain ⟨left, cnt, A, hrg, HMA, HAN, HAM, HAC, hfw⟩ := hrel
    have HFW := hide hfw
    clear hfw
    go_wp2_with (first
      | (at_next; refine wpList_next_ranges _ rfl _ rfl 9 lawS hv (Value.string) id (fun key kl h => by obtain ⟨s, rfl, _⟩ := WideMaps.string_of_keyOf Try.underlying9 h; exact ⟨s, rfl⟩) (fun v _ _ => ⟨v, rfl⟩) ob r1 T.names.length _ _ _ rfl hrg ?_ ?_)
      | fail)
    · intro _ hl0
      have hlen : A.length ≤ 1000000 := Nat.le_trans (nodup_sub_len HAN.out (fun u hu => by obtain ⟨s, hs⟩ := HAM.out u hu; exact HU.out s u hs)) hl
      have hks : KeysS (setB A) (sortB A) := ⟨sortB_st _, (sortB_perm _).nodup_iff.2 HAN.out, fun x => by
        rw [mem_sortB]
        show _ ↔ (if x ∈ A then some (Value.int .i64 1) else none).isSome = true
        by_cases h : x ∈ A <;> simp [h]⟩
      have hs := Try.sortedAnyWho wr al _ _ HMA.out.toF hlen _ hks
      have hall : IsAll T (sortB A) := ⟨sortB_st _, (sortB_perm _).nodup_iff.2 HAN.out, fun u => by
        rw [mem_sortB]
        refine ⟨HAM.out u, fun ⟨s, hs⟩ => HAC.out s (hl0 _) ((HOK.out.ne s).2 (fun e => by rw [e] at hs; cases hs)) u hs⟩⟩
      have HALL := hide hall
      have HS := hide hs
      clear hks hs hall hlen
      go_wp2_with fail
      refine (Try.keysAnyWho wr _).mono ?_
      rintro e w5 ⟨rfl, rfl⟩
      go_wp2_with fail
      refine HS.out.mono ?_
      rintro e w2 ⟨v, rfl, ho, hf⟩
      have HO := hide ho
      have HF := hide hf
      clear ho hf
      go_wp2_with fail
      go_ret
      exact ⟨v, sortB A, rfl, HALL.out, ownsRow_low HO.out (by have := HFW.out.size; have := HAL.out; omega), (HFW.out.fresh (fun k hk => by have := HAL.out; omega)).trans HF.out (fun _ _ h => h)⟩
    · intro u val kl yd yp w4 cnt1 hkey hlk hy hat hrg1 hlt1 hg1 hs1 hen
      obtain ⟨u', e1, hkl, hul⟩ := WideMaps.string_of_keyOf Try.underlying9 hkey
      injection e1 with e1
      subst e1
      have hv1 := at_val HD1.out hy hat
      rw [hkl] at hv1
      have hv2 : u.data.toList ∈ T.names ∧ val = .map (some (mb u.data.toList)) := by
        have h4 : outF T mb (.string u.data.toList) = if u.data.toList ∈ T.names then some (.map (some (mb u.data.toList))) else none := rfl
        rw [h4] at hv1
        by_cases hm2 : u.data.toList ∈ T.names
        · rw [if_pos hm2] at hv1; injection hv1 with e; exact ⟨hm2, e.symm⟩
        · rw [if_neg hm2] at hv1; cases hv1
      obtain ⟨hun, rfl⟩ := hv2
      have hle := hrg1.left_eq
      have hle0 := hrg.left_eq
      have HLE := hide (show w4.rangeLeft ob r1 < wr.rangeLeft ob r1 by omega)
      have hf4 : Fr (fun k => k = r1) wr w4 := Fr.grown hg1 (fun j hj => by cases hj; rfl)
      have hfw4 : Fr (fun k => al ≤ k) w w4 := HFW.out.trans hf4 (fun k _ e => by subst e; omega)
      have hm4 := HMA.out.of_block (hf4.block al HMA.out.lt hob1.2.2)
      have hL4 := HL.out.fr hfw4 (fun k hk e => absurd hk (by have := HAL.out; omega))
      obtain ⟨D2, hown2, hD2⟩ := (hL4.inn _ hun).toF
      have hmlt : mb u.data.toList < al := by have := (HL.out.inn _ hun).lt; have := HAL.out; omega
      have hal4 : al < w4.heap.size := hm4.lt
      have HD2 := hide hD2
      have HFW4 := hide hfw4
      have HM4 := hide hm4
      have HRG1 := hide hrg1
      have HUN := hide hun
      have hkl2 : kl = .string u.data.toList := hkl
      subst hkl2
      obtain ⟨cc, hcc⟩ : ∃ cc, u.data.toList = cc := ⟨_, rfl⟩
      obtain ⟨mbu, hmbu⟩ : ∃ mbu, mb cc = mbu := ⟨_, rfl⟩
      have hr14 : r1 < w4.heap.size := by obtain ⟨_, _, _, _, _, _, _, _, _, q5, _⟩ := hrg1; exact lt_of_block q5
      clear hle hle0 hf4 hfw4 hm4 hL4 hD2 hrg1 hun hv1 hat hy hlk hlt1 hg1 hs1 hkl hul hrg
      rw [hcc] at hown2 hmlt HD2 HRG1 HUN hen ⊢
      rw [hmbu] at hown2 hmlt hen ⊢
      have HMBU := hide hmbu
      clear hcc hmbu hkey
      go_wp2_with (first
        | (at_range; go_must (refine wpList_range_own _ rfl _ 55 rfl 9 3 lawS Try.underlying55 hv mbu (T.whos cc).length _ rfl hown2 ?_); intro w0' hrg0' hg0' hs0'; go_frame)
        | fail)
      obtain ⟨r2, hr2⟩ : ∃ q, w4.heap.size = q := ⟨_, rfl⟩
      rw [hr2] at hrg0' hal4 hr14 ⊢
      have hf0' : Fr (fun _ => False) w4 w0' := Fr.grown (hg0'.but none) (fun j hj => by cases hj)
      have HM0' := hide (HM4.out.of_block (hf0'.block al HM4.out.lt id))
      have HF0' := hide (HFW4.out.trans hf0' (fun _ _ h => h.elim))
      have HRG0 := hide (ranges_fr2 HRG1.out hf0' id id)
      clear hf0' hr2 hg0' hs0'
      go_loopw [19] (fun _ wr => ∃ (left2 : Lit → Bool) (cnt2 : Nat) (A2 : List Bs), wr.ranges Try.prog 9 hv mbu r2 (T.whos cc).length D2 left2 cnt2 ∧ Hid (wr.ranges Try.prog 9 hv ob r1 T.names.length D1 (fun l => left l && !l.sameKey (.string cc)) cnt1) ∧ Hid (mapN wr Try.prog 9 al A2.length (setB A2)) ∧ Hid A2.Nodup ∧ Hid (∀ u ∈ A2, ∃ s, u ∈ T.whos s) ∧ Hid (∀ u ∈ A, u ∈ A2) ∧ Hid (∀ u, left2 (.string u) = false → u ∈ T.whos cc → u ∈ A2) ∧ Fr (fun k => al ≤ k) w wr)
        (fun _ wr => wr.rangeLeft mbu r2)
      case atStart =>
        refine ⟨_, _, A, hrg0', HRG0.out, HM0'.out, HAN.out, HAM.out, (fun u hu => hu), (fun u hl hs => ?_), HF0'.out⟩
        have h1 := mapF_hasS HD2.out (.string u)
        rw [hl] at h1
        have h2 : (innF T cc (.string u)).isSome = true := by show (if u ∈ T.whos cc then some (Value.int .i64 (T.how cc u)) else none).isSome = true; rw [if_pos hs]; rfl
        rw [h2] at h1; cases h1
      case round =>
        obtain ⟨left2, cnt2, A2, hrg2, HRGO, HMA2, HAN2, HAM2, HSUB, HAC2, hfw2⟩ := hrel
        have HFW2 := hide hfw2
        clear hfw2
        go_wp2_with (first
          | (at_next; refine wpList_next_ranges _ rfl _ rfl 9 lawS hv (Value.string) id (fun key kl h => by obtain ⟨s, rfl, _⟩ := WideMaps.string_of_keyOf Try.underlying9 h; exact ⟨s, rfl⟩) (fun v _ _ => ⟨v, rfl⟩) mbu r2 (T.whos cc).length _ _ _ rfl hrg2 ?_ ?_)
          | fail)
        · intro _ hl0
          go_wp2_with fail
          go_roundw
          case rel =>
            refine ⟨_, cnt1, A2, HRGO.out, HMA2.out, HAN2.out, HAM2.out, ?_, HFW2.out⟩
            refine left_step (P := fun s => s ∈ T.names → ∀ u ∈ T.whos s, u ∈ A2) (fun s hl hs u hu => HSUB.out u (HAC.out s hl hs u hu)) (fun _ u hu => HAC2.out u (hl0 _) hu)
          case measure => rw [HRGO.out.left_eq, ← HRG1.out.left_eq]; exact HLE.out
        · intro v val kl yd yp w5 cnt3 hkey hlk hy hat hrg3 hlt3 hg3 hs3 hen2
          obtain ⟨v', e1, hkl, hvl⟩ := WideMaps.string_of_keyOf Try.underlying9 hkey
          injection e1 with e1
          subst e1
          have hv1 := at_val HD2.out hy hat
          rw [hkl] at hv1
          have hvm : v.data.toList ∈ T.whos cc := by
            have h4 : innF T cc (.string v.data.toList) = if v.data.toList ∈ T.whos cc then some (.int .i64 (T.how cc v.data.toList)) else none := rfl
            rw [h4] at hv1
            by_cases hm2 : v.data.toList ∈ T.whos cc
            · exact hm2
            · rw [if_neg hm2] at hv1; cases hv1
          have hkl2 : kl = .string v.data.toList := hkl
          subst hkl2
          have hle := hrg3.left_eq
          have hle0 := hrg2.left_eq
          have hlev : w5.rangeLeft mbu r2 < wr.rangeLeft mbu r2 := by omega
          have hf5 : Fr (fun k => k = r2) wr w5 := Fr.grown hg3 (fun j hj => by cases hj; rfl)
          have hm5 := HMA2.out.of_block (hf5.block al HMA2.out.lt (by omega))
          have hlen : A2.length ≤ 1000000 := Nat.le_trans (nodup_sub_len HAN2.out (fun u hu => by obtain ⟨s, hs⟩ := HAM2.out u hu; exact HU.out s u hs)) hl
          obtain ⟨w6, hrun, hm6, ht6⟩ := hm5.store lawS Try.underlying55 (show A2.length < maxLen by unfold maxLen; omega) (.int .i64 1) hkey
          have hft : Fr (fun k => k = al) w5 w6 := Fr.turned ht6 rfl
          have hrg6 := ranges_fr2 hrg3 hft (by omega) (by omega)
          have hrgo6 := ranges_fr2 (ranges_fr2 HRGO.out hf5 (by omega) (by omega)) hft (by omega) (by omega)
          have hm7 : mapN w6 Try.prog 9 al (addB A2 v.data.toList).length (setB (addB A2 v.data.toList)) := by
            rw [addB_lenS]; exact hm6.congr (setB_add A2 _)
          have hf6 : Fr (fun k => al ≤ k) w w6 := (HFW2.out.trans hf5 (fun k _ e => by subst e; omega)).trans hft (fun k _ e => by subst e; omega)
          have HRG6 := hide hrg6
          have HRGO6 := hide hrgo6
          have HM7 := hide hm7
          have HF6 := hide hf6
          have HLEV := hide (show w6.rangeLeft mbu r2 < wr.rangeLeft mbu r2 by rw [hrg6.left_eq, ← hrg3.left_eq]; exact hlev)
          have HVM := hide hvm
          clear hrg6 hrgo6 hm7 hf6 hlev hvm hft ht6 hm6 hm5 hf5 hle hle0 hv1 hat hy hlk hlt3 hg3 hs3 hkl hvl hrg2 hrg3 hkey
          go_wp2_with fail
          go_roundw
          case rel =>
            refine ⟨_, cnt3, addB A2 v.data.toList, HRG6.out, HRGO6.out, HM7.out, addB_nodup HAN2.out _, (fun u hu => ?_), (fun u hu => mem_addB.2 (.inl (HSUB.out u hu))), ?_, HF6.out⟩
            · rcases mem_addB.1 hu with hu | rfl
              · exact HAM2.out u hu
              · exact ⟨cc, HVM.out⟩
            · exact left_step (P := fun u => u ∈ T.whos cc → u ∈ addB A2 v.data.toList) (fun u hl hs => mem_addB.2 (.inl (HAC2.out u hl hs))) (fun _ => mem_addB.2 (.inr rfl))
          case measure => exact HLEV.out
end Go.Proofs.Ytkboipnfpcngcaa
