/- Open of paxos. -/
import Derived.Test.YtkefffcfiedkeaaPaxosDel
import Derived.Test.YtkefffcfiedkeaaKeysInt
import Derived.Lib.SlMapFilter
import Derived.Laws.IdiomRangeMap
import Derived.Deep.LoopGhost
namespace Go.Proofs.Ytkefffcfiedkeaa
open Go.RowKit Go.Maps Go.Cv
set_option linter.unusedVariables false

theorem ranges_fr2 {w w' : World} {P : Program} {k : TypeId} {R : Value → Option (DataW Value × List MemPlace)} {b r n : Nat} {D : DataW Value} {left : Lit → Bool} {cnt : Nat} (h : w.ranges P k R b r n D left cnt) {S : Nat → Prop} (g : Fr S w w') (h1 : ¬ S b) (h2 : ¬ S r) : w'.ranges P k R b r n D left cnt := by
  obtain ⟨es, clock, since, seen, c0, q1, q2, q3, q4, q5, q6⟩ := h
  exact ⟨es, clock, since, seen, c0, (g.block _ (lt_of_block q1) h1).trans q1, q2, q3, q4, (g.block _ (lt_of_block q5) h2).trans q5, q6⟩

/-- A are those of A0, and the keys of f that have come. -/
def Cov (f : Lit → Option Value) (left : Lit → Bool) (A0 A : List Int) : Prop := ∀ i, i ∈ A ↔ i ∈ A0 ∨ ((f (.int .i64 i)).isSome = true ∧ left (.int .i64 i) = false)
theorem cov_start {f : Lit → Option Value} {D : DataW Value} (hD : ∀ l z, D.atKey l z = match f l with | some v => .held v | none => z) (A0 : List Int) : Cov f (Maps.has D) A0 A0 := fun i => by
  constructor
  · exact .inl
  · rintro (h | ⟨h1, h2⟩)
    · exact h
    · obtain ⟨u, hu⟩ := Option.isSome_iff_exists.1 h1
      rw [Maps.has_true_of_atKey (y := .held u) (fun z => by rw [hD, hu])] at h2
      cases h2
theorem cov_step {f : Lit → Option Value} {left : Lit → Bool} {A0 A : List Int} (h : Cov f left A0 A) {x : Int} (hx : (f (.int .i64 x)).isSome = true) : Cov f (fun z => left z && !z.sameKey (.int .i64 x)) A0 (addS A x) := fun i => by
  rw [mem_addS, h i]
  by_cases e : i = x
  · subst e
    have : (Lit.int .i64 i).sameKey (.int .i64 i) = true := WideAt.sameKey_self trivial
    simp [hx, this]
  · have : (Lit.int .i64 i).sameKey (.int .i64 x) = false := by
      cases hs : (Lit.int .i64 i).sameKey (.int .i64 x) with
      | false => rfl
      | true => have := WideAt.sameKey_eq hs; simp at this; exact absurd this e
    simp [e, this]
theorem cov_end {f : Lit → Option Value} {left : Lit → Bool} {A0 A : List Int} (h : Cov f left A0 A) (hl : ∀ l, left l = false) (i : Int) : i ∈ A ↔ i ∈ A0 ∨ (f (.int .i64 i)).isSome = true := by
  rw [h i]; simp [hl]

theorem some_of_at {f : Lit → Option Value} {D : DataW Value} (hD : ∀ l z, D.atKey l z = match f l with | some v => .held v | none => z) {kl : Lit} {c : Value} (hat : ∀ zd, D.atKey kl zd = .held c) : (f kl).isSome = true := by
  have h1 := hat .nil
  rw [hD] at h1
  cases hf : f kl with
  | none => rw [hf] at h1; cases h1
  | some u => rfl

set_option maxHeartbeats 4000000 in
set_option maxRecDepth 100000 in
theorem open_any (w : World) (pb a b c : Nat) (n : Nat) (s : PS) (h : Pr w pb (some (a, b, c)) n s) (hn : n ≤ 400000) (L : List Int) (hL : L.Pairwise (fun x y => x < y)) (hm : ∀ x, x ∈ L ↔ (vm s.vs (.int .i64 x)).isSome = true ∨ (pkF s.ks (.int .i64 x)).isSome = true)
    (hr : ∀ x ∈ L, -9223372036854775808 ≤ x ∧ x ≤ 9223372036854775807) (hlen : L.length ≤ 1000000) :
    Calls Try.prog 23 #[.pointer (some ⟨pb, 0, none⟩)] w fun e w' => ∃ v, e = .returned v ∧ Reads w' v (L.filter fun x => !decB s x).length 1 ((L.filter fun x => !decB s x).map (Value.int .i64)) ∧ (∀ k, v.ownBlock = some k → w.heap.size ≤ k) ∧ Fr (fun _ => False) w w' := by
  have hmm := @run_makeMap Try.prog
  have hlt := h.lt
  have hlb : b < w.heap.size := hlt b (by simp [blocks, mo3])
  have hlc : c < w.heap.size := hlt c (by simp [blocks, mo3])
  have hlp : pb < w.heap.size := hlt pb (by simp [blocks, mo3])
  obtain ⟨bx, hbx⟩ : ∃ q, w.heap.size = q := ⟨_, rfl⟩
  obtain ⟨y1, hy1⟩ : ∃ y, w.alloc (.cells #[.pointer (some ⟨pb, 0, none⟩)] 24) = y := ⟨_, rfl⟩
  have hf1 : Fr (fun _ => False) w y1 := by rw [← hy1]; exact Fr.alloc _ _ _
  have hb1 : y1.heap[bx]? = some (.cells #[.pointer (some ⟨pb, 0, none⟩)] 24 (0, 0)) := by rw [← hy1, ← hbx]; exact block_alloc _ _
  obtain ⟨al, hal⟩ : ∃ q, y1.heap.size = q := ⟨_, rfl⟩
  obtain ⟨y2, hy2⟩ : ∃ y, y1.alloc (.map #[] 0) = y := ⟨_, rfl⟩
  have hf2 : Fr (fun _ => False) y1 y2 := by rw [← hy2]; exact Fr.alloc _ _ _
  have hm2 : mapF y2 Try.prog 3 al 0 (setF []) := by
    rw [← hy2, ← hal]; exact (mapF_made y1 Try.prog 3).congr (fun l => by unfold setF; split <;> simp)
  have hf12 := hf1.trans hf2 (fun _ _ h => h)
  have hcl : ∀ wx, Fr (fun k => al ≤ k) y2 wx → wx.cell? ⟨bx, 0, none⟩ = some (.pointer (some ⟨pb, 0, none⟩)) ∧ Pr wx pb (some (a, b, c)) n s := fun wx hf => by
    have hbl : bx < al := by rw [← hal]; exact lt_of_block hb1
    have e1 := (hf.block bx (lt_of_block ((hf2.block bx (lt_of_block hb1) id).trans hb1)) (by omega)).trans ((hf2.block bx (lt_of_block hb1) id).trans hb1)
    exact ⟨by rw [cell_of_block e1]; rfl, (h.fr0 hf12).fr hf (fun k hk hs => by have := hlt k hk; omega)⟩
  have hblx : bx < al := by rw [← hal]; exact lt_of_block hb1
  obtain ⟨d0, hP2⟩ := hcl y2 (Fr.refl _ _)
  have d1 : y2.cell? ⟨pb, 7, none⟩ = some (.map (some b)) := by rw [cell_of_block hP2.blk]; rfl
  obtain ⟨D1, hown1, hD1⟩ := hP2.maps.2.1
  have HCL := hide hcl
  have HY1 := hide hy1
  have HY2 := hide hy2
  have HBX := hide hbx
  have HAL := hide hal
  have HM2 := hide hm2
  have HF12 := hide hf12
  have HD1 := hide hD1
  have H := hide h
  have HM := hide hm
  have HLT := hide hlt
  have HR := hide hr
  have HLL := hide hL
  clear hcl hy1 hy2 hbx hal hm2 hf12 hD1 h hm hlt hr hL hf1 hf2 hb1 hP2
  go_enter Try.func23, Try.ntmps23
  go_upto_region 1 with fail
  rw [HY1.out, HBX.out]
  go_upto_region 2 with fail
  rw [HY2.out, HAL.out]
  go_wp2_with (first
    | (at_range; go_must (refine wpList_range_own _ rfl _ 63 rfl 3 56 law Try.underlying63 hv b n _ rfl hown1 ?_); intro w0 hrg0 hg0 hs0; go_frame)
    | go_in)
  have hsz1 := hown1.size_le
  have hal2 : al < y2.heap.size := HM2.out.lt
  have hbal : b ≠ al ∧ c ≠ al := by have := HBX.out; omega
  go_loopw [12] (fun _ wr => ∃ (left : Lit → Bool) (cnt m : Nat) (A : List Int), wr.ranges Try.prog 3 hv b y2.heap.size n D1 left cnt ∧ mapF wr Try.prog 3 al m (setF A) ∧ m + cnt ≤ size D1 ∧ Hid (Cov (vm s.vs) left [] A) ∧ Fr (fun k => al ≤ k) y2 wr)
    (fun _ wr => wr.rangeLeft b y2.heap.size)
  case atStart =>
    have hf0 : Fr (fun _ => False) y2 w0 := Fr.grown (hg0.but none) (fun j hj => by cases hj)
    exact ⟨_, _, 0, [], hrg0, HM2.out.of_block (hf0.block al HM2.out.lt id), by omega, cov_start HD1.out [], hf0.mono (fun _ _ h => h.elim)⟩
  case round =>
    obtain ⟨left, cnt, m, A, hrg, hmA, hmc, HCOV, hfw⟩ := hrel
    have HMA := hide hmA
    have HFW := hide hfw
    clear hmA hfw
    go_wp2_with (first
      | (at_next; refine wpList_next_ranges _ rfl _ rfl 3 law hv (Value.int .i64) id (fun key kl h => by obtain ⟨x, rfl, _⟩ := Maps.keyOf_int_inv Try.underlying3 h; exact ⟨x, rfl⟩) (fun v _ _ => ⟨v, rfl⟩) b y2.heap.size n _ _ _ rfl hrg ?_ ?_)
      | go_in)
    · intro _ hl0
      obtain ⟨d2, hPw⟩ := HCL.out wr HFW.out
      have d3 : wr.cell? ⟨pb, 8, none⟩ = some (.map (some c)) := by rw [cell_of_block hPw.blk]; rfl
      obtain ⟨D2, hown2, hD2⟩ := hPw.maps.2.2
      have HD2 := hide hD2
      have hcov1 := cov_end HCOV.out hl0
      have HC1 := hide hcov1
      have hsz2 := hown2.size_le
      have hal3 : al < wr.heap.size := HMA.out.lt
      clear hcov1 hD2 hPw d0 d1
      go_wp2_with (first
        | (at_range; go_must (refine wpList_range_own _ rfl _ 64 rfl 3 72 law Try.underlying64 hv c n _ rfl hown2 ?_); intro w0' hrg0' hg0' hs0'; go_frame)
        | go_in)
      obtain ⟨r2, hr2⟩ : ∃ q, wr.heap.size = q := ⟨_, rfl⟩
      rw [hr2] at hrg0' hal3 ⊢
      have HR2 := hide hr2
      have hf0' : Fr (fun _ => False) wr w0' := Fr.grown (hg0'.but none) (fun j hj => by cases hj)
      have HM0 := hide (HMA.out.of_block (hf0'.block al HMA.out.lt id))
      have HF0 := hide (HFW.out.trans hf0' (fun _ _ h => h.elim))
      clear hf0' hr2 d2 d3
      go_loopw [23] (fun _ wr => ∃ (left : Lit → Bool) (cnt q : Nat) (A2 : List Int), wr.ranges Try.prog 3 hv c r2 n D2 left cnt ∧ mapF wr Try.prog 3 al (m + q) (setF A2) ∧ q + cnt ≤ size D2 ∧ Hid (Cov (pkF s.ks) left A A2) ∧ Fr (fun k => al ≤ k) y2 wr)
        (fun _ wr => wr.rangeLeft c r2)
      case atStart => exact ⟨_, _, 0, A, hrg0', HM0.out, by omega, cov_start HD2.out A, HF0.out⟩
      case round =>
        obtain ⟨left2, cnt2, q, A2, hrg2, hmA2, hmc2, HCOV2, hfw2⟩ := hrel
        have HMA2 := hide hmA2
        have HFW2 := hide hfw2
        clear hmA2 hfw2
        go_wp2_with (first
          | (at_next; refine wpList_next_ranges _ rfl _ rfl 3 law hv (Value.int .i64) id (fun key kl h => by obtain ⟨x, rfl, _⟩ := Maps.keyOf_int_inv Try.underlying3 h; exact ⟨x, rfl⟩) (fun v _ _ => ⟨v, rfl⟩) c r2 n _ _ _ rfl hrg2 ?_ ?_)
          | go_in)
        · intro _ hl2
          have hcov2 := cov_end HCOV2.out hl2
          obtain ⟨d4, hPz⟩ := HCL.out wr HFW2.out
          have hks : KeysI (setF A2) L := ⟨HLL.out, fun x => by
            rw [HM.out x]
            have e : (setF A2 (.int .i64 x)).isSome = true ↔ x ∈ A2 := by simp only [setF]; by_cases hx : x ∈ A2 <;> simp [hx]
            rw [e, hcov2 x, HC1.out x]
            simp⟩
          have hsrt := Try.sortedAnyInt wr al (m + q) (setF A2) HMA2.out (by omega) L hks
          have HSRT := hide hsrt
          clear hcov2 hks hsrt
          have HCZ := hide (fun wx (hf : Fr (fun _ => False) wr wx) => HCL.out wx (HFW2.out.trans hf (fun _ _ h => h.elim)))
          have hszw : al < wr.heap.size := HMA2.out.lt
          go_wp2_with fail
          refine (Try.keysAnyInt wr (some al)).mono ?_
          rintro e w5 ⟨rfl, rfl⟩
          go_wp2_with fail
          refine HSRT.out.mono ?_
          rintro e w6 ⟨v, rfl, ho, hf⟩
          obtain ⟨e6, hP6⟩ := HCZ.out w6 hf
          have HFF := hide ((HF12.out.trans HFW2.out (fun k hk hs => by have := HBX.out; omega)).trans hf (fun _ _ h => h.elim))
          have hblt : ∀ k ∈ blocks pb (some (a, b, c)) s.ks, k < wr.heap.size + 1 := fun k hk => by have := HLT.out k hk; have := HBX.out; omega
          have hd : Calls Try.prog 30 #[v, .func (.func 32) #[] #[.pointer (some ⟨bx, 0, none⟩)]] w6 fun e w' => ∃ v', e = .returned v' ∧ Reads w' v' (L.filter fun x => !decB s x).length 1 ((L.filter fun x => !decB s x).map (Value.int .i64)) ∧ (∀ k, v'.ownBlock = some k → wr.heap.size + 1 ≤ k) ∧ Fr (fun k => wr.heap.size + 1 ≤ k) w6 w' := by
            rcases ho.2 with ⟨rfl, h0⟩ | ⟨g, cap', cs, rfl, _⟩
            · have hLe : L = [] := List.eq_nil_of_length_eq_zero h0
              subst hLe
              refine (delNil w6 bx).mono ?_
              rintro e w' ⟨rfl, rfl⟩
              exact ⟨_, rfl, Reads.nil _ _, (fun k hk => by cases hk), Fr.refl _ _⟩
            · refine (delAny w6 bx pb _ n s hP6 e6 (wr.heap.size + 1) L HR.out (by omega) g cap' ho hblt (by omega)).mono ?_
              rintro e w' ⟨rfl, h1, h2⟩
              exact ⟨_, rfl, h1, (fun k hk => by cases hk; exact (ho.lt _ rfl).1), h2⟩
          obtain ⟨a9, c9, rfl⟩ := own_shape ho
          have HD := hide hd
          have hs6 := hf.size
          clear hd ho hf hP6 e6 hblt
          go_wp2_with fail
          refine HD.out.mono ?_
          rintro e w7 ⟨v', rfl, h1, h3, h2⟩
          obtain ⟨_, a8, c8, rfl, _, _, _⟩ := id h1
          have HQ1 := hide h1
          have HQ2 := hide h2
          clear h1 h2
          go_wp2_with fail
          go_ret
          exact ⟨_, rfl, HQ1.out, (fun k hk => by have := h3 k hk; have := HBX.out; omega), HFF.out.trans HQ2.out (fun k hk hs => by have := HBX.out; omega)⟩
        · intro x cc kl yd yp w1 cnt1 hkey hlx hval hat hrg1 hlt1 hg1 hs1 hen
          obtain ⟨x', ex, rfl, hwx⟩ := Maps.keyOf_int_inv Try.underlying3 hkey
          cases ex
          cases hval
          have hsome := some_of_at HD2.out hat
          have hcov := cov_step HCOV2.out hsome
          have hf1 : Fr (fun k => k = r2) wr w1 := Fr.grown hg1 (fun j hj => by cases hj; rfl)
          have hm1 := HMA2.out.of_block (hf1.block al HMA2.out.lt (by omega))
          have HCV := hide hcov
          have HF1 := hide hf1
          have HG1 := hide hrg1
          clear hcov hf1
          go_wp2_with (at_mapUpdate; refine wpList_store_mf _ rfl _ _ _ 62 rfl 3 3 law Try.underlying62 al (m + q) _ rfl hm1 (by unfold maxLen; omega) _ _ _ rfl rfl hkey ?_; intro w3 hm3 ht3; go_frame)
          have hft : Fr (fun k => k = al) w1 w3 := Fr.turned ht3 rfl
          have hrg3 := ranges_fr2 HG1.out hft (by omega) (by omega)
          have HM3 := hide (hm3.congr (fun z => setF_add A2 x z))
          have HF3 := hide ((HFW2.out.trans HF1.out (fun k _ hk => by omega)).trans hft (fun k _ hk => by omega))
          go_roundw
          case rel => exact ⟨_, cnt1, q + 1, addS A2 x, hrg3, HM3.out, by omega, HCV.out, HF3.out⟩
          case measure => rw [hrg3.left_eq, hrg2.left_eq]; exact hlt1
    · intro x cc kl yd yp w1 cnt1 hkey hlx hval hat hrg1 hlt1 hg1 hs1 hen
      obtain ⟨x', ex, rfl, hwx⟩ := Maps.keyOf_int_inv Try.underlying3 hkey
      cases ex
      cases hval
      have hsome := some_of_at HD1.out hat
      have hcov := cov_step HCOV.out hsome
      have hf1 : Fr (fun k => k = y2.heap.size) wr w1 := Fr.grown hg1 (fun j hj => by cases hj; rfl)
      have hm1 := HMA.out.of_block (hf1.block al HMA.out.lt (by omega))
      have HCV := hide hcov
      have HF1 := hide hf1
      have HG1 := hide hrg1
      clear hcov hf1
      go_wp2_with (at_mapUpdate; refine wpList_store_mf _ rfl _ _ _ 62 rfl 3 3 law Try.underlying62 al m _ rfl hm1 (by unfold maxLen; omega) _ _ _ rfl rfl hkey ?_; intro w3 hm3 ht3; go_frame)
      have hft : Fr (fun k => k = al) w1 w3 := Fr.turned ht3 rfl
      have hrg3 := ranges_fr2 HG1.out hft (by omega) (by omega)
      have HM3 := hide (hm3.congr (fun z => setF_add A x z))
      have HF3 := hide ((HFW.out.trans HF1.out (fun k _ hk => by omega)).trans hft (fun k _ hk => by omega))
      go_roundw
      case rel => exact ⟨_, cnt1, m + 1, addS A x, hrg3, HM3.out, by omega, HCV.out, HF3.out⟩
      case measure => rw [hrg3.left_eq, hrg.left_eq]; exact hlt1
end Go.Proofs.Ytkefffcfiedkeaa
