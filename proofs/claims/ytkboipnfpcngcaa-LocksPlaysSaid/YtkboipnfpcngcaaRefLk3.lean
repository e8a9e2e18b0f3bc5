/- The document's table of locks: Take. -/
import Derived.Test.YtkboipnfpcngcaaRefLk2
import Derived.Test.YtkboipnfpcngcaaCells2
namespace Go.Proofs.Ytkboipnfpcngcaa
open Go.RowKit Go.Maps Go.Cv
set_option linter.unusedVariables false

theorem run_last {P : Program} {o : Oper} {a : Act} {w w' : World} {K : Act → World → Prop} {Q : Exit → Act → World → Prop} (hrun : (execOp a.eval o).run P w = .ok .skip w') (hK : K (a.put o.dst undef) w') : o.wp P a w K Q := by
  unfold Oper.wp
  rw [hrun]
  exact hK
theorem own_pos {w : World} {base e s : Nat} {v : Value} {n : Nat} {xs : List Value} (h : w.ownsRow base e s v n xs) (hn : 0 < n) : ∃ g c, v = .slice (some ⟨g, 0, none⟩) n c := by
  rcases h.2 with ⟨-, e⟩ | ⟨g, c, cs, e, -⟩
  · omega
  · exact ⟨g, c, e⟩
theorem flat_set : ∀ (R : List LkR) (k : Nat) (y : LkR) (b : Bool), R[k]? = some y → (R.flatMap rcell).set (k * 3 + 2) (.bool b) = (R.set k (y.1, y.2.1, b)).flatMap rcell
  | [], k, y, b, h => by simp at h
  | x :: r, 0, y, b, h => by
    simp at h; subst h
    simp [rcell]
  | x :: r, k + 1, y, b, h => by
    have h1 := flat_set r k y b (by simpa using h)
    rw [List.flatMap_cons, List.set_cons_succ, List.flatMap_cons, ← h1, show (k + 1) * 3 + 2 = (rcell x).length + (k * 3 + 2) by rw [rcell_len]; omega, List.set_append_right _ _ (by omega)]
    congr 2
    omega
/-- One lock's mark is set. -/
theorem rk_mark {w : World} {rb g nR cp k : Nat} {R : List LkR} {y : LkR} (h : Rk w rb (.slice (some ⟨g, 0, none⟩) nR cp) R) (hy : R[k]? = some y) (b : Bool) : Rk (w.setCell ⟨g, k * 3 + 2, none⟩ (.bool b)) rb (.slice (some ⟨g, 0, none⟩) nR cp) (R.set k (y.1, y.2.1, b)) := by
  have hlen : nR = R.length := by obtain ⟨-, a, c, e, -⟩ := Reads.of_own h.own; cases e; rfl
  have hg := (h.own.lt g rfl).1
  refine ⟨?_, ?_⟩
  · exact (Fr.setCell (S := fun q => q = g) w ⟨g, k * 3 + 2, none⟩ (.bool b) rfl).block rb (lt_of_block h.blk) (fun e => by omega) |>.trans h.blk
  · rw [List.length_set, ← flat_set R k y b hy]
    have h2 := h.own
    subst hlen
    exact own_set h2 _ _
theorem mark_same {tx : ByteArray} {x : WantT} {R : List LkR} {k : Nat} {y : LkR} (hy : R[k]? = some y) : (R.take (k + 1)).map (markR tx x) ++ R.drop (k + 1) = ((R.take k).map (markR tx x) ++ R.drop k).set k (markR tx x y) := by
  obtain ⟨hk, rfl⟩ := List.getElem?_eq_some_iff.1 hy
  rw [List.take_add_one, List.getElem?_eq_getElem hk, List.drop_eq_getElem_cons hk]
  have e : ((R.take k).map (markR tx x)).length = k := by rw [List.length_map, List.length_take]; omega
  rw [List.set_append_right _ _ (by omega), e, Nat.sub_self, List.map_append, List.append_assoc]
  rfl
theorem mark_get {tx : ByteArray} {x : WantT} {R : List LkR} {k : Nat} {y : LkR} (hy : R[k]? = some y) : ((R.take k).map (markR tx x) ++ R.drop k)[k]? = some y := by
  obtain ⟨hk, rfl⟩ := List.getElem?_eq_some_iff.1 hy
  have e : ((R.take k).map (markR tx x)).length = k := by rw [List.length_map, List.length_take]; omega
  rw [List.getElem?_append_right (by omega), e, Nat.sub_self, List.drop_eq_getElem_cons hk]; rfl
theorem any_step {p : LkR → Bool} {R : List LkR} {k : Nat} {y : LkR} (hy : R[k]? = some y) : (R.take (k + 1)).any p = ((R.take k).any p || p y) := by
  rw [List.take_add_one, hy]; simp
theorem set_same {α : Type} {l : List α} {k : Nat} {x : α} (h : l[k]? = some x) : l.set k x = l := by
  obtain ⟨hk, rfl⟩ := List.getElem?_eq_some_iff.1 h
  exact List.set_getElem_self hk

set_option maxRecDepth 100000 in
set_option maxHeartbeats 12800000 in
theorem rTake_any (w : World) (rb : Nat) (u : Value) (R : List LkR) (h : Rk w rb u R) (hl : R.length ≤ 10000) (tx : ByteArray) (v : Value) (l : List WantT) (hv : Reads w v l.length 2 (l.flatMap wcell)) (hn : l.length ≤ 1000) (hvb : 0 < l.length → ∀ b, foot v = some b → b ≠ rb ∧ u.ownBlock ≠ some b) :
    Calls Try.prog 18 #[.pointer (some ⟨rb, 0, none⟩), .string tx, v] w fun e w' => e = .returned (.int .i64 (takeRE R tx l)) ∧ RTd w w' rb u (takeR R tx l) := by
  obtain ⟨i0, hi0, hz0, hz1, hz2⟩ := info_parts infoL
  obtain ⟨n, hn'⟩ : ∃ n, l.length = n := ⟨_, rfl⟩
  rw [hn'] at hv hn hvb
  obtain ⟨-, a, lc, rfl, -, -, -⟩ := id hv
  have hn9 : (n : Int) ≤ 1000 := by omega
  have HH := hide h
  have HV := hide hv
  have HN := hide hn'
  have HVB := hide hvb
  have HL := hide hl
  clear h hv hn' hvb hl
  by_cases htz : tx = ⟨#[]⟩
  · have he : takeRE R tx l = 1 := by unfold takeRE; rw [if_pos htz]
    have hs : takeR R tx l = R := by unfold takeR; rw [if_neg (by rw [he]; decide)]
    rw [he, hs]
    clear he hs
    subst htz
    go_enter Try.func18, Try.ntmps18
    go_wp2_with fail
    go_ret
    exact ⟨rfl, u, HH.out, .inl rfl, Fr.refl _ _⟩
  · have htxb : (tx.toList == []) = false := by have := bytes_beq htz; simpa using this
    have hE0 : takeRE R tx l = if busyR R tx l then 35 else 0 := by unfold takeRE; rw [if_neg htz]
    have HE0 := hide hE0
    obtain ⟨nR, hnR⟩ : ∃ nR, R.length = nR := ⟨_, rfl⟩
    have hown := HH.out.own
    have hrd := Reads.of_own hown
    rw [hnR] at hown hrd
    obtain ⟨aR, cp, hsh⟩ := own_shape hown
    subst hsh
    have c1 := HH.out.c
    have hnR9 : nR ≤ 10000 := by rw [← hnR]; exact HL.out
    have hnRI : (nR : Int) ≤ 10000 := by omega
    have HRD := hide hrd
    have HNR := hide hnR
    clear hE0 htz hown hrd hnR
    go_enter Try.func18, Try.ntmps18
    go_wp2_with fail
    go_loopw [7] (fun ii wr => ∃ i : Nat, ii = .int .i64 i ∧ i ≤ n ∧ Fr (fun _ => False) w wr ∧ Hid (∀ (j : Nat) x, j < i → l[j]? = some x → busyR1 R tx x = false)) (fun ii _ => n - (intOf ii).toNat)
    case atStart => exact ⟨0, rfl, Nat.zero_le _, Fr.refl _ _, fun j x hj => absurd hj (Nat.not_lt_zero _)⟩
    case round =>
      obtain ⟨i, rfl, hi, hf, HB⟩ := hrel
      have HF := hide hf
      clear hf
      by_cases hlt : i < n
      · have ik0 : (0 : Int) ≤ (i : Int) := by omega
        have ik1 : (i : Int) < (n : Int) := by omega
        obtain ⟨x, hx⟩ : ∃ x, l[i]? = some x := ⟨_, List.getElem?_eq_getElem (by rw [HN.out]; exact hlt)⟩
        obtain ⟨bl, ol, rfl, hltl, hcl⟩ := row_cells wcell_len HV.out hx (by decide)
        obtain ⟨xc, xw⟩ := x
        have hlc : ∀ wx, Fr (fun _ => False) w wx → wx.cell? ⟨bl, ol + i * 2, none⟩ = some (.string xc) ∧ wx.cell? ⟨bl, ol + i * 2 + 1, none⟩ = some (.bool xw) := fun wx hf => ⟨hcl 0 (.string xc) rfl wx (hf.block bl hltl (fun h => h)), hcl 1 (.bool xw) rfl wx (hf.block bl hltl (fun h => h))⟩
        have HLC := hide hlc
        have HX := hide hx
        clear hx hcl hlc
        have c2 := cell_fr0 HF.out c1
        go_wp2_with fail
        go_loopw [8] (fun kk wr => ∃ k : Nat, kk = .int .i64 k ∧ k ≤ nR ∧ Fr (fun _ => False) w wr ∧ Hid (∀ (j : Nat) y, j < k → R[j]? = some y → (decide (y.1 ≠ tx ∧ y.2.1 = xc) && (y.2.2 || xw)) = false)) (fun kk _ => nR - (intOf kk).toNat)
        case atStart => exact ⟨0, rfl, Nat.zero_le _, HF.out, fun j x hj => absurd hj (Nat.not_lt_zero _)⟩
        case round =>
          obtain ⟨k, rfl, hk, hf, HB2⟩ := hrel
          have HF2 := hide hf
          clear hf
          have c3 := cell_fr0 HF2.out c1
          by_cases hklt : k < nR
          · have jk0 : (0 : Int) ≤ (k : Int) := by omega
            have jk1 : (k : Int) < (nR : Int) := by omega
            obtain ⟨y, hy⟩ : ∃ y, R[k]? = some y := ⟨_, List.getElem?_eq_getElem (by have := HNR.out; omega)⟩
            obtain ⟨b0, o0, rfl, hlt0, hcells⟩ := row_cells rcell_len HRD.out hy (by decide)
            obtain ⟨yt, yc, yb⟩ := y
            have hbl := HF2.out.block b0 hlt0 (fun h => h)
            have e0 := hcells 0 (.string yt) rfl wr hbl
            have e1 := hcells 1 (.string yc) rfl wr hbl
            have e2 := hcells 2 (.bool yb) rfl wr hbl
            rw [Nat.add_zero] at e0
            have HY := hide hy
            obtain ⟨xb, hxb⟩ : ∃ xb, wr.heap.size = xb := ⟨_, rfl⟩
            obtain ⟨wa, hwa⟩ : ∃ wa, wr.alloc (.cells #[.string yt, .string yc, .bool yb] 63) = wa := ⟨_, rfl⟩
            have hba : wa.heap[xb]? = some (.cells #[.string yt, .string yc, .bool yb] 63 (0, 0)) := by rw [← hwa, ← hxb]; exact block_alloc _ _
            have hfa : Fr (fun _ => False) wr wa := by rw [← hwa]; exact Fr.alloc _ _ _
            have d0 : wa.cell? ⟨xb, 0, none⟩ = some (.string yt) := by rw [cell_of_block hba]; rfl
            have d1 : wa.cell? ⟨xb, 1, none⟩ = some (.string yc) := by rw [cell_of_block hba]; rfl
            have d2 : wa.cell? ⟨xb, 2, none⟩ = some (.bool yb) := by rw [cell_of_block hba]; rfl
            have HFA := hide (HF2.out.trans hfa (fun _ _ h => h))
            obtain ⟨f0, f1⟩ := HLC.out wa HFA.out
            obtain ⟨Q, hQ⟩ : ∃ Q, (decide (yt ≠ tx ∧ yc = xc) && (yb || xw)) = Q := ⟨_, rfl⟩
            have HQ := hide hQ
            have HWA := hide hwa
            have HXB := hide hxb
            clear hy hcells hbl hQ hba hfa hwa hxb
            go_upto_region 10 with fail
            rw [HWA.out, HXB.out]
            go_cut [63] from 37 to 62 (fun q wx => q = .bool Q ∧ Fr (fun _ => False) wa wx)
            case first =>
              clear e0 e1 e2 c1 c2 c3
              by_cases h1 : yt = tx
              · have hs0 : (yt.toList == tx.toList) = true := by rw [h1]; simp
                have hs1 : (yt.toList != tx.toList) = false := by rw [h1]; simp
                have hq : Q = false := by rw [← HQ.out]; simp [h1]
                have HQQ := hide hq
                clear h1 hq
                go_wp2_with fail
                go_quiet (fail)
                go_wp2_with fail
                go_meet
                case rel => exact ⟨by rw [HQQ.out], (Fr.refl _ _).drewN nq⟩
              · have hs0 := bytes_beq h1
                have hs1 : (yt.toList != tx.toList) = true := by simp [bne, hs0]
                have H1 := hide h1
                clear h1
                by_cases h2 : yc = xc
                · have hs2 : (yc.toList == xc.toList) = true := by rw [h2]; simp
                  have hq : Q = (yb || xw) := by rw [← HQ.out]; simp [h2, H1.out]
                  have HQQ := hide hq
                  clear h2 hq
                  cases yb with
                  | true =>
                    go_wp2_with fail
                    go_quiet (fail)
                    go_wp2_with fail
                    go_meet
                    case rel => exact ⟨by rw [HQQ.out]; rfl, (Fr.refl _ _).drewN nq⟩
                  | false =>
                    go_wp2_with fail
                    go_quiet (fail)
                    go_wp2_with fail
                    go_meet
                    case rel => exact ⟨by rw [HQQ.out]; rfl, (Fr.refl _ _).drewN nq⟩
                · have hs2 := bytes_beq h2
                  have hq : Q = false := by rw [← HQ.out]; simp [h2]
                  have HQQ := hide hq
                  clear h2 hq
                  go_wp2_with fail
                  go_quiet (fail)
                  go_wp2_with fail
                  go_meet
                  case rel => exact ⟨by rw [HQQ.out], (Fr.refl _ _).drewN nq⟩
            case rest =>
              obtain ⟨rfl, hf10⟩ := hcut
              have HF10 := hide (HFA.out.trans hf10 (fun _ _ h => h))
              clear hf10 e0 e1 e2 c1 c2 c3 d0 d1 d2 f0 f1
              cases Q with
              | true =>
                have hbz : busyR R tx l = true := by
                  unfold busyR busyR1
                  rw [List.any_eq_true]
                  exact ⟨(xc, xw), List.mem_of_getElem? HX.out, by rw [List.any_eq_true]; exact ⟨(yt, yc, yb), List.mem_of_getElem? HY.out, HQ.out⟩⟩
                have hres : takeRE R tx l = 35 := by rw [HE0.out, if_pos hbz]
                have HRES := hide hres
                clear hbz hres
                go_wp2_with fail
                go_ret
                refine ⟨by rw [HRES.out]; rfl, ?_⟩
                have hs : takeR R tx l = R := by unfold takeR; rw [if_neg (by rw [HRES.out]; decide)]
                rw [hs]
                exact ⟨_, HH.out.fr0 HF10.out, .inl rfl, HF10.out.mono (fun _ _ h => h.elim)⟩
              | false =>
                go_wp2_with fail
                go_roundw
                case rel =>
                  refine ⟨k + 1, by go_num, by omega, HF10.out, fun j y hj hy => ?_⟩
                  by_cases e : j < k
                  · exact HB2.out j y e hy
                  · have : j = k := by omega
                    subst this
                    rw [HY.out] at hy; cases hy; exact HQ.out
                case measure => simp [intOf]; omega
          · have jk1 : ¬ (k : Int) < (nR : Int) := by omega
            have hb1 : busyR1 R tx (xc, xw) = false := by
              unfold busyR1
              rw [List.any_eq_false]
              intro y hy
              obtain ⟨j, hj⟩ := List.mem_iff_getElem?.1 hy
              have := HB2.out j y (by have := (List.getElem?_eq_some_iff.1 hj).1; have := HNR.out; omega) hj
              rw [this]; simp
            have HB1 := hide hb1
            clear hb1
            go_wp2_with fail
            go_roundw
            case rel =>
              refine ⟨i + 1, by go_num, by omega, HF2.out, fun j x hj hx => ?_⟩
              by_cases e : j < i
              · exact HB.out j x e hx
              · have : j = i := by omega
                subst this
                rw [HX.out] at hx; cases hx; exact HB1.out
            case measure => simp [intOf]; omega
      · have ik0 : (0 : Int) ≤ (i : Int) := by omega
        have ik1 : ¬ (i : Int) < (n : Int) := by omega
        have hbz : busyR R tx l = false := by
          unfold busyR
          rw [List.any_eq_false]
          intro x hx
          obtain ⟨j, hj⟩ := List.mem_iff_getElem?.1 hx
          have := HB.out j x (by have := (List.getElem?_eq_some_iff.1 hj).1; have := HN.out; omega) hj
          rw [this]; simp
        have hres : takeRE R tx l = 0 := by rw [HE0.out, if_neg (by rw [hbz]; simp)]
        have hs : takeR R tx l = l.foldl (putR tx) R := by unfold takeR; rw [if_pos hres]
        have HRES := hide hres
        have HTS := hide hs
        have hT0 : RTd w wr rb (.slice aR nR cp) R := ⟨_, HH.out.fr0 HF.out, .inl rfl, HF.out.mono (fun _ _ h => h.elim)⟩
        have HT0 := hide hT0
        clear hbz hres hs hT0 HE0 HB HF
        go_wp2_with fail
        clear ik0 ik1 hi hlt c1
        go_loopw [10] (fun ii wr => ∃ i : Nat, ii = .int .i64 i ∧ i ≤ n ∧ Hid (RTd w wr rb (.slice aR nR cp) ((l.take i).foldl (putR tx) R))) (fun ii _ => n - (intOf ii).toNat)
        case atStart => exact ⟨0, rfl, Nat.zero_le _, HT0.out⟩
        case round =>
          obtain ⟨i, rfl, hi, HT⟩ := hrel
          obtain ⟨wo, rfl⟩ : ∃ wo, wo = wr := ⟨_, rfl⟩
          clear HT0
          by_cases hlt : i < n
          · have ik0 : (0 : Int) ≤ (i : Int) := by omega
            have ik1 : (i : Int) < (n : Int) := by omega
            obtain ⟨x, hx⟩ : ∃ x, l[i]? = some x := ⟨_, List.getElem?_eq_getElem (by rw [HN.out]; exact hlt)⟩
            have hvb := HVB.out (by omega)
            obtain ⟨bl, ol, rfl, hltl, hcl⟩ := row_cells wcell_len HV.out hx (by decide)
            obtain ⟨hb1, hb2⟩ := hvb bl rfl
            have hnext : (l.take (i + 1)).foldl (putR tx) R = putR tx ((l.take i).foldl (putR tx) R) x := by rw [List.take_add_one, hx, List.foldl_append]; rfl
            obtain ⟨xc, xw⟩ := x
            have hml : ((l.take i).foldl (putR tx) R).length ≤ 11000 := by
              have h1 := putsR_len tx (l.take i) R
              have h2 := List.length_take_le i l
              have := HNR.out
              omega
            obtain ⟨Ri, hRi⟩ : ∃ Ri, (l.take i).foldl (putR tx) R = Ri := ⟨_, rfl⟩
            have ht := HT.out
            rw [hRi] at ht hnext hml
            obtain ⟨u1, hk1, hv1, hf1⟩ := ht
            obtain ⟨m1, hm1⟩ : ∃ m1, Ri.length = m1 := ⟨_, rfl⟩
            have hown1 := hk1.own
            rw [hm1] at hown1 hml
            obtain ⟨a1, cp1, hsh1⟩ := own_shape hown1
            subst hsh1
            have hblh := hf1.block bl hltl (fun h => h.elim hb1 hb2)
            have hblu : (Value.slice a1 m1 cp1).ownBlock ≠ some bl := fun e => by
              rcases hv1 with h | h
              · exact hb2 (h ▸ e)
              · have := h bl e; omega
            have hltr : bl < wo.heap.size := Nat.lt_of_lt_of_le hltl hf1.size
            have hlc : ∀ wx, Fr (fun q => (Value.slice a1 m1 cp1).ownBlock = some q) wo wx → wx.cell? ⟨bl, ol + i * 2, none⟩ = some (.string xc) ∧ wx.cell? ⟨bl, ol + i * 2 + 1, none⟩ = some (.bool xw) := fun wx hf =>
              have hb := (hf.block bl hltr hblu).trans hblh
              ⟨hcl 0 (.string xc) rfl wx hb, hcl 1 (.bool xw) rfl wx hb⟩
            have hm9 : (m1 : Int) ≤ 11000 := by omega
            have HLC := hide hlc
            have HNEXT := hide hnext
            have HK1 := hide hk1
            have HV1 := hide hv1
            have HF1 := hide hf1
            have HM1 := hide hm1
            clear hx hcl hlc hnext hk1 hv1 hf1 hm1 hown1 hblh hblu hltr HT hRi hvb hb1 hb2 hltl
            go_wp2_with fail
            go_loopw [11, 12] (fun hd kk wx => ∃ k : Nat, kk = .int .i64 k ∧ k ≤ m1 ∧ hd = .bool ((Ri.take k).any (isR tx xc)) ∧ Hid (Rk wx rb (.slice a1 m1 cp1) ((Ri.take k).map (markR tx (xc, xw)) ++ Ri.drop k)) ∧ Hid (Fr (fun q => (Value.slice a1 m1 cp1).ownBlock = some q) wo wx)) (fun _ kk _ => m1 - (intOf kk).toNat)
            case atStart => exact ⟨0, rfl, Nat.zero_le _, by simp, hide (by simpa using HK1.out), Fr.refl _ _⟩
            case round =>
              obtain ⟨k, rfl, hk, rfl, HRK, HFK⟩ := hrel
              obtain ⟨hs, hhs⟩ : ∃ hs, (Ri.take k).any (isR tx xc) = hs := ⟨_, rfl⟩
              rw [hhs]
              have HHS0 := hide hhs
              clear hhs
              by_cases hklt : k < m1
              · have jk0 : (0 : Int) ≤ (k : Int) := by omega
                have jk1 : (k : Int) < (m1 : Int) := by omega
                obtain ⟨y, hy⟩ : ∃ y, Ri[k]? = some y := ⟨_, List.getElem?_eq_getElem (by have := HM1.out; omega)⟩
                have hyc := mark_get (tx := tx) (x := (xc, xw)) hy
                have hms := mark_same (tx := tx) (x := (xc, xw)) hy
                have has := any_step (p := isR tx xc) hy
                rw [HHS0.out] at has
                have hrk := HRK.out
                obtain ⟨g, c9, e9⟩ := own_pos hrk.own (by rw [List.length_append, List.length_map, List.length_take, List.length_drop]; have := HM1.out; omega)
                have hlen9 : ((Ri.take k).map (markR tx (xc, xw)) ++ Ri.drop k).length = m1 := by rw [List.length_append, List.length_map, List.length_take, List.length_drop]; have := HM1.out; omega
                rw [hlen9] at e9
                cases e9
                have hrd := Reads.of_own hrk.own
                rw [hlen9] at hrd
                obtain ⟨b0, o0, e9, hlt0, hcells⟩ := row_cells rcell_len hrd hyc (by decide)
                cases e9
                have hfz : ∀ w5, Fr (fun _ => False) wr w5 → w5.frozen? ⟨g, k * 3 + 2, none⟩ = false := fun w5 hf => by
                  rcases hrk.own.2 with ⟨e, -⟩ | ⟨g', cap', cs', e, -, hgb, -⟩
                  · cases e
                  · cases e
                    exact free_of_block ((hf.block g (lt_of_block hgb) (fun h => h)).trans hgb)
                obtain ⟨yt, yc, yb⟩ := y
                have e0 := hcells 0 (.string yt) rfl wr rfl
                have e1 := hcells 1 (.string yc) rfl wr rfl
                have d2 := hcells 2 (.bool yb) rfl wr rfl
                rw [Nat.zero_add] at e0 e1 d2
                rw [Nat.add_zero] at e0
                have c2 := hrk.c
                obtain ⟨f0, f1⟩ := HLC.out wr HFK.out
                have HYC := hide hyc
                have HMS := hide hms
                have HAS := hide has
                have HFZ := hide hfz
                obtain ⟨Q, hQ⟩ : ∃ Q, isR tx xc (yt, yc, yb) = Q := ⟨_, rfl⟩
                have HK := hide hQ
                clear hy hyc hms has hrk hrd hcells hfz hQ hlen9
                go_upto_region 19 with fail
                go_cut [105] from 79 to 104 (fun q wx => q = .bool Q ∧ Fr (fun _ => False) wr wx)
                case first =>
                  by_cases h1 : yt = tx
                  · have hs0 : (yt.toList == tx.toList) = true := by rw [h1]; simp
                    have H1 := hide h1
                    clear h1
                    by_cases h2 : yc = xc
                    · have hs2 : (yc.toList == xc.toList) = true := by rw [h2]; simp
                      have hq : Q = true := by rw [← HK.out]; unfold isR; simp [h2, H1.out]
                      have HQQ := hide hq
                      clear h2 hq
                      go_wp2_with fail
                      go_quiet (fail)
                      go_wp2_with fail
                      go_meet
                      case rel => exact ⟨by rw [HQQ.out], (Fr.refl _ _).drewN nq⟩
                    · have hs2 := bytes_beq h2
                      have hq : Q = false := by rw [← HK.out]; unfold isR; simp [h2]
                      have HQQ := hide hq
                      clear h2 hq
                      go_wp2_with fail
                      go_quiet (fail)
                      go_wp2_with fail
                      go_meet
                      case rel => exact ⟨by rw [HQQ.out], (Fr.refl _ _).drewN nq⟩
                  · have hs0 := bytes_beq h1
                    have hq : Q = false := by rw [← HK.out]; unfold isR; simp [h1]
                    have HQQ := hide hq
                    clear h1 hq
                    go_wp2_with fail
                    go_quiet (fail)
                    go_wp2_with fail
                    go_meet
                    case rel => exact ⟨by rw [HQQ.out], (Fr.refl _ _).drewN nq⟩
                case rest =>
                  obtain ⟨rfl, hf19⟩ := hcut
                  obtain ⟨wd, hwd⟩ : ∃ wd, wc = wd := ⟨_, rfl⟩
                  rw [hwd] at hf19
                  rw [hwd]
                  have HFK2 := hide (HFK.out.trans hf19 (fun _ _ h => h.elim))
                  have HRK2 := hide (HRK.out.fr0 hf19)
                  have c2 := cell_fr0 hf19 c2
                  have d2 := cell_fr0 hf19 d2
                  obtain ⟨f0, f1⟩ := HLC.out wd HFK2.out
                  have HFZ2 := hide (fun (w5 : World) (hf : Fr (fun _ => False) wd w5) => HFZ.out w5 (hf19.trans hf (fun _ _ h => h)))
                  clear hwd hf19 e0 e1
                  cases Q with
                  | false =>
                    go_wp2_with fail
                    go_roundw
                    case rel =>
                      refine ⟨k + 1, by go_num, by omega, by rw [HAS.out, HK.out, Bool.or_false], ?_, HFK2.out⟩
                      rw [HMS.out, markR, if_neg (by rw [HK.out]; decide), set_same HYC.out]
                      exact HRK2.out
                    case measure => simp [intOf]; omega
                  | true =>
                    cases yb with
                    | true =>
                      go_wp2_with fail
                      refine wp_region_last [Lft.is (.pointer (some ⟨rb, 0, none⟩)), Lft.is (.pointer (some ⟨rb, 0, none⟩)), Lft.is (.pointer (some ⟨rb, 0, none⟩)), Lft.is (.slice (some ⟨g, 0, none⟩) m1 cp1), Lft.is (.int .i64 k), Lft.is (.pointer (some ⟨rb, 0, none⟩)), Lft.is (.pointer (some ⟨rb, 0, none⟩)), Lft.is (.pointer (some ⟨rb, 0, none⟩)), Lft.is (.slice (some ⟨g, 0, none⟩) m1 cp1), Lft.is (.int .i64 k), Lft.is (.pointer (some ⟨g, k * 3, none⟩)), Lft.is (.pointer (some ⟨g, k * 3 + 1, none⟩)), Lft.is (.pointer (some ⟨g, k * 3 + 2, none⟩)), Lft.is (.bool true), Lft.is (.bool true), Lft.any, Lft.any, Lft.any, Lft.any, Lft.any, Lft.is (.bool true), Lft.is (.pointer (some ⟨g, k * 3, none⟩)), Lft.is (.pointer (some ⟨g, k * 3 + 1, none⟩)), Lft.is (.pointer (some ⟨g, k * 3 + 2, none⟩))] 24 _ _ (by kernel_rfl) rfl rfl (by kernel_rfl) (fun vs => by simp only [putAll, Act.put, List.setIfInBounds_toArray, List.set_cons_succ, List.set_cons_zero, Nat.zero_add, Nat.reduceAdd]; exact rfl) ⟨?_, ?_, ?_, ?_, ?_, ?_, ?_, ?_, ?_, ?_, ?_, ?_, ?_, ?_, ?_, ?_, ?_, ?_, ?_, ?_, ?_, ?_, ?_, ?_, trivial⟩ ?_
                      · exact StepN.quiet rfl _ rfl (fun vs w2 hf hp => by go_simp)
                      · exact StepN.quiet rfl _ rfl (fun vs w2 hf hp => by obtain ⟨g0, -⟩ := hp; have g0 : vs 0 = .pointer (some ⟨rb, 0, none⟩) := g0; go_simp)
                      · exact StepN.quiet rfl _ rfl (fun vs w2 hf hp => by obtain ⟨g1, -⟩ := hp; have g1 : vs 1 = .pointer (some ⟨rb, 0, none⟩) := g1; go_simp)
                      · exact StepN.quiet rfl _ rfl (fun vs w2 hf hp => by obtain ⟨g2, -⟩ := hp; have g2 : vs 2 = .pointer (some ⟨rb, 0, none⟩) := g2; have cc2 := cell_fr0 hf c2; go_simp)
                      · exact StepN.quiet rfl _ rfl (fun vs w2 hf hp => by go_simp)
                      · exact StepN.quiet rfl _ rfl (fun vs w2 hf hp => by go_simp)
                      · exact StepN.quiet rfl _ rfl (fun vs w2 hf hp => by obtain ⟨g5, -⟩ := hp; have g5 : vs 5 = .pointer (some ⟨rb, 0, none⟩) := g5; go_simp)
                      · exact StepN.quiet rfl _ rfl (fun vs w2 hf hp => by obtain ⟨g6, -⟩ := hp; have g6 : vs 6 = .pointer (some ⟨rb, 0, none⟩) := g6; go_simp)
                      · exact StepN.quiet rfl _ rfl (fun vs w2 hf hp => by obtain ⟨g7, -⟩ := hp; have g7 : vs 7 = .pointer (some ⟨rb, 0, none⟩) := g7; have cc2 := cell_fr0 hf c2; go_simp)
                      · exact StepN.quiet rfl _ rfl (fun vs w2 hf hp => by go_simp)
                      · exact StepN.quiet rfl _ rfl (fun vs w2 hf hp => by obtain ⟨g8, g9, -⟩ := hp; have g8 : vs 8 = .slice (some ⟨g, 0, none⟩) m1 cp1 := g8; have g9 : vs 9 = .int .i64 k := g9; go_simp)
                      · exact StepN.quiet rfl _ rfl (fun vs w2 hf hp => by obtain ⟨g10, -⟩ := hp; have g10 : vs 10 = .pointer (some ⟨g, k * 3, none⟩) := g10; go_simp)
                      · exact StepN.quiet rfl _ rfl (fun vs w2 hf hp => by obtain ⟨g11, -⟩ := hp; have g11 : vs 11 = .pointer (some ⟨g, k * 3 + 1, none⟩) := g11; go_simp)
                      · exact StepN.quiet rfl _ rfl (fun vs w2 hf hp => by obtain ⟨g12, -⟩ := hp; have g12 : vs 12 = .pointer (some ⟨g, k * 3 + 2, none⟩) := g12; have cd2 := cell_fr0 hf d2; go_simp)
                      · exact StepN.quiet rfl _ rfl (fun vs w2 hf hp => by obtain ⟨g13, -⟩ := hp; have g13 : vs 13 = .bool true := g13; go_simp)
                      · exact StepN.off (fun vs w2 hf hp => ⟨by obtain ⟨g14, -⟩ := hp; have g14 : vs 14 = .bool true := g14; simp [Region.wanted, yielded, g14], trivial⟩)
                      · exact StepN.off (fun vs w2 hf hp => ⟨by obtain ⟨g14, -⟩ := hp; have g14 : vs 14 = .bool true := g14; simp [Region.wanted, yielded, g14], trivial⟩)
                      · exact StepN.off (fun vs w2 hf hp => ⟨by obtain ⟨-, -, g14, -⟩ := hp; have g14 : vs 14 = .bool true := g14; simp [Region.wanted, yielded, g14], trivial⟩)
                      · exact StepN.off (fun vs w2 hf hp => ⟨by obtain ⟨-, g14, -⟩ := hp; have g14 : vs 14 = .bool true := g14; simp [Region.wanted, yielded, g14], trivial⟩)
                      · exact StepN.off (fun vs w2 hf hp => ⟨by obtain ⟨-, g14, -⟩ := hp; have g14 : vs 14 = .bool true := g14; simp [Region.wanted, yielded, g14], trivial⟩)
                      · exact StepN.quiet rfl _ rfl (fun vs w2 hf hp => by obtain ⟨g14, -⟩ := hp; have g14 : vs 14 = .bool true := g14; go_simp)
                      · exact StepN.quiet rfl _ rfl (fun vs w2 hf hp => by obtain ⟨g3, g4, -⟩ := hp; have g3 : vs 3 = .slice (some ⟨g, 0, none⟩) m1 cp1 := g3; have g4 : vs 4 = .int .i64 k := g4; go_simp)
                      · exact StepN.quiet rfl _ rfl (fun vs w2 hf hp => by obtain ⟨g21, -⟩ := hp; have g21 : vs 21 = .pointer (some ⟨g, k * 3, none⟩) := g21; go_simp)
                      · exact StepN.quiet rfl _ rfl (fun vs w2 hf hp => by obtain ⟨g22, -⟩ := hp; have g22 : vs 22 = .pointer (some ⟨g, k * 3 + 1, none⟩) := g22; go_simp)
                      · intro vs w5 hf he _
                        have h23 : vs 23 = .pointer (some ⟨g, k * 3 + 2, none⟩) := (he.get 23 (by decide)).1
                        have h20 : vs 20 = .bool true := (he.get 20 (by decide)).1
                        have cd2 := cell_fr0 hf d2
                        have cfz : w5.frozen? ⟨g, k * 3 + 2, none⟩ = false := HFZ2.out w5 hf
                        have HFx := hide hf
                        clear he hf
                        refine run_last (w' := w5.setCell ⟨g, k * 3 + 2, none⟩ (.bool true)) (by go_simp) ?_
                        clear h23 h20 cd2 cfz
                        go_wp2_with fail
                        go_roundw
                        case rel =>
                          refine ⟨k + 1, by go_num, by omega, by rw [HAS.out, HK.out, Bool.or_true], ?_, ?_⟩
                          · rw [HMS.out, markR, if_pos HK.out]
                            exact rk_mark (HRK2.out.fr0 HFx.out) HYC.out true
                          · exact (HFK2.out.trans HFx.out (fun _ _ h => h.elim)).trans (Fr.setCell (S := fun q => (Value.slice (some ⟨g, 0, none⟩) m1 cp1).ownBlock = some q) _ _ _ rfl) (fun _ _ h => h)
                        case measure => simp [intOf]; omega
                    | false =>
                      go_wp2_with fail
                      refine wp_region_last [Lft.is (.pointer (some ⟨rb, 0, none⟩)), Lft.is (.pointer (some ⟨rb, 0, none⟩)), Lft.is (.pointer (some ⟨rb, 0, none⟩)), Lft.is (.slice (some ⟨g, 0, none⟩) m1 cp1), Lft.is (.int .i64 k), Lft.is (.pointer (some ⟨rb, 0, none⟩)), Lft.is (.pointer (some ⟨rb, 0, none⟩)), Lft.is (.pointer (some ⟨rb, 0, none⟩)), Lft.is (.slice (some ⟨g, 0, none⟩) m1 cp1), Lft.is (.int .i64 k), Lft.is (.pointer (some ⟨g, k * 3, none⟩)), Lft.is (.pointer (some ⟨g, k * 3 + 1, none⟩)), Lft.is (.pointer (some ⟨g, k * 3 + 2, none⟩)), Lft.is (.bool false), Lft.is (.bool false), Lft.is (.slice (some ⟨bl, ol, none⟩) n lc), Lft.is (.int .i64 i), Lft.is (.pointer (some ⟨bl, ol + i * 2, none⟩)), Lft.is (.pointer (some ⟨bl, ol + i * 2 + 1, none⟩)), Lft.is (.bool xw), Lft.is (.bool xw), Lft.is (.pointer (some ⟨g, k * 3, none⟩)), Lft.is (.pointer (some ⟨g, k * 3 + 1, none⟩)), Lft.is (.pointer (some ⟨g, k * 3 + 2, none⟩))] 24 _ _ (by kernel_rfl) rfl rfl (by kernel_rfl) (fun vs => by simp only [putAll, Act.put, List.setIfInBounds_toArray, List.set_cons_succ, List.set_cons_zero, Nat.zero_add, Nat.reduceAdd]; exact rfl) ⟨?_, ?_, ?_, ?_, ?_, ?_, ?_, ?_, ?_, ?_, ?_, ?_, ?_, ?_, ?_, ?_, ?_, ?_, ?_, ?_, ?_, ?_, ?_, ?_, trivial⟩ ?_
                      · exact StepN.quiet rfl _ rfl (fun vs w2 hf hp => by go_simp)
                      · exact StepN.quiet rfl _ rfl (fun vs w2 hf hp => by obtain ⟨g0, -⟩ := hp; have g0 : vs 0 = .pointer (some ⟨rb, 0, none⟩) := g0; go_simp)
                      · exact StepN.quiet rfl _ rfl (fun vs w2 hf hp => by obtain ⟨g1, -⟩ := hp; have g1 : vs 1 = .pointer (some ⟨rb, 0, none⟩) := g1; go_simp)
                      · exact StepN.quiet rfl _ rfl (fun vs w2 hf hp => by obtain ⟨g2, -⟩ := hp; have g2 : vs 2 = .pointer (some ⟨rb, 0, none⟩) := g2; have cc2 := cell_fr0 hf c2; go_simp)
                      · exact StepN.quiet rfl _ rfl (fun vs w2 hf hp => by go_simp)
                      · exact StepN.quiet rfl _ rfl (fun vs w2 hf hp => by go_simp)
                      · exact StepN.quiet rfl _ rfl (fun vs w2 hf hp => by obtain ⟨g5, -⟩ := hp; have g5 : vs 5 = .pointer (some ⟨rb, 0, none⟩) := g5; go_simp)
                      · exact StepN.quiet rfl _ rfl (fun vs w2 hf hp => by obtain ⟨g6, -⟩ := hp; have g6 : vs 6 = .pointer (some ⟨rb, 0, none⟩) := g6; go_simp)
                      · exact StepN.quiet rfl _ rfl (fun vs w2 hf hp => by obtain ⟨g7, -⟩ := hp; have g7 : vs 7 = .pointer (some ⟨rb, 0, none⟩) := g7; have cc2 := cell_fr0 hf c2; go_simp)
                      · exact StepN.quiet rfl _ rfl (fun vs w2 hf hp => by go_simp)
                      · exact StepN.quiet rfl _ rfl (fun vs w2 hf hp => by obtain ⟨g8, g9, -⟩ := hp; have g8 : vs 8 = .slice (some ⟨g, 0, none⟩) m1 cp1 := g8; have g9 : vs 9 = .int .i64 k := g9; go_simp)
                      · exact StepN.quiet rfl _ rfl (fun vs w2 hf hp => by obtain ⟨g10, -⟩ := hp; have g10 : vs 10 = .pointer (some ⟨g, k * 3, none⟩) := g10; go_simp)
                      · exact StepN.quiet rfl _ rfl (fun vs w2 hf hp => by obtain ⟨g11, -⟩ := hp; have g11 : vs 11 = .pointer (some ⟨g, k * 3 + 1, none⟩) := g11; go_simp)
                      · exact StepN.quiet rfl _ rfl (fun vs w2 hf hp => by obtain ⟨g12, -⟩ := hp; have g12 : vs 12 = .pointer (some ⟨g, k * 3 + 2, none⟩) := g12; have cd2 := cell_fr0 hf d2; go_simp)
                      · exact StepN.quiet rfl _ rfl (fun vs w2 hf hp => by obtain ⟨g13, -⟩ := hp; have g13 : vs 13 = .bool false := g13; go_simp)
                      · exact StepN.on (fun vs w2 hf hp => by obtain ⟨g14, -⟩ := hp; have g14 : vs 14 = .bool false := g14; exact ⟨by simp [Region.wanted, yielded, g14], .slice (some ⟨bl, ol, none⟩) n lc, w2, by clear g14; go_simp, rfl, Fr.refl _ _, by intro h; cases h⟩)
                      · exact StepN.on (fun vs w2 hf hp => by obtain ⟨g14, -⟩ := hp; have g14 : vs 14 = .bool false := g14; exact ⟨by simp [Region.wanted, yielded, g14], .int .i64 i, w2, by clear g14; go_simp, rfl, Fr.refl _ _, by intro h; cases h⟩)
                      · exact StepN.on (fun vs w2 hf hp => by obtain ⟨g15, g16, g14, -⟩ := hp; have g15 : vs 15 = .slice (some ⟨bl, ol, none⟩) n lc := g15; have g16 : vs 16 = .int .i64 i := g16; have g14 : vs 14 = .bool false := g14; exact ⟨by simp [Region.wanted, yielded, g14], .pointer (some ⟨bl, ol + i * 2, none⟩), w2, by clear g14; go_simp, rfl, Fr.refl _ _, by intro h; cases h⟩)
                      · exact StepN.on (fun vs w2 hf hp => by obtain ⟨g17, g14, -⟩ := hp; have g17 : vs 17 = .pointer (some ⟨bl, ol + i * 2, none⟩) := g17; have g14 : vs 14 = .bool false := g14; exact ⟨by simp [Region.wanted, yielded, g14], .pointer (some ⟨bl, ol + i * 2 + 1, none⟩), w2, by clear g14; go_simp, rfl, Fr.refl _ _, by intro h; cases h⟩)
                      · exact StepN.on (fun vs w2 hf hp => by obtain ⟨g18, g14, -⟩ := hp; have g18 : vs 18 = .pointer (some ⟨bl, ol + i * 2 + 1, none⟩) := g18; have g14 : vs 14 = .bool false := g14; have cf1 := cell_fr0 hf f1; exact ⟨by simp [Region.wanted, yielded, g14], .bool xw, w2, by clear g14; go_simp, rfl, Fr.refl _ _, by intro h; cases h⟩)
                      · exact StepN.quiet rfl _ rfl (fun vs w2 hf hp => by obtain ⟨g14, g19, -⟩ := hp; have g14 : vs 14 = .bool false := g14; have g19 : vs 19 = .bool xw := g19; go_simp)
                      · exact StepN.quiet rfl _ rfl (fun vs w2 hf hp => by obtain ⟨g3, g4, -⟩ := hp; have g3 : vs 3 = .slice (some ⟨g, 0, none⟩) m1 cp1 := g3; have g4 : vs 4 = .int .i64 k := g4; go_simp)
                      · exact StepN.quiet rfl _ rfl (fun vs w2 hf hp => by obtain ⟨g21, -⟩ := hp; have g21 : vs 21 = .pointer (some ⟨g, k * 3, none⟩) := g21; go_simp)
                      · exact StepN.quiet rfl _ rfl (fun vs w2 hf hp => by obtain ⟨g22, -⟩ := hp; have g22 : vs 22 = .pointer (some ⟨g, k * 3 + 1, none⟩) := g22; go_simp)
                      · intro vs w5 hf he _
                        have h23 : vs 23 = .pointer (some ⟨g, k * 3 + 2, none⟩) := (he.get 23 (by decide)).1
                        have h20 : vs 20 = .bool xw := (he.get 20 (by decide)).1
                        have cd2 := cell_fr0 hf d2
                        have cfz : w5.frozen? ⟨g, k * 3 + 2, none⟩ = false := HFZ2.out w5 hf
                        have HFx := hide hf
                        clear he hf
                        refine run_last (w' := w5.setCell ⟨g, k * 3 + 2, none⟩ (.bool xw)) (by go_simp) ?_
                        clear h23 h20 cd2 cfz
                        go_wp2_with fail
                        go_roundw
                        case rel =>
                          refine ⟨k + 1, by go_num, by omega, by rw [HAS.out, HK.out, Bool.or_true], ?_, ?_⟩
                          · rw [HMS.out, markR, if_pos HK.out]
                            exact rk_mark (HRK2.out.fr0 HFx.out) HYC.out xw
                          · exact (HFK2.out.trans HFx.out (fun _ _ h => h.elim)).trans (Fr.setCell (S := fun q => (Value.slice (some ⟨g, 0, none⟩) m1 cp1).ownBlock = some q) _ _ _ rfl) (fun _ _ h => h)
                        case measure => simp [intOf]; omega
              · have jk1 : ¬ (k : Int) < (m1 : Int) := by omega
                have hkm : k = m1 := by omega
                have htk : Ri.take k = Ri := List.take_of_length_le (by rw [HM1.out, hkm]; exact Nat.le_refl _)
                have hdk : Ri.drop k = [] := List.drop_of_length_le (by rw [HM1.out, hkm]; exact Nat.le_refl _)
                have hrk := HRK.out
                rw [htk, hdk, List.append_nil] at hrk
                have hany := HHS0.out
                rw [htk] at hany
                have hrt : ∀ wx u2 R2, Rk wx rb u2 R2 → (u2.ownBlock = (Value.slice a1 m1 cp1).ownBlock ∨ ∀ q, u2.ownBlock = some q → wo.heap.size ≤ q) → Fr (fun q => q = rb ∨ (Value.slice a1 m1 cp1).ownBlock = some q) wo wx → RTd w wx rb (.slice aR nR cp) R2 := fun wx u2 R2 h1 h2 h3 => by
                  refine ⟨u2, h1, ?_, HF1.out.trans h3 (fun q hq h => ?_)⟩
                  · rcases h2 with e | e
                    · rcases HV1.out with e2 | e2
                      · left; rw [e]; exact e2
                      · right; intro q hq; rw [e] at hq; exact e2 q hq
                    · right; intro q hq; have := e q hq; have := HF1.out.size; omega
                  · rcases h with h | h
                    · exact .inl h
                    · rcases HV1.out with e2 | e2
                      · right; rw [← e2]; exact h
                      · have := e2 q h; omega
                have HRT := hide hrt
                have c2 := hrk.c
                have HRK2 := hide hrk
                have HANY := hide hany
                clear htk hdk hrk hany hrt HRK HHS0 hkm
                cases hs with
                | true =>
                  go_wp2_with fail
                  go_roundw
                  case rel =>
                    refine ⟨i + 1, by go_num, by omega, ?_⟩
                    rw [HNEXT.out, putR, if_pos HANY.out]
                    exact HRT.out _ _ _ HRK2.out (.inl rfl) (HFK.out.mono (fun _ _ h => .inr h))
                  case measure => simp [intOf]; omega
                | false =>
                  have hid : Ri.map (markR tx (xc, xw)) = Ri := by
                    conv => rhs; rw [← List.map_id Ri]
                    refine List.map_congr_left (fun y hy => ?_)
                    have := HANY.out
                    rw [List.any_eq_false] at this
                    unfold markR
                    rw [if_neg (this y hy)]; rfl
                  have hrk := HRK2.out
                  rw [hid] at hrk
                  have hown2 := hrk.own
                  rw [HM1.out] at hown2
                  have hblk := hrk.blk
                  have c2 := hrk.c
                  obtain ⟨f0, f1⟩ := HLC.out wr HFK.out
                  have hal : Fr (fun _ => False) wr (wr.alloc (.cells #[.string tx, .string xc, .bool xw] 63)).drew := (Fr.alloc (fun _ => False) wr _).drew
                  have HO3 := hide (ownsRow_fr hown2 hal (fun _ _ => id))
                  have hrd3 : Reads (wr.alloc (.cells #[.string tx, .string xc, .bool xw] 63)).drew (.slice (some ⟨wr.heap.size, 0, none⟩) 1 1) 1 3 (rcell (tx, xc, xw)) :=
                    ⟨rfl, _, _, rfl, (by intro h; cases h), Nat.le_refl _, fun i u hu => ⟨_, _, rfl, by
                      have h5 : (wr.alloc (.cells #[.string tx, .string xc, .bool xw] 63)).drew.heap[wr.heap.size]? = some (.cells #[.string tx, .string xc, .bool xw] 63 (0, 0)) := block_alloc wr _
                      rw [cell_of_block h5]; simpa [rcell] using hu⟩⟩
                  have HR3 := hide hrd3
                  have HONE := hide (fun u (hu : u ∈ rcell (tx, xc, xw)) => rcell_one [(tx, xc, xw)] u (by simpa using hu))
                  have hrl : rb < wr.heap.size := lt_of_block hblk
                  have hsz3 : rb + 1 ≤ (wr.alloc (.cells #[.string tx, .string xc, .bool xw] 63)).drew.heap.size := by have := hal.size; omega
                  have HSZ3 := hide hsz3
                  have HAL := hide hal
                  have hblk3 : ∀ W1 : World, (wr.alloc (.cells #[.string tx, .string xc, .bool xw] 63)).drew.grownBy W1 (Value.slice a1 m1 cp1).ownBlock → W1.heap[rb]? = some (.cells #[.slice a1 m1 cp1] 46 (0, 0)) := fun W1 hg =>
                    (hg.block rb (by have := hal.size; omega) (fun e => by have := (hown2.lt rb e.symm).1; omega)).trans ((hal.block rb hrl (fun h => h)).trans hblk)
                  have HBLK3 := hide hblk3
                  clear hid hrk hown2 hal hrd3 hsz3 hblk3 hblk HRK2
                  go_wp2_with fail
                  go_region_law
                    ((first
                      | (refine step_append_reads (by rfl) _ _ 44 (by rfl) (rb + 1) 63 i0 _ 3 40 Try.underlying44 hi0 hz0 hz1 hz2 l_size (by decide) (.slice a1 m1 cp1) m1 (Ri.flatMap rcell) (by rfl) HO3.out (.slice (some ⟨wr.heap.size, 0, none⟩) 1 1) 1 (rcell (tx, xc, xw)) (by rfl) HR3.out HONE.out (by unfold maxLen; omega) (by omega) HSZ3.out (m1 + 1) rfl ?_; intro a2 c2' W1 hown1 hgrow1 hat1; have hb1 := HBLK3.out W1 hgrow1; have k1' := cell_of_block (j := 0) hb1; have k2' := free_of_block (j := 0) hb1; have HB1 := hide hb1; have HO4 := hide hown1; have HG4 := hide hgrow1; have HAT4 := hide hat1; clear hown1 hgrow1 hat1 hb1)))
                  all_goals
                    go_wp2_with fail
                    go_roundw
                    case rel =>
                      refine ⟨i + 1, by go_num, by omega, ?_⟩
                      rw [HNEXT.out, putR, if_neg (by rw [HANY.out]; decide)]
                      refine HRT.out _ (.slice a2 (m1 + 1) c2') _ ⟨block_setCell HB1.out _, ?_⟩ ?_ ?_
                      · rw [List.length_append, HM1.out, List.flatMap_append]
                        have h5 : W1.ownsRow (rb + 1) 63 3 (.slice a2 (m1 + 1) c2') (m1 + 1) (Ri.flatMap rcell ++ [(tx, xc, xw)].flatMap rcell) := by simpa using HO4.out
                        exact ownsRow_setCell_below h5 (by simp) _
                      · rcases HAT4.out with e | e
                        · left; exact e
                        · right; intro q hq; rw [e] at hq; cases hq; have := HAL.out.size; have := HFK.out.size; omega
                      · refine (HFK.out.mono (S' := fun q => q = rb ∨ (Value.slice a1 m1 cp1).ownBlock = some q) (fun _ _ h => .inr h)).trans (((HAL.out.mono (S' := fun q => q = rb ∨ (Value.slice a1 m1 cp1).ownBlock = some q) (fun _ _ h => h.elim)).trans (Fr.grown (S := fun q => q = rb ∨ (Value.slice a1 m1 cp1).ownBlock = some q) HG4.out (fun q hq => .inr hq)) (fun _ _ h => h)).trans (Fr.setCell (S := fun q => q = rb ∨ (Value.slice a1 m1 cp1).ownBlock = some q) W1 ⟨rb, 0, none⟩ _ (.inl rfl)) (fun _ _ h => h)) (fun _ _ h => h)
                    case measure => simp [intOf]; omega
          · have ik0 : (0 : Int) ≤ (i : Int) := by omega
            have ik1 : ¬ (i : Int) < (n : Int) := by omega
            have htk : l.take i = l := List.take_of_length_le (by rw [HN.out]; omega)
            have ht := HT.out
            rw [htk] at ht
            have HT2 := hide ht
            clear htk ht HT
            go_wp2_with fail
            go_ret
            exact ⟨by rw [HRES.out]; rfl, by rw [HTS.out]; exact HT2.out⟩
end Go.Proofs.Ytkboipnfpcngcaa
