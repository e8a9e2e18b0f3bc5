/- LocksHeld's walk. -/
import Derived.Test.YtkboipnfpcngcaaLkAsk
namespace Go.Proofs.Ytkboipnfpcngcaa.LocksHeld
open Go.RowKit Go.Maps Go.Cv
set_option linter.unusedVariables false

/-- What the first loop has. -/
structure St (w0 w : World) (X : Nat → Prop) (tb k : Nat) (T : LkT) (v : Value) (ns : List ByteArray) : Prop where
  lk : Lkd w X w0.heap.size tb T
  own : Ns w X w0.heap.size v ns
  fit : Fits T (6 * k)
  len : ns.length ≤ 6 * k
  nm : ∀ s ∈ T.names, toB s ∈ ns
  sz : ∀ c ∈ ns, c.size ≤ maxLen
  fr : Fr (fun j => w0.heap.size ≤ j) w0 w

theorem St.take {w0 w wr : World} {X X2 : Nat → Prop} {tb k : Nat} {T : LkT} {v v2 : Value} {ns : List ByteArray} {tx : ByteArray} {L : List WantT} (h : St w0 w X tb k T v ns) (hl : L.length ≤ 6) (hs : ∀ z ∈ L, z.1.size ≤ maxLen)
    (JL : Lkd wr X2 w0.heap.size tb (takeS T tx.data.toList L)) (JN : Ns wr X2 w0.heap.size v2 (ns ++ L.map (·.1))) (JF : Fr (fun j => w0.heap.size ≤ j) w0 wr) : St w0 wr X2 tb (k + 1) (takeS T tx.data.toList L) v2 (ns ++ L.map (·.1)) := by
  refine ⟨JL, JN, (fits_takeS h.fit _ L).mono (by omega), ?_, fun s hs1 => ?_, fun c hc => ?_, JF⟩
  · rw [List.length_append, List.length_map]; have := h.len; omega
  · rcases names_takeS hs1 with h1 | ⟨x, hx, rfl⟩
    · exact List.mem_append.2 (.inl (h.nm s h1))
    · refine List.mem_append.2 (.inr ?_)
      rw [toB_data]
      exact List.mem_map.2 ⟨x, hx, rfl⟩
  · rcases List.mem_append.1 hc with h1 | h1
    · exact h.sz c h1
    · obtain ⟨x, hx, rfl⟩ := List.mem_map.1 h1
      exact hs x hx

set_option maxRecDepth 100000 in
set_option maxHeartbeats 12800000 in
theorem walk (w : World) (v1 : Value) (l1 : List AskT) (h1 : Reads w v1 l1.length 3 (l1.flatMap acells)) (hg1 : ∀ a ∈ l1, agood w a) (hl1 : l1.length ≤ maxLen) :
    Calls Try.prog 4 #[v1] w fun e w' => e = .returned (.bool true) ∧ Below w.heap.size w w' := by
  obtain ⟨i0, hi0, hz0, hz1, hz2⟩ := info_parts infoStr
  obtain ⟨n1, hn1⟩ : ∃ n, l1.length = n := ⟨_, rfl⟩
  rw [hn1] at h1 hl1
  obtain ⟨-, s1, k1, rfl, -, -, -⟩ := id h1
  have hn9 : (n1 : Int) ≤ 9223372036854775807 := by unfold maxLen at hl1; omega
  have HR := hide h1
  have HN := hide hn1
  have HG := hide hg1
  clear h1 hn1 hg1 hl1
  go_enter Try.func4, Try.ntmps4
  go_wp2_with fail
  refine (newD w).mono ?_
  rintro e w1 ⟨tb, rfl, h, hf⟩
  have H1 := hide h
  have F1 := hide (hf.mono (S' := fun k => w.heap.size ≤ k) (fun _ _ h => h.elim))
  clear h hf
  go_upto_block 0 with fail
  go_cut [4, 5] from 6 to 68 (fun nm i wx => ∃ (k : Nat) (X : Nat → Prop) (T : LkT) (ns : List ByteArray), k ≤ 30 ∧ Hid (St w wx X tb k T nm ns))
  case first =>
    go_wp2_with fail
    go_loopw [4, 5] (fun nm i wr => ∃ (k : Nat) (X : Nat → Prop) (T : LkT) (ns : List ByteArray), i = .int .i64 k ∧ k ≤ n1 ∧ k ≤ 30 ∧ Hid (St w wr X tb k T nm ns)) (fun _ i _ => n1 - (intOf i).toNat)
    case atStart => exact ⟨0, _, emptyT, [], rfl, Nat.zero_le _, by omega, ⟨H1.out, Ns.nil _ _ _, fits0, Nat.le_refl _, (fun s hs => by cases hs), (fun s hs => by cases hs), F1.out⟩⟩
    case round =>
      obtain ⟨k, X, T, ns, rfl, hk1, hk2, HS⟩ := hrel
      by_cases hgo : k < n1 ∧ k < 30
      · obtain ⟨hg1, hg2⟩ := hgo
        have ik1 : (k : Int) < (n1 : Int) := by omega
        have ik2 : (k : Int) < 30 := by omega
        have ik0 : (0 : Int) ≤ (k : Int) := by omega
        obtain ⟨x, hx⟩ : ∃ x, l1[k]? = some x := ⟨_, List.getElem?_eq_getElem (by have := HN.out; omega)⟩
        obtain ⟨w1', w2', w3', w4', w5'⟩ := HG.out x (List.mem_of_getElem? hx)
        obtain ⟨b0, o0, rfl, hlt0, hcells⟩ := row_cells acells_len HR.out hx (by decide)
        obtain ⟨kd, tx, la, lc, L⟩ := x
        simp only at w1' w2' w3' w4' w5'
        have hbl := HS.out.fr.block b0 hlt0 (by omega)
        have e0 := hcells 0 (.int .i64 kd) rfl wr hbl
        rw [Nat.add_zero] at e0
        have e1 := hcells 1 (.string tx) rfl wr hbl
        have e2 := hcells 2 (.slice la L.length lc) rfl wr hbl
        obtain ⟨xb, hxb⟩ : ∃ xb, wr.heap.size = xb := ⟨_, rfl⟩
        obtain ⟨ll, hll⟩ : ∃ ll, L.length = ll := ⟨_, rfl⟩
        rw [hll] at w3' w5' e2
        have hcap : ll ≤ lc := by obtain ⟨-, a0, c0, e, -, h4, -⟩ := id w3'; cases e; exact h4
        have HRL := hide w3'
        have HSZ := hide w4'
        have HXB := hide hxb
        have HLL := hide hll
        have hl9 : (ll : Int) ≤ 9223372036854775807 := by unfold maxLen at w5'; omega
        clear hx hcells hbl hxb w3' w4' w5' w1' hll
        by_cases h6 : 6 < ll
        case' pos =>
          have i6 : (6 : Int) < (ll : Int) := by omega
          go_upto_region 11 with fail
          obtain ⟨wd, hwd⟩ : ∃ wd, wr.alloc (.cells #[.int .i64 kd, .string tx, .slice la 6 lc] 36) = wd := ⟨_, rfl⟩
          have hcut := Cut.mk' w wr kd tx la lc ll 6 L HRL.out HLL.out (by omega) HSZ.out
          rw [hwd, HXB.out] at hcut
          rw [hwd, HXB.out]
          obtain ⟨m, L2, HCUT, hm6⟩ : ∃ m L2, Hid (Cut w wr wd xb kd tx la lc m L2) ∧ m ≤ 6 := ⟨_, _, hcut, by omega⟩
          clear hcut hwd
        case' neg =>
          have i6 : ¬ (6 : Int) < (ll : Int) := by omega
          go_upto_region 11 with fail
          obtain ⟨wd, hwd⟩ : ∃ wd, wr.alloc (.cells #[.int .i64 kd, .string tx, .slice la ll lc] 36) = wd := ⟨_, rfl⟩
          have hcut := Cut.mk' w wr kd tx la lc ll ll L HRL.out HLL.out (Nat.le_refl _) HSZ.out
          rw [hwd, HXB.out] at hcut
          rw [hwd, HXB.out]
          obtain ⟨m, L2, HCUT, hm6⟩ : ∃ m L2, Hid (Cut w wr wd xb kd tx la lc m L2) ∧ m ≤ 6 := ⟨_, _, hcut, by omega⟩
          clear hcut hwd
        all_goals
          clear e0 e1 e2 i6 h6 hl9 HRL HSZ HLL hcap
          have hbd := HCUT.out.blk
          have z0 : wd.cell? ⟨xb, 0, none⟩ = some (.int .i64 kd) := by rw [cell_of_block hbd]; rfl
          have z1 : wd.cell? ⟨xb, 1, none⟩ = some (.string tx) := by rw [cell_of_block hbd]; rfl
          have z2 : wd.cell? ⟨xb, 2, none⟩ = some (.slice la m lc) := by rw [cell_of_block hbd]; rfl
          have HLD := hide (HS.out.lk.also HCUT.out.fr)
          have HNS := hide ((HS.out.own.fr0 HCUT.out.fr).mono (X' := fun j => X j ∨ (wr.heap.size ≤ j ∧ j < wd.heap.size)) (fun _ h => .inl h))
          have hxX : X xb ∨ (wr.heap.size ≤ xb ∧ xb < wd.heap.size) := .inr ⟨by rw [HXB.out]; exact Nat.le_refl _, lt_of_block hbd⟩
          obtain ⟨X1, hX1⟩ : ∃ X1, (fun j => X j ∨ (wr.heap.size ≤ j ∧ j < wd.heap.size)) = X1 := ⟨_, rfl⟩
          have hxX1 : X1 xb := by rw [← hX1]; exact hxX
          rw [hX1] at HLD HNS
          have HFD := hide (HS.out.fr.trans HCUT.out.fr (fun _ _ h => h.elim))
          have HX := hide hxX1
          clear hbd hxX hX1 hxX1
          cases hkd : kd == 1 with
          | true =>
            have t1 := takeD2 wd X1 _ tb T HLD.out _ HS.out.fit (by omega) (Nat.le_trans (Nat.le_refl _) HFD.out.size) tx w2' (.slice la m lc) L2 (by rw [HCUT.out.len]; exact reads_old HCUT.out.rd HFD.out (fun j hj h => by omega)) (fun h0 b hb => .inr (reads_gone HCUT.out.rd (by decide) (by rw [← HCUT.out.len]; exact h0) b hb)) (by rw [HCUT.out.len]; omega) HCUT.out.sz
            have T1 := hide t1
            clear t1
            go_wp2_with fail
            refine T1.out.mono ?_
            rintro e w2 ⟨rfl, hl, hf⟩
            have H2 := hide hl
            have N2 := hide (HNS.out.own hf)
            have F2 := hide (HFD.out.trans (hf.mono (S' := fun k => w.heap.size ≤ k) (fun _ _ h => h.1)) (fun _ _ h => h))
            have hbd2 := (hf.block xb (lt_of_block HCUT.out.blk) (fun h => h.2 HX.out)).trans HCUT.out.blk
            have HB2 := hide hbd2
            obtain ⟨T2, hT2⟩ : ∃ T2, takeS T tx.data.toList L2 = T2 := ⟨_, rfl⟩
            rw [hT2] at H2
            have HT2 := hide hT2
            have hcap2 : m ≤ lc := by obtain ⟨-, a0, c0, e, -, h4, -⟩ := id HCUT.out.rd; cases e; exact h4
            have HL2 := hide HCUT.out.len
            have HRD := hide HCUT.out.rd
            have HSZ2 := hide HCUT.out.sz
            clear hl hf hbd2 T1 hT2 HCUT z0 z1 z2 HLD HNS HFD
            go_wp2_with fail
            go_loopw [4, 7] (fun nm jj wr => ∃ (j : Nat) (X2 : Nat → Prop) (ns2 : List ByteArray), jj = .int .i64 j ∧ j ≤ m ∧ Hid (Lkd wr X2 w.heap.size tb T2) ∧ Hid (Ns wr X2 w.heap.size nm ns2) ∧ Hid (ns2 = ns ++ (L2.take j).map (·.1)) ∧ Hid (X2 xb) ∧ Hid (wr.heap[xb]? = some (.cells #[.int .i64 kd, .string tx, .slice la m lc] 36 (0, 0))) ∧ Hid (nm.ownBlock ≠ some xb) ∧ Hid (Fr (fun k => w.heap.size ≤ k) w wr)) (fun _ jj _ => m - (intOf jj).toNat)
            case atStart => exact ⟨0, X1, ns, rfl, Nat.zero_le _, H2.out, N2.out, hide (by simp), HX.out, HB2.out, (fun e => by have := (HS.out.own.1.lt xb e).2; have := HXB.out; omega), F2.out⟩
            case round =>
              obtain ⟨j, X2, ns2, rfl, hj, JL, JN, JE, JX, JB, JO, JF⟩ := hrel
              have z1 : wr.cell? ⟨xb, 1, none⟩ = some (.string tx) := by rw [cell_of_block JB.out]; rfl
              have z2 : wr.cell? ⟨xb, 2, none⟩ = some (.slice la m lc) := by rw [cell_of_block JB.out]; rfl
              by_cases hjlt : j < m
              · have jk0 : (0 : Int) ≤ (j : Int) := by omega
                have jk1 : (j : Int) < (m : Int) := by omega
                obtain ⟨x, hx⟩ : ∃ x, L2[j]? = some x := ⟨_, List.getElem?_eq_getElem (by rw [HL2.out]; exact hjlt)⟩
                obtain ⟨b2, o2, rfl, hlt2, hcells⟩ := row_cells wcell_len HRD.out hx (by decide)
                obtain ⟨c, cb⟩ := x
                have e0 := hcells 0 (.string c) rfl wr (JF.out.block b2 hlt2 (by omega))
                rw [Nat.add_zero] at e0
                have hcz := HSZ2.out _ (List.mem_of_getElem? hx)
                have hn2 : ns2.length ≤ 200 := by
                  rw [JE.out, List.length_append, List.length_map]
                  have := List.length_take_le j L2
                  have := HS.out.len
                  have := HL2.out
                  omega
                have htk : ns ++ (L2.take (j + 1)).map (·.1) = ns2 ++ [c] := by rw [List.take_add_one, hx, JE.out]; simp
                have HTK := hide htk
                obtain ⟨fl, hfl⟩ : ∃ fl, ns2.length = fl := ⟨_, rfl⟩
                rw [hfl] at hn2
                have hal : Fr (fun _ => False) wr (wr.alloc (.cells #[.string c] 9)) := Fr.alloc _ _ _
                have HO3 := hide (JN.out.fr0 hal).1
                rw [hfl] at HO3
                have HR3 := hide (Reads.built wr [.string c] 9 : Reads (wr.alloc (.cells #[.string c] 9)) (.slice (some ⟨wr.heap.size, 0, none⟩) 1 1) 1 1 [.string c])
                have b1 : fl + 1 ≤ maxLen := by unfold maxLen; omega
                have b2' : (fl + 1) * 16 ≤ 140737488355328 := by omega
                have b3 : w.heap.size ≤ (wr.alloc (.cells #[.string c] 9)).heap.size := by have := JF.out.size; have := hal.size; omega
                have HAL := hide hal
                have HFL := hide hfl
                clear hx hcells hcz htk hal hfl hlt2
                obtain ⟨a5, c5, hshape⟩ := own_shape HO3.out
                subst hshape
                go_wp2_with (at_builtin; refine wpList_append_reads _ rfl _ _ _ rfl w.heap.size 9 i0 _ 1 16 Try.underlying30 hi0 hz0 hz1 hz2 sizeStr (by decide) _ fl _ rfl HO3.out _ 1 [.string c] rfl HR3.out (by intro u hu; simp at hu; subst hu; rfl) b1 b2' b3 ?_; intro v3 w3 hown3 hgrow hat; have HO4 := hide hown3; have HG4 := hide hgrow; have HAT := hide hat; clear hown3 hgrow hat)
                have hmore := Ns.more JL.out JN.out HAL.out (by rw [HFL.out]; exact HO4.out) HG4.out HAT.out
                have hq3 := hmore.2.2.2 xb (lt_of_block JB.out) JO.out
                have HQ3 := hide (hq3.1.trans JB.out)
                have HO5 := hide hq3.2
                clear hq3
                have HM := hide hmore
                clear hmore HO3 HO4 HG4 HAT HR3
                go_roundw
                case rel => exact ⟨j + 1, _, _, by go_num, by omega, HM.out.1, HM.out.2.1, HTK.out.symm, .inl JX.out, HQ3.out, HO5.out, JF.out.trans HM.out.2.2.1 (fun q _ h => h.2)⟩
                case measure => simp [intOf]; omega
              · have jk1 : ¬ (j : Int) < (m : Int) := by omega
                have hjm : j = m := by omega
                have hst : St w wr X2 tb (k + 1) T2 u4 ns2 := by
                  rw [JE.out, hjm, List.take_of_length_le (by rw [HL2.out]; exact Nat.le_refl _), ← HT2.out]
                  refine HS.out.take (by rw [HL2.out]; exact hm6) HSZ2.out (by rw [HT2.out]; exact JL.out) ?_ JF.out
                  have := JN.out
                  rw [JE.out, hjm, List.take_of_length_le (by rw [HL2.out]; exact Nat.le_refl _)] at this
                  exact this
                have HST := hide hst
                clear hst hjm
                go_wp2_with fail
                go_roundw
                case rel => exact ⟨k + 1, X2, T2, ns2, by go_num, by omega, by omega, HST.out⟩
                case measure => simp [intOf]; omega
          | false =>
            have t1 := freeD wd X1 _ tb T HLD.out _ HS.out.fit (by omega) tx w2'
            have T1 := hide t1
            clear t1
            go_wp2_with fail
            refine T1.out.mono ?_
            rintro e w2 ⟨rfl, hl, hf⟩
            have H2 := hide hl
            have N2 := hide (HNS.out.own hf)
            have F2 := hide (HFD.out.trans (hf.mono (S' := fun k => w.heap.size ≤ k) (fun _ _ h => h.1)) (fun _ _ h => h))
            clear hl hf T1
            go_wp2_with fail
            go_roundw
            case rel => exact ⟨k + 1, X1, _, ns, by go_num, by omega, by omega, ⟨H2.out, N2.out, (fits_free HS.out.fit _).mono (by omega), by have := HS.out.len; omega, fun s hs => HS.out.nm s (free_names' hs), HS.out.sz, F2.out⟩⟩
            case measure => simp [intOf]; omega
      · have hex : (k : Int) < (n1 : Int) ∧ ¬ (k : Int) < 30 ∨ ¬ (k : Int) < (n1 : Int) := by omega
        have ik0 : (0 : Int) ≤ (k : Int) := by omega
        clear hgo
        rcases hex with ⟨ik1, ik2⟩ | ik1
        all_goals
          go_wp2_with fail
          go_meet
          case rel => exact ⟨k, X, T, ns, hk2, HS.out⟩
  case rest =>
    obtain ⟨k, X, T, ns, hk2, HS⟩ := hcut
    have t1 := allD wc X _ tb T HS.out.lk (6 * k) HS.out.fit (by omega)
    have T1 := hide t1
    clear t1
    go_wp2_with fail
    refine T1.out.mono ?_
    rintro e y ⟨va, al, rfl, hall, ho, hf⟩
    obtain ⟨na, hna⟩ : ∃ na, al.length = na := ⟨_, rfl⟩
    rw [hna] at ho
    obtain ⟨sa, ca, rfl⟩ := own_shape ho
    have hnaM := isAll_len HS.out.lk.ok hall HS.out.fit
    have hna9 : na ≤ 32400 := by have := Nat.mul_le_mul (show 6 * k ≤ 180 by omega) (show 6 * k ≤ 180 by omega); rw [hna] at hnaM; omega
    obtain ⟨nn, hnn⟩ : ∃ nn, ns.length = nn := ⟨_, rfl⟩
    have hrn := (HS.out.own.fr0 hf).reads
    rw [hnn] at hrn
    obtain ⟨-, sn, cn, rfl, -, -, -⟩ := id hrn
    have hnn9 : nn ≤ 180 := by have := HS.out.len; omega
    have hra := Reads.of_own ho
    obtain ⟨-, a0, c0, e9, -, -, hac⟩ := id hra
    cases e9
    have HRA := hide hra
    have HAC := hide hac
    have HRN := hide hrn
    have HALL := hide hall
    have HLK := hide (HS.out.lk.fr0 hf)
    have HOK := hide HS.out.lk.ok
    have HFIT := hide HS.out.fit
    have HNM := hide HS.out.nm
    have HSZ := hide HS.out.sz
    have HF := hide (HS.out.fr.trans hf (fun _ _ h => h.elim))
    have HNA := hide hna
    have HNN := hide hnn
    have hm6 : 6 * k ≤ 180 := by omega
    obtain ⟨M, hM⟩ : ∃ M, 6 * k = M := ⟨_, rfl⟩
    rw [hM] at HFIT hm6
    clear ho hf hall hra hac hrn hna hnn hnaM HS T1 H1 F1 hM HR HG
    go_wp2_with fail
    go_loopw [9] (fun ii wr => ∃ i : Nat, ii = .int .i64 i ∧ i ≤ na ∧ Fr (fun _ => False) y wr) (fun ii _ => na - (intOf ii).toNat)
    case atStart => exact ⟨0, rfl, Nat.zero_le _, Fr.refl _ _⟩
    case round =>
      obtain ⟨i, rfl, hi, hfi⟩ := hrel
      have HFI := hide hfi
      clear hfi
      by_cases hilt : i < na
      · have jk0 : (0 : Int) ≤ (i : Int) := by omega
        have jk1 : (i : Int) < (na : Int) := by omega
        obtain ⟨u, hu⟩ : ∃ u, al[i]? = some u := ⟨_, List.getElem?_eq_getElem (by rw [HNA.out]; exact hilt)⟩
        obtain ⟨ba, oa, rfl, e0⟩ := HAC.out i (encStr u) (by rw [List.getElem?_map, hu]; rfl)
        have e0 : wr.cell? ⟨ba, oa + i, none⟩ = some (.string ⟨u.toArray⟩) := cell_fr0 HFI.out e0
        obtain ⟨s0, hs0⟩ := (HALL.out.mem u).1 (List.mem_of_getElem? hu)
        have t1 := heldD wr X _ tb T (HLK.out.fr0 HFI.out) M HFIT.out (by omega) ⟨u.toArray⟩ (HOK.out.ws s0 u hs0)
        rw [encStr_data] at t1
        obtain ⟨U, hUe⟩ : ∃ U : ByteArray, toB u = U := ⟨_, rfl⟩
        rw [show (⟨u.toArray⟩ : ByteArray) = U from hUe] at e0 t1
        have HUE := hide hUe
        clear hUe
        obtain ⟨hl, hhl⟩ : ∃ hl, heldT T u = hl := ⟨_, rfl⟩
        have hlm : s0 ∈ hl := by rw [← hhl]; exact (mem_held_iff HOK.out).2 hs0
        have hln : 0 < hl.length := List.length_pos_of_mem hlm
        have hlM : hl.length ≤ M := by rw [← hhl]; exact Nat.le_trans (List.length_filter_le _ _) (by rw [(sortB_perm _).length_eq]; exact HFIT.out.1)
        rw [hhl] at t1
        obtain ⟨hn, hhn⟩ : ∃ hn, hl.length = hn := ⟨_, rfl⟩
        rw [hhn] at t1 hln hlM
        have T1 := hide t1
        have HU := hide hu
        have HHL := hide hhl
        have HHN := hide hhn
        clear t1 hu hhl hlm hs0 hhn
        go_wp2_with fail
        refine T1.out.mono ?_
        rintro e w4 ⟨v4, rfl, ho4, hf4⟩
        have hr4 := Reads.of_own ho4
        obtain ⟨a4, c4, rfl⟩ := own_shape ho4
        have HR4 := hide hr4
        have HF4 := hide (HFI.out.trans hf4 (fun _ _ h => h))
        have e4 := cell_fr0 hf4 e0
        have hn0 : ((hn : Int) == 0) = false := by simp; omega
        clear ho4 hr4 hf4 T1
        go_upto_region 23 with fail
        go_cut [101] from 83 to 100 (fun v wx => v = .bool false ∧ Fr (fun _ => False) w4 wx)
        case first =>
          by_cases hi0 : i = 0
          · have lk2 : ¬ (0 : Int) < (i : Int) := by omega
            have lk5 : ¬ 0 < i := by omega
            clear hi0
            go_wp2_with fail
            go_quiet (fail)
            go_wp2_with fail
            go_meet
            case rel => exact ⟨rfl, (Fr.refl _ _).drewN nq⟩
          · obtain ⟨j, hj⟩ : ∃ j, i = j + 1 := ⟨i - 1, by omega⟩
            obtain ⟨pu, hpu⟩ : ∃ pu, al[j]? = some pu := ⟨_, List.getElem?_eq_getElem (by rw [HNA.out]; omega)⟩
            obtain ⟨ba', oa', e9, e5⟩ := HAC.out j (encStr pu) (by rw [List.getElem?_map, hpu]; rfl)
            cases e9
            obtain ⟨PU, hPUe⟩ : ∃ U : ByteArray, toB pu = U := ⟨_, rfl⟩
            have e5 : w4.cell? ⟨ba, oa + j, none⟩ = some (.string PU) := by rw [← hPUe]; exact cell_fr0 HF4.out e5
            have lk0 : (0 : Int) ≤ (j : Int) := by omega
            have lk1 : (j : Int) < (na : Int) := by omega
            have lk2 : (0 : Int) < (i : Int) := by omega
            have lk5 : 0 < i := by omega
            have lk3 : (i : Int) - 1 = (j : Int) := by omega
            have lk4 : wrap64 ((i : Int) - 1) = (j : Int) := by rw [lk3]; unfold wrap64; omega
            have hlt := less_of (st_lt HALL.out.st HALL.out.nd hpu (by rw [← hj]; exact HU.out))
            rw [hPUe, HUE.out] at hlt
            clear hpu hPUe hj e0
            go_wp2_with fail
            go_quiet (fail)
            go_wp2_with fail
            go_meet
            case rel => exact ⟨rfl, (Fr.refl _ _).drewN nq⟩
        case rest =>
          obtain ⟨rfl, hfq⟩ := hcut
          obtain ⟨wq, hwq⟩ : ∃ wq, wc = wq := ⟨_, rfl⟩
          rw [hwq] at hfq
          rw [hwq]
          clear hwq
          have HRQ := hide (reads_old HR4.out hfq (fun _ _ h => h))
          have HFQ := hide (HF4.out.trans hfq (fun _ _ h => h))
          have EQ := hide (cell_fr0 hfq e4)
          clear hfq HR4 HF4 e4 hn0
          go_wp2_with fail
          go_loopw [11] (fun ii wr => ∃ j : Nat, ii = .int .i64 j ∧ j ≤ hn ∧ Fr (fun _ => False) wq wr) (fun ii _ => hn - (intOf ii).toNat)
          case atStart => exact ⟨0, rfl, Nat.zero_le _, Fr.refl _ _⟩
          case round =>
            obtain ⟨j, rfl, hj, hfj⟩ := hrel
            have HFJ := hide (HFQ.out.trans hfj (fun _ _ h => h))
            have e0 := cell_fr0 hfj EQ.out
            have HR5 := hide (reads_old HRQ.out hfj (fun _ _ h => h))
            have HFJ0 := hide hfj
            clear hfj
            by_cases hjlt : j < hn
            · have lj0 : (0 : Int) ≤ (j : Int) := by omega
              have lj1 : (j : Int) < (hn : Int) := by omega
              obtain ⟨c, hc⟩ : ∃ c, hl[j]? = some c := ⟨_, List.getElem?_eq_getElem (by rw [HHN.out]; exact hjlt)⟩
              obtain ⟨-, a9, c9, e9, -, -, hh5⟩ := id HR5.out
              cases e9
              obtain ⟨b4, o4, rfl, e6'⟩ := hh5 j (encStr c) (by rw [List.getElem?_map, hc]; rfl)
              have hcm : u ∈ T.whos c := (mem_held_iff HOK.out).1 (by rw [HHL.out]; exact List.mem_of_getElem? hc)
              have hcn : c ∈ T.names := (HOK.out.ne c).2 (fun e => by rw [e] at hcm; cases hcm)
              obtain ⟨C, hCe⟩ : ∃ C : ByteArray, toB c = C := ⟨_, rfl⟩
              have e6 : wr.cell? ⟨b4, o4 + j, none⟩ = some (.string C) := by rw [← hCe]; exact e6'
              clear e6'
              obtain ⟨hs, hhs⟩ : ∃ hs, sortB (T.whos c) = hs := ⟨_, rfl⟩
              obtain ⟨nh, hnh⟩ : ∃ nh, hs.length = nh := ⟨_, rfl⟩
              have hcs : nh ≤ 1000000 := by rw [← hnh, ← hhs, (sortB_perm _).length_eq]; exact Nat.le_trans (HFIT.out.2 c) (by omega)
              have hlk5 := HLK.out.fr0 HFJ.out
              have hcd : C.data.toList = c := by rw [← hCe]
              have hcz : C.size ≤ maxLen := by rw [← hCe]; exact HOK.out.ns c hcn
              have T0 : Hid (∀ w2, Fr (fun _ => False) wr w2 → Calls Try.prog 11 #[.pointer (some ⟨tb, 0, none⟩), .string C] w2 fun e w' => ∃ v, e = .returned v ∧ Reads w' v nh 1 (hs.map encStr) ∧ Fr (fun _ => False) w2 w') := fun w2 hf => by
                have h1 := holdersD w2 X _ tb T (hlk5.fr0 hf) M HFIT.out (by omega) C hcz
                rw [hcd, hhs, hnh] at h1
                exact h1.mono (by rintro e w' ⟨v, h1, h2, h3⟩; exact ⟨v, h1, Reads.of_own h2, h3⟩)
              have TA : Hid (∀ (w5 : World) (v5 : Value), Reads w5 v5 nh 1 (hs.map encStr) → Calls Try.prog 15 #[v5, .string U] w5 fun e w' => e = .returned (.bool true) ∧ w' = w5) := fun w5 v5 ho =>
                has_any w5 v5 (hs.map toB) (by rw [List.length_map, List.map_map, hnh]; exact ho) (by rw [List.length_map, hnh]; exact hcs) U true ⟨fun _ => List.mem_map.2 ⟨u, by rw [← hhs]; exact mem_sortB.2 hcm, HUE.out⟩, fun _ => rfl⟩
              have TB : Hid (∀ w5 : World, Fr (fun _ => False) wr w5 → Calls Try.prog 15 #[.slice sn nn cn, .string C] w5 fun e w' => e = .returned (.bool true) ∧ w' = w5) := fun w5 hf =>
                has_any w5 (.slice sn nn cn) ns (by rw [HNN.out]; exact reads_old HRN.out (HFJ.out.trans hf (fun _ _ h => h)) (fun _ _ h => h)) (by rw [HNN.out]; omega) C true ⟨fun _ => by rw [← hCe]; exact HNM.out c hcn, fun _ => rfl⟩
              have HC := hide hc
              have HCE := hide hCe
              clear hlk5 hcd hcz hcs hcm hcn hCe hc hhs hnh
              go_upto_region 28 with fail
              go_cut [144] from 108 to 143 (fun v wx => v = .bool false ∧ Fr (fun _ => False) wr wx)
              case first =>
                by_cases hj0 : j = 0
                · have lk2 : ¬ (0 : Int) < (j : Int) := by omega
                  have lk5 : ¬ 0 < j := by omega
                  clear hj0
                  go_wp2_with fail
                  refine wp_region_news [Lft.is (.int .i64 j), Lft.is (.bool false), Lft.is (.bool false), Lft.any, Lft.any, Lft.any, Lft.any, Lft.any, Lft.any, Lft.any, Lft.any, Lft.any, Lft.any, Lft.is (.bool false), Lft.is (.bool false), Lft.is (.pointer (some ⟨tb, 0, none⟩)), Lft.is (.slice (some ⟨b4, o4, none⟩) hn c4), Lft.is (.int .i64 j), Lft.is (.pointer (some ⟨b4, o4 + j, none⟩)), Lft.is (.string C), Lft.stay (fun v w' => ∃ a q, v = .slice a nh q ∧ Reads w' v nh 1 (hs.map encStr)) (fun u w1 w2 h g => by obtain ⟨a, q, e, h⟩ := h; exact ⟨a, q, e, reads_old h g (fun _ _ => id)⟩), Lft.is (.slice (some ⟨ba, oa, none⟩) na ca), Lft.is (.int .i64 i), Lft.is (.pointer (some ⟨ba, oa + i, none⟩)), Lft.is (.string U), Lft.is (.bool true), Lft.is (.bool false), Lft.is (.bool false), Lft.is (.bool false), Lft.is (.slice sn nn cn), Lft.is (.slice (some ⟨b4, o4, none⟩) hn c4), Lft.is (.int .i64 j), Lft.is (.pointer (some ⟨b4, o4 + j, none⟩)), Lft.is (.string C), Lft.is (.bool true), Lft.is (.bool false), Lft.is (.bool false)] _ (by kernel_rfl) (by kernel_rfl) (fun vs => by simp only [putAll, Act.put, List.setIfInBounds_toArray, List.set_cons_succ, List.set_cons_zero, Nat.zero_add, Nat.reduceAdd]; exact rfl) ⟨?_, ?_, ?_, ?_, ?_, ?_, ?_, ?_, ?_, ?_, ?_, ?_, ?_, ?_, ?_, ?_, ?_, ?_, ?_, ?_, ?_, ?_, ?_, ?_, ?_, ?_, ?_, ?_, ?_, ?_, ?_, ?_, ?_, ?_, ?_, ?_, ?_, trivial⟩ ?_
                  · exact StepN.quiet rfl _ rfl (fun vs w2 hf hp => by go_simp)
                  · exact StepN.quiet rfl _ rfl (fun vs w2 hf hp => by obtain ⟨g0, -⟩ := hp; have g0 : vs 0 = .int .i64 j := g0; go_simp)
                  · exact StepN.quiet rfl _ rfl (fun vs w2 hf hp => by obtain ⟨g1, -⟩ := hp; have g1 : vs 1 = .bool false := g1; go_simp)
                  · exact StepN.off (fun vs w2 hf hp => ⟨by obtain ⟨g2, -⟩ := hp; have g2 : vs 2 = .bool false := g2; simp [Region.wanted, yielded, g2], trivial⟩)
                  · exact StepN.off (fun vs w2 hf hp => ⟨by obtain ⟨g2, -⟩ := hp; have g2 : vs 2 = .bool false := g2; simp [Region.wanted, yielded, g2], trivial⟩)
                  · exact StepN.off (fun vs w2 hf hp => ⟨by obtain ⟨-, g2, -⟩ := hp; have g2 : vs 2 = .bool false := g2; simp [Region.wanted, yielded, g2], trivial⟩)
                  · exact StepN.off (fun vs w2 hf hp => ⟨by obtain ⟨-, -, g2, -⟩ := hp; have g2 : vs 2 = .bool false := g2; simp [Region.wanted, yielded, g2], trivial⟩)
                  · exact StepN.off (fun vs w2 hf hp => ⟨by obtain ⟨-, g2, -⟩ := hp; have g2 : vs 2 = .bool false := g2; simp [Region.wanted, yielded, g2], trivial⟩)
                  · exact StepN.off (fun vs w2 hf hp => ⟨by obtain ⟨g2, -⟩ := hp; have g2 : vs 2 = .bool false := g2; simp [Region.wanted, yielded, g2], trivial⟩)
                  · exact StepN.off (fun vs w2 hf hp => ⟨by obtain ⟨g2, -⟩ := hp; have g2 : vs 2 = .bool false := g2; simp [Region.wanted, yielded, g2], trivial⟩)
                  · exact StepN.off (fun vs w2 hf hp => ⟨by obtain ⟨-, -, g2, -⟩ := hp; have g2 : vs 2 = .bool false := g2; simp [Region.wanted, yielded, g2], trivial⟩)
                  · exact StepN.off (fun vs w2 hf hp => ⟨by obtain ⟨-, g2, -⟩ := hp; have g2 : vs 2 = .bool false := g2; simp [Region.wanted, yielded, g2], trivial⟩)
                  · exact StepN.off (fun vs w2 hf hp => ⟨by obtain ⟨-, -, g2, -⟩ := hp; have g2 : vs 2 = .bool false := g2; simp [Region.wanted, yielded, g2], trivial⟩)
                  · exact StepN.quiet rfl _ rfl (fun vs w2 hf hp => by obtain ⟨g2, -, -⟩ := hp; have g2 : vs 2 = .bool false := g2; go_simp)
                  · exact StepN.quiet rfl _ rfl (fun vs w2 hf hp => by obtain ⟨g13, g2, -⟩ := hp; have g13 : vs 13 = .bool false := g13; have g2 : vs 2 = .bool false := g2; go_simp)
                  · exact StepN.on (fun vs w2 hf hp => by obtain ⟨g14, -⟩ := hp; have g14 : vs 14 = .bool false := g14; exact ⟨by simp [Region.wanted, yielded, g14], .pointer (some ⟨tb, 0, none⟩), w2, by clear g14; go_simp, rfl, Fr.refl _ _, by intro h; cases h⟩)
                  · exact StepN.on (fun vs w2 hf hp => by obtain ⟨g14, -⟩ := hp; have g14 : vs 14 = .bool false := g14; exact ⟨by simp [Region.wanted, yielded, g14], .slice (some ⟨b4, o4, none⟩) hn c4, w2, by clear g14; go_simp, rfl, Fr.refl _ _, by intro h; cases h⟩)
                  · exact StepN.on (fun vs w2 hf hp => by obtain ⟨g14, -⟩ := hp; have g14 : vs 14 = .bool false := g14; exact ⟨by simp [Region.wanted, yielded, g14], .int .i64 j, w2, by clear g14; go_simp, rfl, Fr.refl _ _, by intro h; cases h⟩)
                  · exact StepN.on (fun vs w2 hf hp => by obtain ⟨g16, g17, g14, -⟩ := hp; have g16 : vs 16 = .slice (some ⟨b4, o4, none⟩) hn c4 := g16; have g17 : vs 17 = .int .i64 j := g17; have g14 : vs 14 = .bool false := g14; exact ⟨by simp [Region.wanted, yielded, g14], .pointer (some ⟨b4, o4 + j, none⟩), w2, by clear g14; go_simp, rfl, Fr.refl _ _, by intro h; cases h⟩)
                  · exact StepN.on (fun vs w2 hf hp => by obtain ⟨g18, g14, -⟩ := hp; have g18 : vs 18 = .pointer (some ⟨b4, o4 + j, none⟩) := g18; have g14 : vs 14 = .bool false := g14; have ce6 := cell_fr0 hf e6; exact ⟨by simp [Region.wanted, yielded, g14], .string C, w2, by clear g14; go_simp, rfl, Fr.refl _ _, by intro h; cases h⟩)
                  · refine StepN.onCall 11 (fun _ => #[.pointer (some ⟨tb, 0, none⟩), .string C]) (fun vs w2 hf hp => ?_)
                    obtain ⟨g15, g19, g14, -, -⟩ := hp; have g15 : vs 15 = .pointer (some ⟨tb, 0, none⟩) := g15; have g19 : vs 19 = .string C := g19; have g14 : vs 14 = .bool false := g14
                    refine ⟨by simp [Region.wanted, yielded, g14], by clear g14; go_simp, ?_⟩
                    refine (T0.out w2 hf).mono ?_
                    rintro e w3 ⟨v, rfl, hr, hf3⟩
                    obtain ⟨a3, q3, e3⟩ := reads_shape hr
                    exact ⟨_, rfl, ⟨a3, q3, e3, hr⟩, hf3, by intro h; cases h⟩
                  · exact StepN.on (fun vs w2 hf hp => by obtain ⟨g14, -⟩ := hp; have g14 : vs 14 = .bool false := g14; exact ⟨by simp [Region.wanted, yielded, g14], .slice (some ⟨ba, oa, none⟩) na ca, w2, by clear g14; go_simp, rfl, Fr.refl _ _, by intro h; cases h⟩)
                  · exact StepN.on (fun vs w2 hf hp => by obtain ⟨g14, -⟩ := hp; have g14 : vs 14 = .bool false := g14; exact ⟨by simp [Region.wanted, yielded, g14], .int .i64 i, w2, by clear g14; go_simp, rfl, Fr.refl _ _, by intro h; cases h⟩)
                  · exact StepN.on (fun vs w2 hf hp => by obtain ⟨g21, g22, g14, -⟩ := hp; have g21 : vs 21 = .slice (some ⟨ba, oa, none⟩) na ca := g21; have g22 : vs 22 = .int .i64 i := g22; have g14 : vs 14 = .bool false := g14; exact ⟨by simp [Region.wanted, yielded, g14], .pointer (some ⟨ba, oa + i, none⟩), w2, by clear g14; go_simp, rfl, Fr.refl _ _, by intro h; cases h⟩)
                  · exact StepN.on (fun vs w2 hf hp => by obtain ⟨g23, g14, -⟩ := hp; have g23 : vs 23 = .pointer (some ⟨ba, oa + i, none⟩) := g23; have g14 : vs 14 = .bool false := g14; have ce0 := cell_fr0 hf e0; exact ⟨by simp [Region.wanted, yielded, g14], .string U, w2, by clear g14; go_simp, rfl, Fr.refl _ _, by intro h; cases h⟩)
                  · refine StepN.onCall 15 (fun vs => #[vs 20, .string U]) (fun vs w2 hf hp => ?_)
                    obtain ⟨g20, g24, -, g14, -⟩ := hp; obtain ⟨ha, hq, g20, hr9⟩ := g20; have g20 : vs 20 = .slice ha nh hq := g20; have g24 : vs 24 = .string U := g24; have g14 : vs 14 = .bool false := g14
                    refine ⟨by simp [Region.wanted, yielded, g14], by clear g14; go_simp, ?_⟩
                    refine (TA.out w2 _ hr9).mono ?_
                    rintro e w3 ⟨rfl, rfl⟩
                    exact ⟨_, rfl, rfl, Fr.refl _ _, by intro h; cases h⟩
                  · exact StepN.on (fun vs w2 hf hp => by obtain ⟨g25, g14, -⟩ := hp; have g25 : vs 25 = .bool true := g25; have g14 : vs 14 = .bool false := g14; exact ⟨by simp [Region.wanted, yielded, g14], .bool false, w2, by clear g14; go_simp, rfl, Fr.refl _ _, by intro h; cases h⟩)
                  · exact StepN.quiet rfl _ rfl (fun vs w2 hf hp => by obtain ⟨g14, g26, -⟩ := hp; have g14 : vs 14 = .bool false := g14; have g26 : vs 26 = .bool false := g26; go_simp)
                  · exact StepN.quiet rfl _ rfl (fun vs w2 hf hp => by obtain ⟨g27, g25, -⟩ := hp; have g27 : vs 27 = .bool false := g27; have g25 : vs 25 = .bool true := g25; go_simp)
                  · exact StepN.on (fun vs w2 hf hp => by obtain ⟨g28, -⟩ := hp; have g28 : vs 28 = .bool false := g28; exact ⟨by simp [Region.wanted, yielded, g28], .slice sn nn cn, w2, by clear g28; go_simp, rfl, Fr.refl _ _, by intro h; cases h⟩)
                  · exact StepN.on (fun vs w2 hf hp => by obtain ⟨g28, -⟩ := hp; have g28 : vs 28 = .bool false := g28; exact ⟨by simp [Region.wanted, yielded, g28], .slice (some ⟨b4, o4, none⟩) hn c4, w2, by clear g28; go_simp, rfl, Fr.refl _ _, by intro h; cases h⟩)
                  · exact StepN.on (fun vs w2 hf hp => by obtain ⟨g28, -⟩ := hp; have g28 : vs 28 = .bool false := g28; exact ⟨by simp [Region.wanted, yielded, g28], .int .i64 j, w2, by clear g28; go_simp, rfl, Fr.refl _ _, by intro h; cases h⟩)
                  · exact StepN.on (fun vs w2 hf hp => by obtain ⟨g30, g31, g28, -⟩ := hp; have g30 : vs 30 = .slice (some ⟨b4, o4, none⟩) hn c4 := g30; have g31 : vs 31 = .int .i64 j := g31; have g28 : vs 28 = .bool false := g28; exact ⟨by simp [Region.wanted, yielded, g28], .pointer (some ⟨b4, o4 + j, none⟩), w2, by clear g28; go_simp, rfl, Fr.refl _ _, by intro h; cases h⟩)
                  · exact StepN.on (fun vs w2 hf hp => by obtain ⟨g32, g28, -⟩ := hp; have g32 : vs 32 = .pointer (some ⟨b4, o4 + j, none⟩) := g32; have g28 : vs 28 = .bool false := g28; have ce6 := cell_fr0 hf e6; exact ⟨by simp [Region.wanted, yielded, g28], .string C, w2, by clear g28; go_simp, rfl, Fr.refl _ _, by intro h; cases h⟩)
                  · refine StepN.onCall 15 (fun vs => #[.slice sn nn cn, .string C]) (fun vs w2 hf hp => ?_)
                    obtain ⟨g29, g33, g28, -, -⟩ := hp; have g29 : vs 29 = .slice sn nn cn := g29; have g33 : vs 33 = .string C := g33; have g28 : vs 28 = .bool false := g28
                    refine ⟨by simp [Region.wanted, yielded, g28], by clear g28; go_simp, ?_⟩
                    refine (TB.out w2 hf).mono ?_
                    rintro e w3 ⟨rfl, rfl⟩
                    exact ⟨_, rfl, rfl, Fr.refl _ _, by intro h; cases h⟩
                  · exact StepN.on (fun vs w2 hf hp => by obtain ⟨g34, g28, -⟩ := hp; have g34 : vs 34 = .bool true := g34; have g28 : vs 28 = .bool false := g28; exact ⟨by simp [Region.wanted, yielded, g28], .bool false, w2, by clear g28; go_simp, rfl, Fr.refl _ _, by intro h; cases h⟩)
                  · exact StepN.quiet rfl _ rfl (fun vs w2 hf hp => by obtain ⟨g28, g35, -⟩ := hp; have g28 : vs 28 = .bool false := g28; have g35 : vs 35 = .bool false := g35; go_simp)
                  · intro vs w5 hf he _
                    have h36 : vs 36 = .bool false := (he.get 36 (by decide)).1
                    rw [h36]
                    have HFx := hide hf
                    clear he hf h36
                    go_wp2_with fail
                    go_meet
                    case rel => exact ⟨rfl, HFx.out⟩
                · obtain ⟨p, hp⟩ : ∃ p, j = p + 1 := ⟨j - 1, by omega⟩
                  obtain ⟨pc, hpc⟩ : ∃ pc, hl[p]? = some pc := ⟨_, List.getElem?_eq_getElem (by rw [HHN.out]; omega)⟩
                  obtain ⟨b4', o4', e9, e7'⟩ := hh5 p (encStr pc) (by rw [List.getElem?_map, hpc]; rfl)
                  cases e9
                  obtain ⟨PC, hPCe⟩ : ∃ U : ByteArray, toB pc = U := ⟨_, rfl⟩
                  have e7 : wr.cell? ⟨b4, o4 + p, none⟩ = some (.string PC) := by rw [← hPCe]; exact e7'
                  have lk0 : (0 : Int) ≤ (p : Int) := by omega
                  have lk1 : (p : Int) < (hn : Int) := by omega
                  have lk2 : (0 : Int) < (j : Int) := by omega
                  have lk5 : 0 < j := by omega
                  have lk3 : (j : Int) - 1 = (p : Int) := by omega
                  have lk4 : wrap64 ((j : Int) - 1) = (p : Int) := by rw [lk3]; unfold wrap64; omega
                  have lk6 : IntKind.i64.wrap (p : Int) = (p : Int) := IntWalk.i64_in _ (by omega)
                  have hlt := less_of (st_lt (by rw [← HHL.out]; exact held_st u) (by rw [← HHL.out]; exact held_nodup HOK.out u) hpc (by rw [← hp]; exact HC.out))
                  rw [hPCe, HCE.out] at hlt
                  clear hpc hPCe e7' hp hj0
                  go_wp2_with fail
                  refine wp_region_news [Lft.is (.int .i64 j), Lft.is (.bool true), Lft.is (.bool true), Lft.is (.slice (some ⟨b4, o4, none⟩) hn c4), Lft.is (.int .i64 j), Lft.is (.int .i64 p), Lft.is (.pointer (some ⟨b4, o4 + p, none⟩)), Lft.is (.string PC), Lft.is (.slice (some ⟨b4, o4, none⟩) hn c4), Lft.is (.int .i64 j), Lft.is (.pointer (some ⟨b4, o4 + j, none⟩)), Lft.is (.string C), Lft.is (.bool false), Lft.is (.bool false), Lft.is (.bool false), Lft.is (.pointer (some ⟨tb, 0, none⟩)), Lft.is (.slice (some ⟨b4, o4, none⟩) hn c4), Lft.is (.int .i64 j), Lft.is (.pointer (some ⟨b4, o4 + j, none⟩)), Lft.is (.string C), Lft.stay (fun v w' => ∃ a q, v = .slice a nh q ∧ Reads w' v nh 1 (hs.map encStr)) (fun u w1 w2 h g => by obtain ⟨a, q, e, h⟩ := h; exact ⟨a, q, e, reads_old h g (fun _ _ => id)⟩), Lft.is (.slice (some ⟨ba, oa, none⟩) na ca), Lft.is (.int .i64 i), Lft.is (.pointer (some ⟨ba, oa + i, none⟩)), Lft.is (.string U), Lft.is (.bool true), Lft.is (.bool false), Lft.is (.bool false), Lft.is (.bool false), Lft.is (.slice sn nn cn), Lft.is (.slice (some ⟨b4, o4, none⟩) hn c4), Lft.is (.int .i64 j), Lft.is (.pointer (some ⟨b4, o4 + j, none⟩)), Lft.is (.string C), Lft.is (.bool true), Lft.is (.bool false), Lft.is (.bool false)] _ (by kernel_rfl) (by kernel_rfl) (fun vs => by simp only [putAll, Act.put, List.setIfInBounds_toArray, List.set_cons_succ, List.set_cons_zero, Nat.zero_add, Nat.reduceAdd]; exact rfl) ⟨?_, ?_, ?_, ?_, ?_, ?_, ?_, ?_, ?_, ?_, ?_, ?_, ?_, ?_, ?_, ?_, ?_, ?_, ?_, ?_, ?_, ?_, ?_, ?_, ?_, ?_, ?_, ?_, ?_, ?_, ?_, ?_, ?_, ?_, ?_, ?_, ?_, trivial⟩ ?_
                  · exact StepN.quiet rfl _ rfl (fun vs w2 hf hp => by go_simp)
                  · exact StepN.quiet rfl _ rfl (fun vs w2 hf hp => by obtain ⟨g0, -⟩ := hp; have g0 : vs 0 = .int .i64 j := g0; go_simp)
                  · exact StepN.quiet rfl _ rfl (fun vs w2 hf hp => by obtain ⟨g1, -⟩ := hp; have g1 : vs 1 = .bool true := g1; go_simp)
                  · exact StepN.on (fun vs w2 hf hp => by obtain ⟨g2, -⟩ := hp; have g2 : vs 2 = .bool true := g2; exact ⟨by simp [Region.wanted, yielded, g2], .slice (some ⟨b4, o4, none⟩) hn c4, w2, by clear g2; go_simp, rfl, Fr.refl _ _, by intro h; cases h⟩)
                  · exact StepN.on (fun vs w2 hf hp => by obtain ⟨g2, -⟩ := hp; have g2 : vs 2 = .bool true := g2; exact ⟨by simp [Region.wanted, yielded, g2], .int .i64 j, w2, by clear g2; go_simp, rfl, Fr.refl _ _, by intro h; cases h⟩)
                  · exact StepN.on (fun vs w2 hf hp => by obtain ⟨g4, g2, -⟩ := hp; have g4 : vs 4 = .int .i64 j := g4; have g2 : vs 2 = .bool true := g2; exact ⟨by simp [Region.wanted, yielded, g2], .int .i64 p, w2, by clear g2; go_simp, rfl, Fr.refl _ _, by intro h; cases h⟩)
                  · exact StepN.on (fun vs w2 hf hp => by obtain ⟨g3, g5, g2, -⟩ := hp; have g3 : vs 3 = .slice (some ⟨b4, o4, none⟩) hn c4 := g3; have g5 : vs 5 = .int .i64 p := g5; have g2 : vs 2 = .bool true := g2; exact ⟨by simp [Region.wanted, yielded, g2], .pointer (some ⟨b4, o4 + p, none⟩), w2, by clear g2; go_simp, rfl, Fr.refl _ _, by intro h; cases h⟩)
                  · exact StepN.on (fun vs w2 hf hp => by obtain ⟨g6, g2, -⟩ := hp; have g6 : vs 6 = .pointer (some ⟨b4, o4 + p, none⟩) := g6; have g2 : vs 2 = .bool true := g2; have ce7 := cell_fr0 hf e7; exact ⟨by simp [Region.wanted, yielded, g2], .string PC, w2, by clear g2; go_simp, rfl, Fr.refl _ _, by intro h; cases h⟩)
                  · exact StepN.on (fun vs w2 hf hp => by obtain ⟨g2, -⟩ := hp; have g2 : vs 2 = .bool true := g2; exact ⟨by simp [Region.wanted, yielded, g2], .slice (some ⟨b4, o4, none⟩) hn c4, w2, by clear g2; go_simp, rfl, Fr.refl _ _, by intro h; cases h⟩)
                  · exact StepN.on (fun vs w2 hf hp => by obtain ⟨g2, -⟩ := hp; have g2 : vs 2 = .bool true := g2; exact ⟨by simp [Region.wanted, yielded, g2], .int .i64 j, w2, by clear g2; go_simp, rfl, Fr.refl _ _, by intro h; cases h⟩)
                  · exact StepN.on (fun vs w2 hf hp => by obtain ⟨g8, g9, g2, -⟩ := hp; have g8 : vs 8 = .slice (some ⟨b4, o4, none⟩) hn c4 := g8; have g9 : vs 9 = .int .i64 j := g9; have g2 : vs 2 = .bool true := g2; exact ⟨by simp [Region.wanted, yielded, g2], .pointer (some ⟨b4, o4 + j, none⟩), w2, by clear g2; go_simp, rfl, Fr.refl _ _, by intro h; cases h⟩)
                  · exact StepN.on (fun vs w2 hf hp => by obtain ⟨g10, g2, -⟩ := hp; have g10 : vs 10 = .pointer (some ⟨b4, o4 + j, none⟩) := g10; have g2 : vs 2 = .bool true := g2; have ce6 := cell_fr0 hf e6; exact ⟨by simp [Region.wanted, yielded, g2], .string C, w2, by clear g2; go_simp, rfl, Fr.refl _ _, by intro h; cases h⟩)
                  · exact StepN.on (fun vs w2 hf hp => by obtain ⟨g7, g11, g2, -⟩ := hp; have g7 : vs 7 = .string PC := g7; have g11 : vs 11 = .string C := g11; have g2 : vs 2 = .bool true := g2; exact ⟨by simp [Region.wanted, yielded, g2], .bool false, w2, by clear g2; go_simp, rfl, Fr.refl _ _, by intro h; cases h⟩)
                  · exact StepN.quiet rfl _ rfl (fun vs w2 hf hp => by obtain ⟨g2, g12, -⟩ := hp; have g2 : vs 2 = .bool true := g2; have g12 : vs 12 = .bool false := g12; go_simp)
                  · exact StepN.quiet rfl _ rfl (fun vs w2 hf hp => by obtain ⟨g13, g2, -⟩ := hp; have g13 : vs 13 = .bool false := g13; have g2 : vs 2 = .bool true := g2; go_simp)
                  · exact StepN.on (fun vs w2 hf hp => by obtain ⟨g14, -⟩ := hp; have g14 : vs 14 = .bool false := g14; exact ⟨by simp [Region.wanted, yielded, g14], .pointer (some ⟨tb, 0, none⟩), w2, by clear g14; go_simp, rfl, Fr.refl _ _, by intro h; cases h⟩)
                  · exact StepN.on (fun vs w2 hf hp => by obtain ⟨g14, -⟩ := hp; have g14 : vs 14 = .bool false := g14; exact ⟨by simp [Region.wanted, yielded, g14], .slice (some ⟨b4, o4, none⟩) hn c4, w2, by clear g14; go_simp, rfl, Fr.refl _ _, by intro h; cases h⟩)
                  · exact StepN.on (fun vs w2 hf hp => by obtain ⟨g14, -⟩ := hp; have g14 : vs 14 = .bool false := g14; exact ⟨by simp [Region.wanted, yielded, g14], .int .i64 j, w2, by clear g14; go_simp, rfl, Fr.refl _ _, by intro h; cases h⟩)
                  · exact StepN.on (fun vs w2 hf hp => by obtain ⟨g16, g17, g14, -⟩ := hp; have g16 : vs 16 = .slice (some ⟨b4, o4, none⟩) hn c4 := g16; have g17 : vs 17 = .int .i64 j := g17; have g14 : vs 14 = .bool false := g14; exact ⟨by simp [Region.wanted, yielded, g14], .pointer (some ⟨b4, o4 + j, none⟩), w2, by clear g14; go_simp, rfl, Fr.refl _ _, by intro h; cases h⟩)
                  · exact StepN.on (fun vs w2 hf hp => by obtain ⟨g18, g14, -⟩ := hp; have g18 : vs 18 = .pointer (some ⟨b4, o4 + j, none⟩) := g18; have g14 : vs 14 = .bool false := g14; have ce6 := cell_fr0 hf e6; exact ⟨by simp [Region.wanted, yielded, g14], .string C, w2, by clear g14; go_simp, rfl, Fr.refl _ _, by intro h; cases h⟩)
                  · refine StepN.onCall 11 (fun _ => #[.pointer (some ⟨tb, 0, none⟩), .string C]) (fun vs w2 hf hp => ?_)
                    obtain ⟨g15, g19, g14, -, -⟩ := hp; have g15 : vs 15 = .pointer (some ⟨tb, 0, none⟩) := g15; have g19 : vs 19 = .string C := g19; have g14 : vs 14 = .bool false := g14
                    refine ⟨by simp [Region.wanted, yielded, g14], by clear g14; go_simp, ?_⟩
                    refine (T0.out w2 hf).mono ?_
                    rintro e w3 ⟨v, rfl, hr, hf3⟩
                    obtain ⟨a3, q3, e3⟩ := reads_shape hr
                    exact ⟨_, rfl, ⟨a3, q3, e3, hr⟩, hf3, by intro h; cases h⟩
                  · exact StepN.on (fun vs w2 hf hp => by obtain ⟨g14, -⟩ := hp; have g14 : vs 14 = .bool false := g14; exact ⟨by simp [Region.wanted, yielded, g14], .slice (some ⟨ba, oa, none⟩) na ca, w2, by clear g14; go_simp, rfl, Fr.refl _ _, by intro h; cases h⟩)
                  · exact StepN.on (fun vs w2 hf hp => by obtain ⟨g14, -⟩ := hp; have g14 : vs 14 = .bool false := g14; exact ⟨by simp [Region.wanted, yielded, g14], .int .i64 i, w2, by clear g14; go_simp, rfl, Fr.refl _ _, by intro h; cases h⟩)
                  · exact StepN.on (fun vs w2 hf hp => by obtain ⟨g21, g22, g14, -⟩ := hp; have g21 : vs 21 = .slice (some ⟨ba, oa, none⟩) na ca := g21; have g22 : vs 22 = .int .i64 i := g22; have g14 : vs 14 = .bool false := g14; exact ⟨by simp [Region.wanted, yielded, g14], .pointer (some ⟨ba, oa + i, none⟩), w2, by clear g14; go_simp, rfl, Fr.refl _ _, by intro h; cases h⟩)
                  · exact StepN.on (fun vs w2 hf hp => by obtain ⟨g23, g14, -⟩ := hp; have g23 : vs 23 = .pointer (some ⟨ba, oa + i, none⟩) := g23; have g14 : vs 14 = .bool false := g14; have ce0 := cell_fr0 hf e0; exact ⟨by simp [Region.wanted, yielded, g14], .string U, w2, by clear g14; go_simp, rfl, Fr.refl _ _, by intro h; cases h⟩)
                  · refine StepN.onCall 15 (fun vs => #[vs 20, .string U]) (fun vs w2 hf hp => ?_)
                    obtain ⟨g20, g24, -, g14, -⟩ := hp; obtain ⟨ha, hq, g20, hr9⟩ := g20; have g20 : vs 20 = .slice ha nh hq := g20; have g24 : vs 24 = .string U := g24; have g14 : vs 14 = .bool false := g14
                    refine ⟨by simp [Region.wanted, yielded, g14], by clear g14; go_simp, ?_⟩
                    refine (TA.out w2 _ hr9).mono ?_
                    rintro e w3 ⟨rfl, rfl⟩
                    exact ⟨_, rfl, rfl, Fr.refl _ _, by intro h; cases h⟩
                  · exact StepN.on (fun vs w2 hf hp => by obtain ⟨g25, g14, -⟩ := hp; have g25 : vs 25 = .bool true := g25; have g14 : vs 14 = .bool false := g14; exact ⟨by simp [Region.wanted, yielded, g14], .bool false, w2, by clear g14; go_simp, rfl, Fr.refl _ _, by intro h; cases h⟩)
                  · exact StepN.quiet rfl _ rfl (fun vs w2 hf hp => by obtain ⟨g14, g26, -⟩ := hp; have g14 : vs 14 = .bool false := g14; have g26 : vs 26 = .bool false := g26; go_simp)
                  · exact StepN.quiet rfl _ rfl (fun vs w2 hf hp => by obtain ⟨g27, g25, -⟩ := hp; have g27 : vs 27 = .bool false := g27; have g25 : vs 25 = .bool true := g25; go_simp)
                  · exact StepN.on (fun vs w2 hf hp => by obtain ⟨g28, -⟩ := hp; have g28 : vs 28 = .bool false := g28; exact ⟨by simp [Region.wanted, yielded, g28], .slice sn nn cn, w2, by clear g28; go_simp, rfl, Fr.refl _ _, by intro h; cases h⟩)
                  · exact StepN.on (fun vs w2 hf hp => by obtain ⟨g28, -⟩ := hp; have g28 : vs 28 = .bool false := g28; exact ⟨by simp [Region.wanted, yielded, g28], .slice (some ⟨b4, o4, none⟩) hn c4, w2, by clear g28; go_simp, rfl, Fr.refl _ _, by intro h; cases h⟩)
                  · exact StepN.on (fun vs w2 hf hp => by obtain ⟨g28, -⟩ := hp; have g28 : vs 28 = .bool false := g28; exact ⟨by simp [Region.wanted, yielded, g28], .int .i64 j, w2, by clear g28; go_simp, rfl, Fr.refl _ _, by intro h; cases h⟩)
                  · exact StepN.on (fun vs w2 hf hp => by obtain ⟨g30, g31, g28, -⟩ := hp; have g30 : vs 30 = .slice (some ⟨b4, o4, none⟩) hn c4 := g30; have g31 : vs 31 = .int .i64 j := g31; have g28 : vs 28 = .bool false := g28; exact ⟨by simp [Region.wanted, yielded, g28], .pointer (some ⟨b4, o4 + j, none⟩), w2, by clear g28; go_simp, rfl, Fr.refl _ _, by intro h; cases h⟩)
                  · exact StepN.on (fun vs w2 hf hp => by obtain ⟨g32, g28, -⟩ := hp; have g32 : vs 32 = .pointer (some ⟨b4, o4 + j, none⟩) := g32; have g28 : vs 28 = .bool false := g28; have ce6 := cell_fr0 hf e6; exact ⟨by simp [Region.wanted, yielded, g28], .string C, w2, by clear g28; go_simp, rfl, Fr.refl _ _, by intro h; cases h⟩)
                  · refine StepN.onCall 15 (fun vs => #[.slice sn nn cn, .string C]) (fun vs w2 hf hp => ?_)
                    obtain ⟨g29, g33, g28, -, -⟩ := hp; have g29 : vs 29 = .slice sn nn cn := g29; have g33 : vs 33 = .string C := g33; have g28 : vs 28 = .bool false := g28
                    refine ⟨by simp [Region.wanted, yielded, g28], by clear g28; go_simp, ?_⟩
                    refine (TB.out w2 hf).mono ?_
                    rintro e w3 ⟨rfl, rfl⟩
                    exact ⟨_, rfl, rfl, Fr.refl _ _, by intro h; cases h⟩
                  · exact StepN.on (fun vs w2 hf hp => by obtain ⟨g34, g28, -⟩ := hp; have g34 : vs 34 = .bool true := g34; have g28 : vs 28 = .bool false := g28; exact ⟨by simp [Region.wanted, yielded, g28], .bool false, w2, by clear g28; go_simp, rfl, Fr.refl _ _, by intro h; cases h⟩)
                  · exact StepN.quiet rfl _ rfl (fun vs w2 hf hp => by obtain ⟨g28, g35, -⟩ := hp; have g28 : vs 28 = .bool false := g28; have g35 : vs 35 = .bool false := g35; go_simp)
                  · intro vs w5 hf he _
                    have h36 : vs 36 = .bool false := (he.get 36 (by decide)).1
                    rw [h36]
                    have HFx := hide hf
                    clear he hf h36
                    go_wp2_with fail
                    go_meet
                    case rel => exact ⟨rfl, HFx.out⟩
              case rest =>
                obtain ⟨rfl, hf28⟩ := hcut
                have HFx := hide (HFJ0.out.trans hf28 (fun _ _ h => h))
                clear hf28
                go_wp2_with fail
                go_roundw
                case rel => exact ⟨j + 1, by go_num, by omega, HFx.out⟩
                case measure => simp [intOf]; omega
            · have lj1 : ¬ (j : Int) < (hn : Int) := by omega
              go_wp2_with fail
              go_roundw
              case rel => exact ⟨i + 1, by go_num, by omega, HFJ.out⟩
              case measure => simp [intOf]; omega
      · have jk0 : (0 : Int) ≤ (i : Int) := by omega
        have jk1 : ¬ (i : Int) < (na : Int) := by omega
        have HY := hide HFI.out
        clear HFI hi hilt
        go_wp2_with fail
        go_loopw [12] (fun ii wr => ∃ i : Nat, ii = .int .i64 i ∧ i ≤ nn ∧ Fr (fun _ => False) y wr) (fun ii _ => nn - (intOf ii).toNat)
        case atStart => exact ⟨0, rfl, Nat.zero_le _, HY.out⟩
        case round =>
          obtain ⟨i, rfl, hi, hfi⟩ := hrel
          have HFI := hide hfi
          clear hfi jk0 jk1 HY
          by_cases hilt : i < nn
          · have jk0 : (0 : Int) ≤ (i : Int) := by omega
            have jk1 : (i : Int) < (nn : Int) := by omega
            obtain ⟨C, hc⟩ : ∃ c, ns[i]? = some c := ⟨_, List.getElem?_eq_getElem (by rw [HNN.out]; exact hilt)⟩
            obtain ⟨-, a8, c8, e8, -, -, hnc⟩ := id HRN.out
            cases e8
            obtain ⟨bn, on, rfl, e0'⟩ := hnc i (.string C) (by rw [List.getElem?_map, hc]; rfl)
            have e0 : wr.cell? ⟨bn, on + i, none⟩ = some (.string C) := cell_fr0 HFI.out e0'
            have t1 := holdersD wr X _ tb T (HLK.out.fr0 HFI.out) M HFIT.out (by omega) C (HSZ.out C (List.mem_of_getElem? hc))
            obtain ⟨hs, hhs⟩ : ∃ hs, sortB (T.whos C.data.toList) = hs := ⟨_, rfl⟩
            obtain ⟨nh, hnh⟩ : ∃ nh, hs.length = nh := ⟨_, rfl⟩
            have hnhM : nh ≤ M := by rw [← hnh, ← hhs, (sortB_perm _).length_eq]; exact HFIT.out.2 _
            rw [hhs, hnh] at t1
            have T1 := hide t1
            have HHS := hide hhs
            have HNH := hide hnh
            clear t1 hc hnc e0' hhs hnh
            go_wp2_with fail
            refine T1.out.mono ?_
            rintro e w4 ⟨v4, rfl, ho4, hf4⟩
            have hr4 := Reads.of_own ho4
            obtain ⟨a4, c4, rfl⟩ := own_shape ho4
            have HR4 := hide hr4
            have HF4 := hide (HFI.out.trans hf4 (fun _ _ h => h))
            have EQ := hide (cell_fr0 hf4 e0)
            clear ho4 hr4 hf4 T1 e0
            go_wp2_with fail
            go_loopw [14] (fun ii wr => ∃ j : Nat, ii = .int .i64 j ∧ j ≤ nh ∧ Fr (fun _ => False) w4 wr) (fun ii _ => nh - (intOf ii).toNat)
            case atStart => exact ⟨0, rfl, Nat.zero_le _, Fr.refl _ _⟩
            case round =>
              obtain ⟨j, rfl, hj, hfj⟩ := hrel
              have HFJ := hide (HF4.out.trans hfj (fun _ _ h => h))
              have e0 := cell_fr0 hfj EQ.out
              have HR5 := hide (reads_old HR4.out hfj (fun _ _ h => h))
              have HFJ0 := hide hfj
              clear hfj
              by_cases hjlt : j < nh
              · have lj0 : (0 : Int) ≤ (j : Int) := by omega
                have lj1 : (j : Int) < (nh : Int) := by omega
                obtain ⟨u, hu⟩ : ∃ u, hs[j]? = some u := ⟨_, List.getElem?_eq_getElem (by rw [HNH.out]; exact hjlt)⟩
                obtain ⟨-, a9, c9, e9, -, -, hh5⟩ := id HR5.out
                cases e9
                obtain ⟨b4, o4, rfl, e6'⟩ := hh5 j (encStr u) (by rw [List.getElem?_map, hu]; rfl)
                have hum : u ∈ T.whos C.data.toList := mem_sortB.1 (by rw [HHS.out]; exact List.mem_of_getElem? hu)
                have hua := (HALL.out.mem u).2 ⟨_, hum⟩
                have huh : C.data.toList ∈ heldT T u := (mem_held_iff HOK.out).2 hum
                obtain ⟨U, hUe⟩ : ∃ U : ByteArray, toB u = U := ⟨_, rfl⟩
                have e6 : wr.cell? ⟨b4, o4 + j, none⟩ = some (.string U) := by rw [← hUe]; exact e6'
                obtain ⟨ds, hds⟩ : ∃ ds, heldT T u = ds := ⟨_, rfl⟩
                obtain ⟨nd, hnd⟩ : ∃ nd, ds.length = nd := ⟨_, rfl⟩
                have hcs : nd ≤ 1000000 := by rw [← hnd, ← hds]; exact Nat.le_trans (List.length_filter_le _ _) (by rw [(sortB_perm _).length_eq]; exact Nat.le_trans HFIT.out.1 (by omega))
                have hlk5 := HLK.out.fr0 HFJ.out
                have hcd : U.data.toList = u := by rw [← hUe]
                have hcz : U.size ≤ maxLen := by rw [← hUe]; exact HOK.out.ws _ u hum
                have T0 : Hid (∀ w2, Fr (fun _ => False) wr w2 → Calls Try.prog 14 #[.pointer (some ⟨tb, 0, none⟩), .string U] w2 fun e w' => ∃ v, e = .returned v ∧ Reads w' v nd 1 (ds.map encStr) ∧ Fr (fun _ => False) w2 w') := fun w2 hf => by
                  have h1 := heldD w2 X _ tb T (hlk5.fr0 hf) M HFIT.out (by omega) U hcz
                  rw [hcd, hds, hnd] at h1
                  exact h1.mono (by rintro e w' ⟨v, h1, h2, h3⟩; exact ⟨v, h1, Reads.of_own h2, h3⟩)
                have TA : Hid (∀ (w5 : World) (v5 : Value), Reads w5 v5 nd 1 (ds.map encStr) → Calls Try.prog 15 #[v5, .string C] w5 fun e w' => e = .returned (.bool true) ∧ w' = w5) := fun w5 v5 ho =>
                  has_any w5 v5 (ds.map toB) (by rw [List.length_map, List.map_map, hnd]; exact ho) (by rw [List.length_map, hnd]; exact hcs) C true ⟨fun _ => List.mem_map.2 ⟨C.data.toList, by rw [← hds]; exact huh, toB_data C⟩, fun _ => rfl⟩
                have TB : Hid (∀ w5 : World, Fr (fun _ => False) wr w5 → Calls Try.prog 15 #[.slice sa na ca, .string U] w5 fun e w' => e = .returned (.bool true) ∧ w' = w5) := fun w5 hf =>
                  has_any w5 (.slice sa na ca) (al.map toB) (by rw [List.length_map, List.map_map, HNA.out]; exact reads_old HRA.out (HFJ.out.trans hf (fun _ _ h => h)) (fun _ _ h => h)) (by rw [List.length_map, HNA.out]; omega) U true ⟨fun _ => List.mem_map.2 ⟨u, hua, hUe⟩, fun _ => rfl⟩
                clear hlk5 hcd hcz hcs hum hua huh hUe hu hds hnd e6' hh5
                go_wp2_with fail
                refine wp_region_news [Lft.is (.pointer (some ⟨tb, 0, none⟩)), Lft.is (.slice (some ⟨b4, o4, none⟩) nh c4), Lft.is (.int .i64 j), Lft.is (.pointer (some ⟨b4, o4 + j, none⟩)), Lft.is (.string U), Lft.stay (fun v w' => ∃ a q, v = .slice a nd q ∧ Reads w' v nd 1 (ds.map encStr)) (fun u w1 w2 h g => by obtain ⟨a, q, e, h⟩ := h; exact ⟨a, q, e, reads_old h g (fun _ _ => id)⟩), Lft.is (.slice (some ⟨bn, on, none⟩) nn cn), Lft.is (.int .i64 i), Lft.is (.pointer (some ⟨bn, on + i, none⟩)), Lft.is (.string C), Lft.is (.bool true), Lft.is (.bool false), Lft.is (.bool false), Lft.is (.slice sa na ca), Lft.is (.slice (some ⟨b4, o4, none⟩) nh c4), Lft.is (.int .i64 j), Lft.is (.pointer (some ⟨b4, o4 + j, none⟩)), Lft.is (.string U), Lft.is (.bool true), Lft.is (.bool false), Lft.is (.bool false)] _ (by kernel_rfl) (by kernel_rfl) (fun vs => by simp only [putAll, Act.put, List.setIfInBounds_toArray, List.set_cons_succ, List.set_cons_zero, Nat.zero_add, Nat.reduceAdd]; exact rfl) ⟨?_, ?_, ?_, ?_, ?_, ?_, ?_, ?_, ?_, ?_, ?_, ?_, ?_, ?_, ?_, ?_, ?_, ?_, ?_, ?_, ?_, trivial⟩ ?_
                · exact StepN.quiet rfl _ rfl (fun vs w2 hf hp => by go_simp)
                · exact StepN.quiet rfl _ rfl (fun vs w2 hf hp => by go_simp)
                · exact StepN.quiet rfl _ rfl (fun vs w2 hf hp => by go_simp)
                · exact StepN.quiet rfl _ rfl (fun vs w2 hf hp => by obtain ⟨g1, g2, -⟩ := hp; have g1 : vs 1 = .slice (some ⟨b4, o4, none⟩) nh c4 := g1; have g2 : vs 2 = .int .i64 j := g2; go_simp)
                · exact StepN.quiet rfl _ rfl (fun vs w2 hf hp => by obtain ⟨g3, -⟩ := hp; have g3 : vs 3 = .pointer (some ⟨b4, o4 + j, none⟩) := g3; have ce6 := cell_fr0 hf e6; go_simp)
                · refine StepN.call rfl 14 (fun _ => #[.pointer (some ⟨tb, 0, none⟩), .string U]) (fun vs w2 hf hp => by obtain ⟨g0, g4, -⟩ := hp; have g0 : vs 0 = .pointer (some ⟨tb, 0, none⟩) := g0; have g4 : vs 4 = .string U := g4; go_simp) (fun vs w2 hf hp => ?_)
                  obtain ⟨g0, g4, -⟩ := hp; have g0 : vs 0 = .pointer (some ⟨tb, 0, none⟩) := g0; have g4 : vs 4 = .string U := g4
                  refine (T0.out w2 hf).mono ?_
                  rintro e w3 ⟨v, rfl, hr, hf3⟩
                  obtain ⟨a3, q3, e3⟩ := reads_shape hr
                  exact ⟨_, rfl, ⟨a3, q3, e3, hr⟩, hf3, by intro h; cases h⟩
                · exact StepN.quiet rfl _ rfl (fun vs w2 hf hp => by go_simp)
                · exact StepN.quiet rfl _ rfl (fun vs w2 hf hp => by go_simp)
                · exact StepN.quiet rfl _ rfl (fun vs w2 hf hp => by obtain ⟨g6, g7, -⟩ := hp; have g6 : vs 6 = .slice (some ⟨bn, on, none⟩) nn cn := g6; have g7 : vs 7 = .int .i64 i := g7; go_simp)
                · exact StepN.quiet rfl _ rfl (fun vs w2 hf hp => by obtain ⟨g8, -⟩ := hp; have g8 : vs 8 = .pointer (some ⟨bn, on + i, none⟩) := g8; have ce0 := cell_fr0 hf e0; go_simp)
                · refine StepN.call rfl 15 (fun vs => #[vs 5, .string C]) (fun vs w2 hf hp => by obtain ⟨g5, g9, -, -⟩ := hp; obtain ⟨ha, hq, g5, hr9⟩ := g5; have g5 : vs 5 = .slice ha nd hq := g5; have g9 : vs 9 = .string C := g9; go_simp) (fun vs w2 hf hp => ?_)
                  obtain ⟨g5, g9, -, -⟩ := hp; obtain ⟨ha, hq, g5, hr9⟩ := g5; have g5 : vs 5 = .slice ha nd hq := g5; have g9 : vs 9 = .string C := g9
                  refine (TA.out w2 _ hr9).mono ?_
                  rintro e w3 ⟨rfl, rfl⟩
                  exact ⟨_, rfl, rfl, Fr.refl _ _, by intro h; cases h⟩
                · exact StepN.quiet rfl _ rfl (fun vs w2 hf hp => by obtain ⟨g10, -⟩ := hp; have g10 : vs 10 = .bool true := g10; go_simp)
                · exact StepN.quiet rfl _ rfl (fun vs w2 hf hp => by obtain ⟨g11, g10, -⟩ := hp; have g11 : vs 11 = .bool false := g11; have g10 : vs 10 = .bool true := g10; go_simp)
                · exact StepN.on (fun vs w2 hf hp => by obtain ⟨g12, -⟩ := hp; have g12 : vs 12 = .bool false := g12; exact ⟨by simp [Region.wanted, yielded, g12], .slice sa na ca, w2, by clear g12; go_simp, rfl, Fr.refl _ _, by intro h; cases h⟩)
                · exact StepN.on (fun vs w2 hf hp => by obtain ⟨g12, -⟩ := hp; have g12 : vs 12 = .bool false := g12; exact ⟨by simp [Region.wanted, yielded, g12], .slice (some ⟨b4, o4, none⟩) nh c4, w2, by clear g12; go_simp, rfl, Fr.refl _ _, by intro h; cases h⟩)
                · exact StepN.on (fun vs w2 hf hp => by obtain ⟨g12, -⟩ := hp; have g12 : vs 12 = .bool false := g12; exact ⟨by simp [Region.wanted, yielded, g12], .int .i64 j, w2, by clear g12; go_simp, rfl, Fr.refl _ _, by intro h; cases h⟩)
                · exact StepN.on (fun vs w2 hf hp => by obtain ⟨g14, g15, g12, -⟩ := hp; have g14 : vs 14 = .slice (some ⟨b4, o4, none⟩) nh c4 := g14; have g15 : vs 15 = .int .i64 j := g15; have g12 : vs 12 = .bool false := g12; exact ⟨by simp [Region.wanted, yielded, g12], .pointer (some ⟨b4, o4 + j, none⟩), w2, by clear g12; go_simp, rfl, Fr.refl _ _, by intro h; cases h⟩)
                · exact StepN.on (fun vs w2 hf hp => by obtain ⟨g16, g12, -⟩ := hp; have g16 : vs 16 = .pointer (some ⟨b4, o4 + j, none⟩) := g16; have g12 : vs 12 = .bool false := g12; have ce6 := cell_fr0 hf e6; exact ⟨by simp [Region.wanted, yielded, g12], .string U, w2, by clear g12; go_simp, rfl, Fr.refl _ _, by intro h; cases h⟩)
                · refine StepN.onCall 15 (fun vs => #[.slice sa na ca, .string U]) (fun vs w2 hf hp => ?_)
                  obtain ⟨g13, g17, g12, -, -⟩ := hp; have g13 : vs 13 = .slice sa na ca := g13; have g17 : vs 17 = .string U := g17; have g12 : vs 12 = .bool false := g12
                  refine ⟨by simp [Region.wanted, yielded, g12], by clear g12; go_simp, ?_⟩
                  refine (TB.out w2 hf).mono ?_
                  rintro e w3 ⟨rfl, rfl⟩
                  exact ⟨_, rfl, rfl, Fr.refl _ _, by intro h; cases h⟩
                · exact StepN.on (fun vs w2 hf hp => by obtain ⟨g18, g12, -⟩ := hp; have g18 : vs 18 = .bool true := g18; have g12 : vs 12 = .bool false := g12; exact ⟨by simp [Region.wanted, yielded, g12], .bool false, w2, by clear g12; go_simp, rfl, Fr.refl _ _, by intro h; cases h⟩)
                · exact StepN.quiet rfl _ rfl (fun vs w2 hf hp => by obtain ⟨g12, g19, -⟩ := hp; have g12 : vs 12 = .bool false := g12; have g19 : vs 19 = .bool false := g19; go_simp)
                · intro vs w5 hf he _
                  have h20 : vs 20 = .bool false := (he.get 20 (by decide)).1
                  rw [h20]
                  have HFx := hide (HFJ0.out.trans hf (fun _ _ h => h))
                  clear he hf h20
                  go_wp2_with fail
                  go_roundw
                  case rel => exact ⟨j + 1, by go_num, by omega, HFx.out⟩
                  case measure => simp [intOf]; omega
              · have lj1 : ¬ (j : Int) < (nh : Int) := by omega
                go_wp2_with fail
                go_roundw
                case rel => exact ⟨i + 1, by go_num, by omega, HFJ.out⟩
                case measure => simp [intOf]; omega
          · have jk0 : (0 : Int) ≤ (i : Int) := by omega
            have jk1 : ¬ (i : Int) < (nn : Int) := by omega
            go_wp2_with fail
            refine (known_any _).mono ?_
            rintro e w10 ⟨rfl, hf10⟩
            have HFE := hide ((HF.out.trans HFI.out (fun _ _ h => h.elim)).trans hf10 (fun _ _ h => h.elim))
            clear hf10
            go_wp2_with fail
            go_ret
            exact ⟨rfl, HFE.out.toBelow (Nat.le_refl _) (fun q hq h => by omega)⟩
end Go.Proofs.Ytkboipnfpcngcaa.LocksHeld
