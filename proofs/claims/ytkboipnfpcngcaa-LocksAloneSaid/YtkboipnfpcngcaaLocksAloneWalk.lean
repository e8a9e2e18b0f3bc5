/- LocksAlone's walk. -/
import Derived.Test.YtkboipnfpcngcaaLkAlone
namespace Go.Proofs.Ytkboipnfpcngcaa.LocksAlone
open Go.RowKit Go.Maps Go.Cv
set_option linter.unusedVariables false

/-- What the first loop has: v the names, u the transactions. -/
structure St (w0 w : World) (X : Nat → Prop) (tb k : Nat) (T : LkT) (u v : Value) (ts ns : List ByteArray) : Prop where
  lk : Lkd w X w0.heap.size tb T
  own : Two w X w0.heap.size v ns u ts
  fit : Fits T (6 * k)
  len : ns.length ≤ 6 * k
  tl : ts.length ≤ k
  al : Alone T
  wh : ∀ s t, t ∈ T.whos s → toB t ∈ ts
  sz : ∀ c ∈ ns, c.size ≤ maxLen
  tz : ∀ c ∈ ts, c.size ≤ maxLen
  fr : Fr (fun j => w0.heap.size ≤ j) w0 w
theorem St.take {w0 w wr : World} {X X2 : Nat → Prop} {tb k : Nat} {T : LkT} {u u2 v v2 : Value} {ts ns : List ByteArray} {tx : ByteArray} {L : List WantT} (h : St w0 w X tb k T u v ts ns) (hl : L.length ≤ 6) (hs : ∀ z ∈ L, z.1.size ≤ maxLen) (ht : tx.size ≤ maxLen)
    (JL : Lkd wr X2 w0.heap.size tb (takeS T tx.data.toList L)) (JN : Two wr X2 w0.heap.size v2 (ns ++ L.map (·.1)) u2 (ts ++ [tx])) (JF : Fr (fun j => w0.heap.size ≤ j) w0 wr) : St w0 wr X2 tb (k + 1) (takeS T tx.data.toList L) u2 v2 (ts ++ [tx]) (ns ++ L.map (·.1)) := by
  refine ⟨JL, JN, (fits_takeS h.fit _ L).mono (by omega), ?_, by have := h.tl; simp; omega, alone_takeS h.lk.ok (by simpa using ht) hs h.al, fun s t hst => ?_, fun c hc => ?_, fun c hc => ?_, JF⟩
  · rw [List.length_append, List.length_map]; have := h.len; omega
  · rcases whos_takeS hst with h1 | rfl
    · exact List.mem_append.2 (.inl (h.wh s t h1))
    · exact List.mem_append.2 (.inr (by rw [toB_data]; exact List.mem_cons_self))
  · rcases List.mem_append.1 hc with h1 | h1
    · exact h.sz c h1
    · obtain ⟨x, hx, rfl⟩ := List.mem_map.1 h1
      exact hs x hx
  · rcases List.mem_append.1 hc with h1 | h1
    · exact h.tz c h1
    · rw [List.mem_singleton] at h1; rw [h1]; exact ht

set_option maxRecDepth 100000 in
set_option maxHeartbeats 12800000 in
theorem walk (w : World) (v1 : Value) (l1 : List AskT) (h1 : Reads w v1 l1.length 3 (l1.flatMap acells)) (hg1 : ∀ a ∈ l1, agood w a) (hl1 : l1.length ≤ maxLen) :
    Calls Try.prog 7 #[v1] w fun e w' => e = .returned (.bool true) ∧ Below w.heap.size w w' := by
  obtain ⟨i0, hi0, hz0, hz1, hz2⟩ := info_parts infoStr
  obtain ⟨n1, hn1⟩ : ∃ n, l1.length = n := ⟨_, rfl⟩
  rw [hn1] at h1 hl1
  obtain ⟨-, s1, k1, rfl, -, -, -⟩ := id h1
  have hn9 : (n1 : Int) ≤ 9223372036854775807 := by unfold maxLen at hl1; omega
  have HR := hide h1
  have HN := hide hn1
  have HG := hide hg1
  clear h1 hn1 hg1 hl1
  go_enter Try.func7, Try.ntmps7
  go_wp2_with fail
  refine (newD w).mono ?_
  rintro e w1 ⟨tb, rfl, h, hf⟩
  have H1 := hide h
  have F1 := hide (hf.mono (S' := fun k => w.heap.size ≤ k) (fun _ _ h => h.elim))
  clear h hf
  go_upto_block 0 with fail
  go_cut [4, 5, 6] from 7 to 123 (fun tv nm i wx => ∃ (k : Nat) (X : Nat → Prop) (T : LkT) (ts ns : List ByteArray), k ≤ 40 ∧ Hid (St w wx X tb k T tv nm ts ns))
  case first =>
    go_wp2_with fail
    go_loopw [4, 5, 6] (fun tv nm i wr => ∃ (k : Nat) (X : Nat → Prop) (T : LkT) (ts ns : List ByteArray), i = .int .i64 k ∧ k ≤ n1 ∧ k ≤ 40 ∧ Hid (St w wr X tb k T tv nm ts ns)) (fun _ _ i _ => n1 - (intOf i).toNat)
    case atStart => exact ⟨0, _, emptyT, [], [], rfl, Nat.zero_le _, by omega, ⟨H1.out, ⟨Ns.nil _ _ _, Ns.nil _ _ _, fun k hk => by cases hk⟩, fits0, Nat.le_refl _, Nat.le_refl _, alone_empty, (fun s t h => by cases h), (fun s hs => by cases hs), (fun s hs => by cases hs), F1.out⟩⟩
    case round =>
      obtain ⟨k, X, T, ts, ns, rfl, hk1, hk2, HS⟩ := hrel
      by_cases hgo : k < n1 ∧ k < 40
      · obtain ⟨hg1, hg2⟩ := hgo
        have ik1 : (k : Int) < (n1 : Int) := by omega
        have ik2 : (k : Int) < 40 := by omega
        have ik0 : (0 : Int) ≤ (k : Int) := by omega
        obtain ⟨x, hx⟩ : ∃ x, l1[k]? = some x := ⟨_, List.getElem?_eq_getElem (by have := HN.out; omega)⟩
        obtain ⟨w1', w2', w3', w4', w5'⟩ := HG.out x (List.mem_of_getElem? hx)
        obtain ⟨b0, o0, rfl, hlt0, hcells⟩ := row_cells acells_len HR.out hx (by decide)
        obtain ⟨kd, tx, la, lc, L⟩ := x
        simp only at w1' w2' w3' w4' w5'
        have hbl := HS.out.fr.block b0 hlt0 (by omega)
        have e0 := hcells 0 (.int .i64 kd) rfl wr hbl
        rw [Nat.add_zero] at e0
        have e1 := hcells 1 (.string tx) rfl wr hbl
        have e2 := hcells 2 (.slice la L.length lc) rfl wr hbl
        obtain ⟨xb, hxb⟩ : ∃ xb, wr.heap.size = xb := ⟨_, rfl⟩
        obtain ⟨ll, hll⟩ : ∃ ll, L.length = ll := ⟨_, rfl⟩
        rw [hll] at w3' w5' e2
        have hcap : ll ≤ lc := by obtain ⟨-, a0, c0, e, -, h4, -⟩ := id w3'; cases e; exact h4
        have HRL := hide w3'
        have HSZ := hide w4'
        have HXB := hide hxb
        have HLL := hide hll
        have hl9 : (ll : Int) ≤ 9223372036854775807 := by unfold maxLen at w5'; omega
        have HTX := hide w2'
        clear hx hcells hbl hxb w3' w4' w5' w1' hll w2'
        go_upto_if 36 with fail
        go_cut [] from 37 to 40 (fun wx => ∃ m L2, m ≤ 6 ∧ Hid (Cut w wr wx xb kd tx la lc m L2))
        case first =>
          by_cases h6 : 6 < ll
          · have i6 : (6 : Int) < (ll : Int) := by omega
            go_wp2_with fail
            go_meet
            case rel =>
              have hcut := Cut.mk' w wr kd tx la lc ll 6 L HRL.out HLL.out (by omega) HSZ.out
              rw [HXB.out] at hcut
              exact ⟨_, _, Nat.le_refl _, hcut⟩
          · have i6 : ¬ (6 : Int) < (ll : Int) := by omega
            go_wp2_with fail
            go_meet
            case rel =>
              have hcut := Cut.mk' w wr kd tx la lc ll ll L HRL.out HLL.out (Nat.le_refl _) HSZ.out
              rw [HXB.out] at hcut
              exact ⟨_, _, by omega, hcut⟩
        case rest =>
          obtain ⟨m, L2, hm6, HCUT⟩ := hcut
          rw [HXB.out]
          clear e0 e1 e2 hl9 HRL HSZ HLL hcap
          obtain ⟨wd, hwd⟩ : ∃ wd, wc = wd := ⟨_, rfl⟩
          rw [hwd] at HCUT
          rw [hwd]
          clear hwd
          have hbd := HCUT.out.blk
          have z0 : wd.cell? ⟨xb, 0, none⟩ = some (.int .i64 kd) := by rw [cell_of_block hbd]; rfl
          have z1 : wd.cell? ⟨xb, 1, none⟩ = some (.string tx) := by rw [cell_of_block hbd]; rfl
          have t1 := heldD wd X _ tb T (HS.out.lk.fr0 HCUT.out.fr) _ HS.out.fit (by omega) tx HTX.out
          obtain ⟨hd, hhd⟩ : ∃ hd, heldT T tx.data.toList = hd := ⟨_, rfl⟩
          rw [hhd] at t1
          have T1 := hide t1
          have HHD := hide hhd
          clear t1 hbd hhd
          go_wp2_with fail
          refine T1.out.mono ?_
          rintro e w8 ⟨v8, rfl, ho8, hf8⟩
          obtain ⟨a8, c8, rfl⟩ := own_shape ho8
          have hfd := HCUT.out.fr.trans hf8 (fun _ _ h => h)
          have hbd := (hf8.block xb (lt_of_block HCUT.out.blk) (fun h => h)).trans HCUT.out.blk
          have z0 : w8.cell? ⟨xb, 0, none⟩ = some (.int .i64 kd) := by rw [cell_of_block hbd]; rfl
          have z1 : w8.cell? ⟨xb, 1, none⟩ = some (.string tx) := by rw [cell_of_block hbd]; rfl
          have z2 : w8.cell? ⟨xb, 2, none⟩ = some (.slice la m lc) := by rw [cell_of_block hbd]; rfl
          have HLD := hide (HS.out.lk.also hfd)
          have HNS := hide ((HS.out.own.fr0 hfd).mono (X' := fun j => X j ∨ (wr.heap.size ≤ j ∧ j < w8.heap.size)) (fun _ h => .inl h))
          have hxX : X xb ∨ (wr.heap.size ≤ xb ∧ xb < w8.heap.size) := .inr ⟨by rw [HXB.out]; exact Nat.le_refl _, lt_of_block hbd⟩
          have hrd8 := Reads.of_own ho8
          have hax : ∀ q, foot (.slice a8 hd.length c8) = some q → X q ∨ (wr.heap.size ≤ q ∧ q < w8.heap.size) := fun q hq => by
            obtain ⟨h1, h2⟩ := ownsRow_foot ho8 hq
            exact .inr ⟨Nat.le_trans HCUT.out.fr.size h1, h2⟩
          obtain ⟨X1, hX1⟩ : ∃ X1, (fun j => X j ∨ (wr.heap.size ≤ j ∧ j < w8.heap.size)) = X1 := ⟨_, rfl⟩
          have hxX1 : X1 xb := by rw [← hX1]; exact hxX
          have hax1 : ∀ q, foot (.slice a8 hd.length c8) = some q → X1 q := fun q hq => by rw [← hX1]; exact hax q hq
          rw [hX1] at HLD HNS
          have HFD := hide (HS.out.fr.trans hfd (fun _ _ h => h.elim))
          have HX := hide hxX1
          have HAX := hide hax1
          have HR8 := hide hrd8
          have HB8 := hide hbd
          clear hbd hxX hX1 hxX1 hax hax1 hrd8 ho8 hf8 hfd T1
          go_upto_if 47 with fail
          go_cut [4, 5, 9, 10] from 47 to 89 (fun tv nm _ _ wx => ∃ (X' : Nat → Prop) (T' : LkT) (ts' ns' : List ByteArray), Hid (St w wx X' tb (k + 1) T' tv nm ts' ns'))
          case first =>
            cases hkd : kd == 1 with
            | true =>
              have t1 := takeD2 w8 X1 _ tb T HLD.out _ HS.out.fit (by omega) HFD.out.size tx HTX.out (.slice la m lc) L2 (by rw [HCUT.out.len]; exact reads_old HCUT.out.rd HFD.out (fun j hj h => by omega)) (fun h0 b hb => .inr (reads_gone HCUT.out.rd (by decide) (by rw [← HCUT.out.len]; exact h0) b hb)) (by rw [HCUT.out.len]; omega) HCUT.out.sz
              obtain ⟨E, hE⟩ : ∃ E, takeE T tx.data.toList L2 = E := ⟨_, rfl⟩
              obtain ⟨T2, hT2⟩ : ∃ T2, takeS T tx.data.toList L2 = T2 := ⟨_, rfl⟩
              have hET : E ≠ 0 → T2 = T := fun h => by rw [← hT2]; unfold takeS; rw [if_neg (by rw [hE]; exact h)]
              rw [hE, hT2] at t1
              have T1 := hide t1
              have HET := hide hET
              have HT2 := hide hT2
              clear t1 hE hT2 hET
              go_wp2_with fail
              refine T1.out.mono ?_
              rintro e w2 ⟨rfl, hl, hf⟩
              have H2 := hide hl
              have N2 := hide (HNS.out.own hf)
              have F2 := hide (HFD.out.trans (hf.mono (S' := fun k => w.heap.size ≤ k) (fun _ _ h => h.1)) (fun _ _ h => h))
              have HB2 := hide ((hf.block xb (lt_of_block HB8.out) (fun h => h.2 HX.out)).trans HB8.out)
              have HR2 := hide (HR8.out.fr hf (fun a n c e h => by cases e; exact h.2 (HAX.out _ rfl)))
              have hcap2 : m ≤ lc := by obtain ⟨-, a0, c0, e, -, h4, -⟩ := id HCUT.out.rd; cases e; exact h4
              have HL2 := hide HCUT.out.len
              have HRD := hide HCUT.out.rd
              have HSZ2 := hide HCUT.out.sz
              have hbd := HB2.out
              have z1 : w2.cell? ⟨xb, 1, none⟩ = some (.string tx) := by rw [cell_of_block hbd]; rfl
              clear hl hf T1 HCUT z0 z2 HLD HNS HFD HR8 HB8 hbd
              go_upto_region 14 with fail
              go_cut [64] from 54 to 63 (fun v wx => v = .bool false ∧ Fr (fun _ => False) w2 wx)
              case first =>
                by_cases hE0 : E = 0
                · have hE1 : (E != 0) = false := by simp [hE0]
                  clear hE0
                  go_wp2_with fail
                  go_meet
                  case rel => exact ⟨rfl, Fr.refl _ _⟩
                · have hE1 : (E != 0) = true := by simp [hE0]
                  have hT := HET.out hE0
                  have hl2 := H2.out
                  rw [hT] at hl2
                  have t1 := heldD w2 X1 _ tb T hl2 _ HS.out.fit (by omega) tx HTX.out
                  rw [HHD.out] at t1
                  have T1 := hide t1
                  clear hE0 t1 hl2 hT
                  go_wp2_with fail
                  refine T1.out.mono ?_
                  rintro e w3 ⟨v9, rfl, ho9, hf9⟩
                  have hdl : hd.length ≤ 1000000 := by rw [← HHD.out]; exact Nat.le_trans (List.length_filter_le _ _) (by rw [(sortB_perm _).length_eq]; have := HS.out.fit.1; omega)
                  have t1 := texts_any w3 (.slice a8 hd.length c8) v9 (hd.map toB) (hd.map toB) (by rw [List.length_map, List.map_map]; exact reads_old HR2.out hf9 (fun _ _ h => h)) (by rw [List.length_map, List.map_map]; exact Reads.of_own ho9) (by rw [List.length_map]; exact Nat.le_trans hdl (by decide))
                  rw [show decide (hd.map toB = hd.map toB) = true by simp] at t1
                  obtain ⟨a9, c9, rfl⟩ := own_shape ho9
                  have T2' := hide t1
                  have HF9 := hide hf9
                  clear t1 ho9 hf9 hdl
                  go_wp2_with fail
                  refine T2'.out.mono ?_
                  rintro e w4 ⟨rfl, mq, rfl⟩
                  have HF10 := hide (HF9.out.drewN mq)
                  go_wp2_with fail
                  go_meet
                  case rel => exact ⟨rfl, HF10.out⟩
              case rest =>
                obtain ⟨rfl, hf14⟩ := hcut
                obtain ⟨w5, hw5⟩ : ∃ w5, wc = w5 := ⟨_, rfl⟩
                rw [hw5] at hf14
                rw [hw5]
                clear hw5
                have hbd := (hf14.block xb (lt_of_block HB2.out) (fun h => h)).trans HB2.out
                have z1 : w5.cell? ⟨xb, 1, none⟩ = some (.string tx) := by rw [cell_of_block hbd]; rfl
                have H5 := hide (H2.out.fr0 hf14)
                have N5 := hide (N2.out.fr0 hf14)
                have F5 := hide (F2.out.trans hf14 (fun _ _ h => h.elim))
                have HB5 := hide hbd
                have hxs : xb < w5.heap.size := lt_of_block hbd
                have htl := HS.out.tl
                obtain ⟨fl, hfl⟩ : ∃ fl, ts.length = fl := ⟨_, rfl⟩
                rw [hfl] at htl
                have hal : Fr (fun _ => False) w5 (w5.alloc (.cells #[.string tx] 9)) := Fr.alloc _ _ _
                have HO3 := hide (N5.out.fr0 hal).b.1
                rw [hfl] at HO3
                have HR3 := hide (Reads.built w5 [.string tx] 9 : Reads (w5.alloc (.cells #[.string tx] 9)) (.slice (some ⟨w5.heap.size, 0, none⟩) 1 1) 1 1 [.string tx])
                have b1 : fl + 1 ≤ maxLen := by unfold maxLen; omega
                have b2' : (fl + 1) * 16 ≤ 140737488355328 := by omega
                have b3 : w.heap.size ≤ (w5.alloc (.cells #[.string tx] 9)).heap.size := by have := F5.out.size; have := hal.size; omega
                have HAL := hide hal
                have HFL := hide hfl
                have hxo : u4 ≠ .slice none 0 0 ∨ True := .inr trivial
                have HOX : Hid (∀ q, u4.ownBlock = some q → q ≠ xb) := fun q hq => by have := (HS.out.own.b.1.lt q hq).2; have := HXB.out; omega
                have HOY : Hid (∀ q, u5.ownBlock = some q → q ≠ xb) := fun q hq => by have := (HS.out.own.a.1.lt q hq).2; have := HXB.out; omega
                clear hbd hf14 hal hfl hxo H2 N2 F2 HB2 HR2
                obtain ⟨a5, c5, hshape⟩ := own_shape HO3.out
                subst hshape
                go_wp2_with (at_builtin; refine wpList_append_reads _ rfl _ _ _ rfl w.heap.size 9 i0 _ 1 16 Try.underlying30 hi0 hz0 hz1 hz2 sizeStr (by decide) _ fl _ rfl HO3.out _ 1 [.string tx] rfl HR3.out (by intro u hu; simp at hu; subst hu; rfl) b1 b2' b3 ?_; intro v3 w3 hown3 hgrow hat; have HO4 := hide hown3; have HG4 := hide hgrow; have HAT := hide hat; clear hown3 hgrow hat)
                have hmore := Two.more H5.out N5.out.flip HAL.out (by rw [HFL.out]; exact HO4.out) HG4.out HAT.out
                obtain ⟨q1, q2⟩ := hmore.2.2.2 xb hxs (fun e => HOX.out xb e rfl)
                have HB6 := hide (q1.trans HB5.out)
                have H6 := hide hmore.1
                have N6 := hide hmore.2.1.flip
                have F6 := hide (F5.out.trans hmore.2.2.1 (fun q _ h => h.2))
                have z2 : w3.cell? ⟨xb, 2, none⟩ = some (.slice la m lc) := by rw [cell_of_block HB6.out]; rfl
                have HX6 : Hid (X1 xb ∨ (w5.heap.size ≤ xb ∧ xb < w3.heap.size)) := .inl HX.out
                clear hmore q1 q2 HO3 HO4 HG4 HAT HR3 HAL HFL HB5 H5 N5 F5 b1 b2' b3 hxs z1
                go_wp2_with fail
                go_loopw [5, 10] (fun nm jj wr => ∃ (j : Nat) (X2 : Nat → Prop) (ns2 : List ByteArray), jj = .int .i64 j ∧ j ≤ m ∧ Hid (Lkd wr X2 w.heap.size tb T2) ∧ Hid (Two wr X2 w.heap.size nm ns2 v3 (ts ++ [tx])) ∧ Hid (ns2 = ns ++ (L2.take j).map (·.1)) ∧ Hid (X2 xb) ∧ Hid (wr.heap[xb]? = some (.cells #[.int .i64 kd, .string tx, .slice la m lc] 36 (0, 0))) ∧ Hid (nm.ownBlock ≠ some xb) ∧ Hid (Fr (fun k => w.heap.size ≤ k) w wr)) (fun _ jj _ => m - (intOf jj).toNat)
                case atStart => exact ⟨0, _, ns, rfl, Nat.zero_le _, H6.out, N6.out, hide (by simp), HX6.out, HB6.out, (fun e => HOY.out _ e rfl), F6.out⟩
                case round =>
                  obtain ⟨j, X2, ns2, rfl, hj, JL, JN, JE, JX, JB, JO, JF⟩ := hrel
                  have z2 : wr.cell? ⟨xb, 2, none⟩ = some (.slice la m lc) := by rw [cell_of_block JB.out]; rfl
                  by_cases hjlt : j < m
                  · have jk0 : (0 : Int) ≤ (j : Int) := by omega
                    have jk1 : (j : Int) < (m : Int) := by omega
                    obtain ⟨x, hx⟩ : ∃ x, L2[j]? = some x := ⟨_, List.getElem?_eq_getElem (by rw [HL2.out]; exact hjlt)⟩
                    obtain ⟨b2, o2, rfl, hlt2, hcells⟩ := row_cells wcell_len HRD.out hx (by decide)
                    obtain ⟨c, cb⟩ := x
                    have e0 := hcells 0 (.string c) rfl wr (JF.out.block b2 hlt2 (by omega))
                    rw [Nat.add_zero] at e0
                    have hn2 : ns2.length ≤ 300 := by
                      rw [JE.out, List.length_append, List.length_map]
                      have := List.length_take_le j L2
                      have := HS.out.len
                      have := HL2.out
                      omega
                    have htk : ns ++ (L2.take (j + 1)).map (·.1) = ns2 ++ [c] := by rw [List.take_add_one, hx, JE.out]; simp
                    have HTK := hide htk
                    obtain ⟨fl, hfl⟩ : ∃ fl, ns2.length = fl := ⟨_, rfl⟩
                    rw [hfl] at hn2
                    have hal : Fr (fun _ => False) wr (wr.alloc (.cells #[.string c] 9)) := Fr.alloc _ _ _
                    have HO3 := hide (JN.out.fr0 hal).a.1
                    rw [hfl] at HO3
                    have HR3 := hide (Reads.built wr [.string c] 9 : Reads (wr.alloc (.cells #[.string c] 9)) (.slice (some ⟨wr.heap.size, 0, none⟩) 1 1) 1 1 [.string c])
                    have b1 : fl + 1 ≤ maxLen := by unfold maxLen; omega
                    have b2' : (fl + 1) * 16 ≤ 140737488355328 := by omega
                    have b3 : w.heap.size ≤ (wr.alloc (.cells #[.string c] 9)).heap.size := by have := JF.out.size; have := hal.size; omega
                    have HAL := hide hal
                    have HFL := hide hfl
                    clear hx hcells htk hal hfl hlt2
                    obtain ⟨a6, c6, hshape⟩ := own_shape HO3.out
                    subst hshape
                    go_wp2_with (at_builtin; refine wpList_append_reads _ rfl _ _ _ rfl w.heap.size 9 i0 _ 1 16 Try.underlying30 hi0 hz0 hz1 hz2 sizeStr (by decide) _ fl _ rfl HO3.out _ 1 [.string c] rfl HR3.out (by intro u hu; simp at hu; subst hu; rfl) b1 b2' b3 ?_; intro v6 w6 hown3 hgrow hat; have HO4 := hide hown3; have HG4 := hide hgrow; have HAT := hide hat; clear hown3 hgrow hat)
                    have hmore := Two.more JL.out JN.out HAL.out (by rw [HFL.out]; exact HO4.out) HG4.out HAT.out
                    have hq3 := hmore.2.2.2 xb (lt_of_block JB.out) JO.out
                    have HQ3 := hide (hq3.1.trans JB.out)
                    have HO5 := hide hq3.2
                    clear hq3
                    have HM := hide hmore
                    clear hmore HO3 HO4 HG4 HAT HR3
                    go_roundw
                    case rel => exact ⟨j + 1, _, _, by go_num, by omega, HM.out.1, HM.out.2.1, HTK.out.symm, .inl JX.out, HQ3.out, HO5.out, JF.out.trans HM.out.2.2.1 (fun q _ h => h.2)⟩
                    case measure => simp [intOf]; omega
                  · have jk1 : ¬ (j : Int) < (m : Int) := by omega
                    have hjm : j = m := by omega
                    have hst : St w wr X2 tb (k + 1) T2 v3 u5 (ts ++ [tx]) ns2 := by
                      rw [JE.out, hjm, List.take_of_length_le (by rw [HL2.out]; exact Nat.le_refl _), ← HT2.out]
                      refine HS.out.take (by rw [HL2.out]; exact hm6) HSZ2.out HTX.out (by rw [HT2.out]; exact JL.out) ?_ JF.out
                      have := JN.out
                      rw [JE.out, hjm, List.take_of_length_le (by rw [HL2.out]; exact Nat.le_refl _)] at this
                      exact this
                    have HST := hide hst
                    clear hst hjm
                    go_wp2_with fail
                    go_meet
                    case rel => exact ⟨_, _, _, _, HST.out⟩
            | false =>
              have t1 := freeD w8 X1 _ tb T HLD.out _ HS.out.fit (by omega) tx HTX.out
              have T1 := hide t1
              clear t1
              go_wp2_with fail
              refine T1.out.mono ?_
              rintro e w2 ⟨rfl, hl, hf⟩
              have hok := HLD.out.ok
              have hst : St w w2 X1 tb (k + 1) (freeT T tx.data.toList) u4 u5 ts ns :=
                ⟨hl, HNS.out.own hf, (fits_free HS.out.fit _).mono (by omega), by have := HS.out.len; omega, by have := HS.out.tl; omega, alone_free _ HS.out.al, fun s t h => HS.out.wh s t (whos_free hok h).1, HS.out.sz, HS.out.tz,
                  HFD.out.trans (hf.mono (S' := fun k => w.heap.size ≤ k) (fun _ _ h => h.1)) (fun _ _ h => h)⟩
              have HST := hide hst
              clear hl hf T1 hst hok
              go_wp2_with fail
              go_meet
              case rel => exact ⟨_, _, _, _, HST.out⟩
          case rest =>
            obtain ⟨X', T', ts', ns', HST⟩ := hcut
            obtain ⟨wn, hwn⟩ : ∃ wn, wc = wn := ⟨_, rfl⟩
            rw [hwn] at HST
            rw [hwn]
            clear hwn HLD HNS HFD HX HAX HR8 HB8 z0 z1 z2 HCUT HHD HS
            obtain ⟨nn, hnn⟩ : ∃ nn, ns'.length = nn := ⟨_, rfl⟩
            have hrn := HST.out.own.a.reads
            rw [hnn] at hrn
            obtain ⟨-, sn, cn, hsh, -, -, hnc⟩ := id hrn
            subst hsh
            have hnn9 : nn ≤ 240 := by have := HST.out.len; omega
            have HNN := hide hnn
            have HNC := hide hnc
            clear hrn hnc hnn
            go_wp2_with fail
            go_loopw [11] (fun ii wr => ∃ i : Nat, ii = .int .i64 i ∧ i ≤ nn ∧ Fr (fun _ => False) wn wr) (fun ii _ => nn - (intOf ii).toNat)
            case atStart => exact ⟨0, rfl, Nat.zero_le _, Fr.refl _ _⟩
            case round =>
              obtain ⟨i, rfl, hi, hfi⟩ := hrel
              by_cases hilt : i < nn
              · have jk0 : (0 : Int) ≤ (i : Int) := by omega
                have jk1 : (i : Int) < (nn : Int) := by omega
                obtain ⟨C, hc⟩ : ∃ c, ns'[i]? = some c := ⟨_, List.getElem?_eq_getElem (by rw [HNN.out]; exact hilt)⟩
                obtain ⟨bn, on, rfl, e0'⟩ := HNC.out i (.string C) (by rw [List.getElem?_map, hc]; rfl)
                have e0 : wr.cell? ⟨bn, on + i, none⟩ = some (.string C) := cell_fr0 hfi e0'
                have hlk := HST.out.lk.fr0 hfi
                have hcz := HST.out.sz C (List.mem_of_getElem? hc)
                have t1 := writerD wr X' _ tb T' hlk _ HST.out.fit (by omega) C hcz
                have HLK := hide hlk
                have HFI := hide hfi
                have HCZ := hide hcz
                clear hc e0' hlk hfi hcz
                cases hwr : writerT T' C.data.toList with
                | none =>
                  rw [hwr] at t1
                  have t1 : Calls _ _ _ wr fun e w' => e = .returned (.tuple #[.string ⟨#[]⟩, .bool false]) ∧ _ := t1
                  have T1 := hide t1
                  clear t1 hwr
                  go_wp2_with fail
                  refine T1.out.mono ?_
                  rintro e w2 ⟨rfl, hf2⟩
                  have e0 := cell_fr0 hf2 e0
                  have t1 := holdersD w2 X' _ tb T' (HLK.out.fr0 hf2) _ HST.out.fit (by omega) C HCZ.out
                  have T2' := hide t1
                  have HF2 := hide (HFI.out.trans hf2 (fun _ _ h => h))
                  clear t1 hf2 T1
                  go_wp2_with fail
                  refine T2'.out.mono ?_
                  rintro e w3 ⟨v3, rfl, ho3, hf3⟩
                  have HF3 := hide (HF2.out.trans hf3 (fun _ _ h => h))
                  clear ho3 hf3
                  go_wp2_with fail
                  go_roundw
                  case rel => exact ⟨i + 1, by go_num, by omega, HF3.out⟩
                  case measure => simp [intOf]; omega
                | some u =>
                  have hone := alone_one HST.out.lk.ok HST.out.al hwr
                  rw [hwr] at t1
                  obtain ⟨U, hUe⟩ : ∃ U : ByteArray, toB u = U := ⟨_, rfl⟩
                  have t1 : Calls _ _ _ wr fun e w' => e = .returned (.tuple #[.string (toB u), .bool true]) ∧ _ := t1
                  rw [hUe] at t1
                  have T1 := hide t1
                  have HONE := hide hone
                  have HUE := hide hUe
                  clear t1 hwr hone hUe
                  go_wp2_with fail
                  refine T1.out.mono ?_
                  rintro e w2 ⟨rfl, hf2⟩
                  have e0 := cell_fr0 hf2 e0
                  have t1 := holdersD w2 X' _ tb T' (HLK.out.fr0 hf2) _ HST.out.fit (by omega) C HCZ.out
                  rw [HONE.out] at t1
                  have T2' := hide t1
                  have HF2 := hide (HFI.out.trans hf2 (fun _ _ h => h))
                  clear t1 hf2 T1
                  go_wp2_with fail
                  refine T2'.out.mono ?_
                  rintro e w3 ⟨v3, rfl, ho3, hf3⟩
                  have hr3 := Reads.of_own ho3
                  obtain ⟨-, a3, c3, rfl, -, -, hc3⟩ := id hr3
                  obtain ⟨b3, o3, rfl, e3⟩ := hc3 0 (encStr u) rfl
                  rw [Nat.add_zero, show encStr u = .string U by rw [← HUE.out]] at e3
                  have hUU : (U.toList != U.toList) = false := by simp
                  have HF3 := hide (HF2.out.trans hf3 (fun _ _ h => h))
                  clear ho3 hf3 hr3 hc3
                  go_wp2_with fail
                  go_roundw
                  case rel => exact ⟨i + 1, by go_num, by omega, HF3.out⟩
                  case measure => simp [intOf]; omega
              · have jk0 : (0 : Int) ≤ (i : Int) := by omega
                have jk1 : ¬ (i : Int) < (nn : Int) := by omega
                have hst : St w wr X' tb (k + 1) T' u4 (.slice sn nn cn) ts' ns' :=
                  ⟨HST.out.lk.fr0 hfi, HST.out.own.fr0 hfi, HST.out.fit, HST.out.len, HST.out.tl, HST.out.al, HST.out.wh, HST.out.sz, HST.out.tz, HST.out.fr.trans hfi (fun _ _ h => h.elim)⟩
                have HST2 := hide hst
                clear hst hfi
                go_wp2_with fail
                go_roundw
                case rel => exact ⟨k + 1, X', T', ts', ns', by go_num, by omega, by omega, HST2.out⟩
                case measure => simp [intOf]; omega
      · have hex : (k : Int) < (n1 : Int) ∧ ¬ (k : Int) < 40 ∨ ¬ (k : Int) < (n1 : Int) := by omega
        have ik0 : (0 : Int) ≤ (k : Int) := by omega
        clear hgo
        rcases hex with ⟨ik1, ik2⟩ | ik1
        all_goals
          go_wp2_with fail
          go_meet
          case rel => exact ⟨k, X, T, ts, ns, hk2, HS.out⟩
  case rest =>
    obtain ⟨k, X, T, ts, ns, hk2, HS⟩ := hcut
    obtain ⟨wa, hwa⟩ : ∃ wa, wc = wa := ⟨_, rfl⟩
    rw [hwa] at HS
    rw [hwa]
    obtain ⟨nt, hnt⟩ : ∃ nt, ts.length = nt := ⟨_, rfl⟩
    have hrt := HS.out.own.b.reads
    rw [hnt] at hrt
    obtain ⟨-, st, ct, hsh, -, -, -⟩ := id hrt
    subst hsh
    have hnt9 : nt ≤ 40 := by have := HS.out.tl; omega
    obtain ⟨M, hM⟩ : ∃ M, 6 * k = M := ⟨_, rfl⟩
    have hM2 : M ≤ 240 := by omega
    have hfit := HS.out.fit
    rw [hM] at hfit
    have HFIT := hide hfit
    have HNT := hide hnt
    have HL := hide HS.out.lk
    have HN1 := hide HS.out.own.b
    have HWH := hide HS.out.wh
    have HTZ := hide HS.out.tz
    have HF := hide HS.out.fr
    clear hfit hnt hM hrt hwa HS H1 F1 HR HG HN
    go_wp2_with fail
    go_loopw [15] (fun ii wr => ∃ (i : Nat) (T' : LkT), ii = .int .i64 i ∧ i ≤ nt ∧ Hid (Lkd wr X w.heap.size tb T') ∧ Hid (Ns wr X w.heap.size (.slice st nt ct) ts) ∧ Hid (Fits T' M) ∧ Hid (∀ s t, t ∈ T'.whos s → toB t ∈ ts.drop i) ∧ Hid (Fr (fun q => w.heap.size ≤ q) w wr)) (fun ii _ => nt - (intOf ii).toNat)
    case atStart => exact ⟨0, T, rfl, Nat.zero_le _, HL.out, HN1.out, HFIT.out, HWH.out, HF.out⟩
    case round =>
      obtain ⟨i, T', rfl, hi, JL, JN, JF, JW, JFr⟩ := hrel
      by_cases hilt : i < nt
      · have jk0 : (0 : Int) ≤ (i : Int) := by omega
        have jk1 : (i : Int) < (nt : Int) := by omega
        obtain ⟨C, hc⟩ : ∃ c, ts[i]? = some c := ⟨_, List.getElem?_eq_getElem (by rw [HNT.out]; exact hilt)⟩
        have hrd := JN.out.reads
        obtain ⟨-, a8, c8, e8, -, -, hnc⟩ := id hrd
        rw [HNT.out] at e8
        cases e8
        obtain ⟨bn, on, rfl, e0⟩ := hnc i (.string C) (by rw [List.getElem?_map, hc]; rfl)
        have t1 := freeD wr X _ tb T' JL.out M JF.out (by omega) C (HTZ.out C (List.mem_of_getElem? hc))
        have hok := JL.out.ok
        have hwh : ∀ s t, t ∈ (freeT T' C.data.toList).whos s → toB t ∈ ts.drop (i + 1) := fun s t ht => by
          obtain ⟨h1, h2⟩ := whos_free hok ht
          have h3 := JW.out s t h1
          have h4 : ts.drop i = C :: ts.drop (i + 1) := by
            obtain ⟨h5, rfl⟩ := List.getElem?_eq_some_iff.1 hc
            exact List.drop_eq_getElem_cons h5
          rw [h4] at h3
          rcases List.mem_cons.1 h3 with h5 | h5
          · exact absurd (by rw [← h5]) h2
          · exact h5
        have T1 := hide t1
        have HWH2 := hide hwh
        clear t1 hok hwh hc hrd hnc
        go_wp2_with fail
        refine T1.out.mono ?_
        rintro e w2 ⟨rfl, hl, hf⟩
        have HL2 := hide hl
        have HN2 := hide (JN.out.own hf)
        have HF2 := hide (JFr.out.trans (hf.mono (S' := fun k => w.heap.size ≤ k) (fun _ _ h => h.1)) (fun _ _ h => h))
        clear hl hf
        go_wp2_with fail
        go_roundw
        case rel => exact ⟨i + 1, _, by go_num, by omega, HL2.out, HN2.out, fits_free JF.out _, HWH2.out, HF2.out⟩
        case measure => simp [intOf]; omega
      · have jk0 : (0 : Int) ≤ (i : Int) := by omega
        have jk1 : ¬ (i : Int) < (nt : Int) := by omega
        have t1 := allD wr X _ tb T' JL.out M JF.out (by omega)
        have T1 := hide t1
        have hno : ∀ s t, t ∉ T'.whos s := fun s t ht => by
          have := JW.out s t ht
          rw [List.drop_of_length_le (by rw [HNT.out]; omega)] at this
          cases this
        have HNO := hide hno
        clear t1 hno
        go_wp2_with fail
        refine T1.out.mono ?_
        rintro e y ⟨va, al, rfl, hall, ho, hf⟩
        have hal : al = [] := List.eq_nil_iff_forall_not_mem.2 (fun t ht => by
          obtain ⟨s, hs⟩ := (hall.mem t).1 ht
          exact HNO.out s t hs)
        subst hal
        obtain ⟨sa, ca, rfl⟩ := own_shape ho
        have HFY := hide (JFr.out.trans hf (fun _ _ h => h.elim))
        clear ho hf hall
        go_wp2_with fail
        refine (known_any _).mono ?_
        rintro e w10 ⟨rfl, hf10⟩
        have HFE := hide (HFY.out.trans hf10 (fun _ _ h => h.elim))
        clear hf10
        go_wp2_with fail
        go_ret
        exact ⟨rfl, HFE.out.toBelow (Nat.le_refl _) (fun q hq h => by omega)⟩
end Go.Proofs.Ytkboipnfpcngcaa.LocksAlone
