/- LocksPlays's walk. -/
import Derived.Test.YtkboipnfpcngcaaRefLk3
namespace Go.Proofs.Ytkboipnfpcngcaa.LocksPlays
open Go.RowKit Go.Maps Go.Cv
set_option linter.unusedVariables false

theorem texts_same (w : World) (v1 v2 : Value) (l : List Bs) (n : Nat) (hn : l.length = n) (h1 : Reads w v1 n 1 (l.map encStr)) (h2 : Reads w v2 n 1 (l.map encStr)) (hb : n ≤ 1000000) :
    Calls Try.prog 17 #[v1, v2] w fun e w' => e = .returned (.bool true) ∧ Fr (fun _ => False) w w' := by
  have t1 := texts_any w v1 v2 (l.map toB) (l.map toB) (by rw [List.length_map, List.map_map, hn]; exact h1) (by rw [List.length_map, List.map_map, hn]; exact h2) (by rw [List.length_map, hn]; exact Nat.le_trans hb (by decide))
  rw [show decide (l.map toB = l.map toB) = true by simp] at t1
  refine t1.mono ?_
  rintro e w' ⟨rfl, m, rfl⟩
  exact ⟨rfl, (Fr.refl _ _).drewN m⟩

/-- Both tables. -/
structure St (w0 w : World) (X : Nat → Prop) (tb rb k : Nat) (T : LkT) (u : Value) (R : List LkR) : Prop where
  lk : Lkd w X w0.heap.size tb T
  rk : Rk w rb u R
  xr : X rb
  xu : ∀ q, u.ownBlock = some q → X q
  br : w0.heap.size ≤ rb
  fit : Fits T (8 * k)
  rl : R.length ≤ 8 * k
  al : Alone T
  sim : Sim T R
  fr : Fr (fun j => w0.heap.size ≤ j) w0 w
theorem St.fr0 {w0 w w' : World} {X : Nat → Prop} {tb rb k : Nat} {T : LkT} {u : Value} {R : List LkR} (h : St w0 w X tb rb k T u R) (g : Fr (fun _ => False) w w') : St w0 w' X tb rb k T u R :=
  ⟨h.lk.fr0 g, h.rk.fr0 g, h.xr, h.xu, h.br, h.fit, h.rl, h.al, h.sim, h.fr.trans g (fun _ _ h => h.elim)⟩
theorem St.turn {w0 w y1 y2 y3 : World} {X : Nat → Prop} {tb rb k : Nat} {T T' : LkT} {u : Value} {R R' : List LkR} (h : St w0 w X tb rb k T u R) (h1 : Lkd y1 X w0.heap.size tb T') (f1 : Fr (Own X w0.heap.size) w y1) (f2 : Fr (fun _ => False) y1 y2) (h3 : RTd y2 y3 rb u R')
    (hfit : Fits T' (8 * (k + 1))) (hrl : R'.length ≤ 8 * (k + 1)) (ha : Alone T') (hs : Sim T' R') : ∃ X' u', St w0 y3 X' tb rb (k + 1) T' u' R' ∧ (∀ q, X q → X' q) ∧ ∀ q, X q → q < y2.heap.size → q ≠ rb → u.ownBlock ≠ some q → y3.heap[q]? = y2.heap[q]? := by
  obtain ⟨u', hk, hv, hf⟩ := h3
  have hS : ∀ q, q < y2.heap.size → (q = rb ∨ u.ownBlock = some q) → X q := fun q _ hq => hq.elim (fun e => e ▸ h.xr) (fun e => h.xu q e)
  have hl := (h1.fr0 f2).alsoS hf hS
  refine ⟨_, u', ⟨hl, hk, .inl h.xr, fun q hq => ?_, h.br, hfit, hrl, ha, hs, ?_⟩, fun q hq => .inl hq, fun q _ hq h1 h2 => hf.block q hq (fun h => h.elim h1 h2)⟩
  · rcases hv with e | e
    · exact .inl (h.xu q (e ▸ hq))
    · exact .inr ⟨e q hq, (hk.own.lt q hq).2⟩
  · refine ((h.fr.trans (f1.mono (S' := fun q => w0.heap.size ≤ q) (fun _ _ h => h.1)) (fun _ _ h => h)).trans f2 (fun _ _ h => h.elim)).trans hf (fun q hq h2 => ?_)
    rcases h2 with rfl | h2
    · exact h.br
    · have := (h.rk.own.lt q h2).1; have := h.br; omega

set_option maxRecDepth 100000 in
set_option maxHeartbeats 12800000 in
theorem walk (w : World) (v1 : Value) (l1 : List AskT) (h1 : Reads w v1 l1.length 3 (l1.flatMap acells)) (hg1 : ∀ a ∈ l1, agood w a) (hl1 : l1.length ≤ maxLen) (v2 : Value) (l2 : List ByteArray) (h2 : Reads w v2 l2.length 1 (l2.flatMap fun z => [.string z])) (hg2 : ∀ z ∈ l2, z.size ≤ maxLen) (hl2 : l2.length ≤ maxLen) :
    Calls Try.prog 6 #[v1, v2] w fun e w' => e = .returned (.bool true) ∧ Below w.heap.size w w' := by
  obtain ⟨n1, hn1⟩ : ∃ n, l1.length = n := ⟨_, rfl⟩
  obtain ⟨n2, hn2⟩ : ∃ n, l2.length = n := ⟨_, rfl⟩
  rw [hn1] at h1 hl1
  rw [hn2, flat_one] at h2
  rw [hn2] at hl2
  obtain ⟨-, s1, k1, rfl, -, -, -⟩ := id h1
  obtain ⟨-, s2, cn, rfl, -, -, -⟩ := id h2
  have hn9 : (n1 : Int) ≤ 9223372036854775807 := by unfold maxLen at hl1; omega
  have hm9 : (n2 : Int) ≤ 9223372036854775807 := by unfold maxLen at hl2; omega
  have HR := hide h1
  have HN := hide hn1
  have HG := hide hg1
  have HR2 := hide h2
  have HN2 := hide hn2
  have HG2 := hide hg2
  clear h1 hn1 hg1 hl1 h2 hn2 hg2 hl2
  go_enter Try.func6, Try.ntmps6
  go_wp2_with fail
  refine (newD w).mono ?_
  rintro e w1 ⟨tb, rfl, h, hf⟩
  have hal : Fr (fun _ => False) w1 (w1.alloc (.cells #[.slice none 0 0] 46)) := Fr.alloc _ _ _
  have hl := h.also hal
  have hsz := hf.size
  have hst : St w (w1.alloc (.cells #[.slice none 0 0] 46)) (fun q => q < w.heap.size ∨ (w1.heap.size ≤ q ∧ q < (w1.alloc (.cells #[.slice none 0 0] 46)).heap.size)) tb w1.heap.size 0 emptyT (.slice none 0 0) [] :=
    ⟨hl, ⟨block_alloc _ _, World.ownsRow_nil _ _ _ _⟩, .inr ⟨Nat.le_refl _, lt_of_block (block_alloc _ _)⟩, (fun q hq => by cases hq), hsz, fits0, Nat.le_refl _, alone_empty, sim_empty, (hf.mono (fun _ _ h => h.elim)).trans hal (fun _ _ h => h.elim)⟩
  have HST := hide hst
  clear h hf hal hl hsz hst
  go_upto_block 0 with fail
  obtain ⟨rb, hrb⟩ : ∃ rb, w1.heap.size = rb := ⟨_, rfl⟩
  obtain ⟨w2, hw2⟩ : ∃ w2, w1.alloc (.cells #[.slice none 0 0] 46) = w2 := ⟨_, rfl⟩
  rw [hw2, hrb] at HST
  rw [hw2, hrb]
  clear hw2 hrb
  go_cut [7] from 8 to 136 (fun i wx => ∃ (k : Nat) (X : Nat → Prop) (T : LkT) (u : Value) (R : List LkR), k ≤ 60 ∧ Hid (St w wx X tb rb k T u R))
  case first =>
    go_wp2_with fail
    go_loopw [7] (fun i wr => ∃ (k : Nat) (X : Nat → Prop) (T : LkT) (u : Value) (R : List LkR), i = .int .i64 k ∧ k ≤ n1 ∧ k ≤ 60 ∧ Hid (St w wr X tb rb k T u R)) (fun i _ => n1 - (intOf i).toNat)
    case atStart => exact ⟨0, _, emptyT, _, [], rfl, Nat.zero_le _, by omega, HST.out⟩
    case round =>
      obtain ⟨k, X, T, u, R, rfl, hk1, hk2, HS⟩ := hrel
      clear HST
      by_cases hgo : k < n1 ∧ k < 60
      · obtain ⟨hg1, hg2⟩ := hgo
        have ik1 : (k : Int) < (n1 : Int) := by omega
        have ik2 : (k : Int) < 60 := by omega
        have ik0 : (0 : Int) ≤ (k : Int) := by omega
        obtain ⟨x, hx⟩ : ∃ x, l1[k]? = some x := ⟨_, List.getElem?_eq_getElem (by have := HN.out; omega)⟩
        obtain ⟨w1', w2', w3', w4', w5'⟩ := HG.out x (List.mem_of_getElem? hx)
        obtain ⟨b0, o0, rfl, hlt0, hcells⟩ := row_cells acells_len HR.out hx (by decide)
        obtain ⟨kd, tx, la, lc, L⟩ := x
        simp only at w1' w2' w3' w4' w5'
        have hbl := HS.out.fr.block b0 hlt0 (by omega)
        have e0 := hcells 0 (.int .i64 kd) rfl wr hbl
        rw [Nat.add_zero] at e0
        have e1 := hcells 1 (.string tx) rfl wr hbl
        have e2 := hcells 2 (.slice la L.length lc) rfl wr hbl
        obtain ⟨xb, hxb⟩ : ∃ xb, wr.heap.size = xb := ⟨_, rfl⟩
        obtain ⟨ll, hll⟩ : ∃ ll, L.length = ll := ⟨_, rfl⟩
        rw [hll] at w3' w5' e2
        have hcap : ll ≤ lc := by obtain ⟨-, a0, c0, e, -, h4, -⟩ := id w3'; cases e; exact h4
        have HRL := hide w3'
        have HSZ := hide w4'
        have HXB := hide hxb
        have HLL := hide hll
        have hl9 : (ll : Int) ≤ 9223372036854775807 := by unfold maxLen at w5'; omega
        have HTX := hide w2'
        clear hx hcells hbl hxb w3' w4' w5' w1' hll w2'
        go_upto_if 36 with fail
        go_cut [] from 37 to 40 (fun wx => ∃ m L2, m ≤ 8 ∧ Hid (Cut w wr wx xb kd tx la lc m L2))
        case first =>
          by_cases h6 : 8 < ll
          · have i6 : (8 : Int) < (ll : Int) := by omega
            go_wp2_with fail
            go_meet
            case rel =>
              have hcut := Cut.mk' w wr kd tx la lc ll 8 L HRL.out HLL.out (by omega) HSZ.out
              rw [HXB.out] at hcut
              exact ⟨_, _, Nat.le_refl _, hcut⟩
          · have i6 : ¬ (8 : Int) < (ll : Int) := by omega
            go_wp2_with fail
            go_meet
            case rel =>
              have hcut := Cut.mk' w wr kd tx la lc ll ll L HRL.out HLL.out (Nat.le_refl _) HSZ.out
              rw [HXB.out] at hcut
              exact ⟨_, _, by omega, hcut⟩
        case rest =>
          obtain ⟨m, L2, hm6, HCUT⟩ := hcut
          rw [HXB.out]
          clear e0 e1 e2 hl9 HRL HSZ HLL hcap
          obtain ⟨wd, hwd⟩ : ∃ wd, wc = wd := ⟨_, rfl⟩
          rw [hwd] at HCUT
          rw [hwd]
          clear hwd
          have hfd := HCUT.out.fr
          have hbd := HCUT.out.blk
          have z0 : wd.cell? ⟨xb, 0, none⟩ = some (.int .i64 kd) := by rw [cell_of_block hbd]; rfl
          have z1 : wd.cell? ⟨xb, 1, none⟩ = some (.string tx) := by rw [cell_of_block hbd]; rfl
          have z2 : wd.cell? ⟨xb, 2, none⟩ = some (.slice la m lc) := by rw [cell_of_block hbd]; rfl
          have hrx : rb < xb := by have := lt_of_block HS.out.rk.blk; have := HXB.out; omega
          have hux : u.ownBlock ≠ some xb := fun e => by have := (HS.out.rk.own.lt xb e).2; have := HXB.out; omega
          obtain ⟨X1, hX1⟩ : ∃ X1, (fun j => X j ∨ (wr.heap.size ≤ j ∧ j < wd.heap.size)) = X1 := ⟨_, rfl⟩
          have hst1 : St w wd X1 tb rb k T u R := by
            have h0 := HS.out.fr0 hfd
            have hl := HS.out.lk.also hfd
            rw [hX1] at hl
            exact ⟨hl, h0.rk, by rw [← hX1]; exact .inl h0.xr, fun q hq => by rw [← hX1]; exact .inl (h0.xu q hq), h0.br, h0.fit, h0.rl, h0.al, h0.sim, h0.fr⟩
          have hxX : X1 xb := by rw [← hX1]; exact .inr ⟨by rw [HXB.out]; exact Nat.le_refl _, lt_of_block hbd⟩
          have HS1 := hide hst1
          have HX := hide hxX
          have HBD := hide hbd
          have HRX := hide hrx
          have HUX := hide hux
          have HRD := hide HCUT.out.rd
          have HL2 := hide HCUT.out.len
          have HSZ2 := hide HCUT.out.sz
          clear hfd hbd hst1 hxX hX1 hrx hux HCUT HS HXB
          go_upto_if 43 with fail
          go_cut [] from 43 to 66 (fun wx => ∃ (X' : Nat → Prop) (T' : LkT) (u' : Value) (R' : List LkR), Hid (St w wx X' tb rb (k + 1) T' u' R') ∧ Hid (wx.heap[xb]? = some (.cells #[.int .i64 kd, .string tx, .slice la m lc] 36 (0, 0))))
          case first =>
            have hdr : Fr (fun _ => False) wd wd.drew := (Fr.refl (fun _ => False) wd).drew
            have hs1 := HS1.out.fr0 hdr
            have HS2 := hide hs1
            have hok := hs1.lk.ok
            have HOK := hide hok
            have HDR := hide hdr
            cases hkd : kd == 1 with
            | true =>
              obtain ⟨E, hE⟩ : ∃ E, takeE T tx.data.toList L2 = E := ⟨_, rfl⟩
              have hEE : (E != E) = false := by simp
              have hER : takeRE R tx L2 = E := by rw [← sim_takeE hok hs1.sim]; exact hE
              have t1 := takeD2 wd.drew X1 _ tb T hs1.lk _ hs1.fit (by omega) hs1.fr.size tx HTX.out (.slice la m lc) L2 (by rw [HL2.out]; exact reads_old HRD.out hs1.fr (fun j hj h => by omega)) (fun h0 b hb => .inr (reads_gone HRD.out (by decide) (by rw [← HL2.out]; exact h0) b hb)) (by rw [HL2.out]; omega) HSZ2.out
              rw [hE] at t1
              have t2 : ∀ y1, Fr (Own X1 w.heap.size) wd.drew y1 → Calls Try.prog 19 #[.slice la m lc] y1 fun e w' => ∃ v', e = .returned v' ∧ Reads w' v' L2.length 2 (L2.flatMap wcell) ∧ Fr (fun _ => False) y1 w' ∧ ∀ b, foot v' = some b → y1.heap.size ≤ b := fun y1 hf =>
                in_any y1 (.slice la m lc) L2 (by rw [HL2.out]; exact reads_old HRD.out (HS2.out.fr.trans (hf.mono (S' := fun q => w.heap.size ≤ q) (fun _ _ h => h.1)) (fun _ _ h => h)) (fun j hj h => by omega)) (by rw [HL2.out]; omega)
              have t3 : ∀ y1 y2 v', Fr (Own X1 w.heap.size) wd.drew y1 → Fr (fun _ => False) y1 y2 → Reads y2 v' L2.length 2 (L2.flatMap wcell) → (∀ b, foot v' = some b → y1.heap.size ≤ b) → Calls Try.prog 18 #[.pointer (some ⟨rb, 0, none⟩), .string tx, v'] y2 fun e w' => e = .returned (.int .i64 E) ∧ RTd y2 w' rb u (takeR R tx L2) := fun y1 y2 v' hf1 hf2 hr hb => by
                have hk1 := (HS2.out.rk.fr hf1 (fun h => h.2 HS2.out.xr) (fun q hq h => h.2 (HS2.out.xu q hq)))
                have h3 := rTake_any y2 rb u R (hk1.fr0 hf2) (by have := HS2.out.rl; omega) tx v' L2 hr (by rw [HL2.out]; omega) (fun _ b hb2 => by
                  have h5 := hb b hb2
                  refine ⟨fun e => ?_, fun e => ?_⟩
                  · have := lt_of_block hk1.blk; omega
                  · have := (hk1.own.lt b e).2; omega)
                rw [hER] at h3
                exact h3
              have hfin : ∀ y1 y2 y3, Lkd y1 X1 w.heap.size tb (takeS T tx.data.toList L2) → Fr (Own X1 w.heap.size) wd.drew y1 → Fr (fun _ => False) y1 y2 → RTd y2 y3 rb u (takeR R tx L2) → ∃ (X' : Nat → Prop) (T' : LkT) (u' : Value) (R' : List LkR), Hid (St w y3 X' tb rb (k + 1) T' u' R') ∧ Hid (y3.heap[xb]? = some (.cells #[.int .i64 kd, .string tx, .slice la m lc] 36 (0, 0))) := fun y1 y2 y3 hl hf1 hf2 hr => by
                obtain ⟨X', u', h1, h2, h3⟩ := HS2.out.turn hl hf1 hf2 hr ((fits_takeS HS2.out.fit _ L2).mono (by rw [HL2.out]; omega)) (by have := takeR_len R tx L2; have := HS2.out.rl; have := HL2.out; omega) (alone_takeS HOK.out (by simpa using HTX.out) HSZ2.out HS2.out.al) (sim_take HOK.out HS2.out.sim tx L2)
                have hb1 : wd.drew.heap[xb]? = some (.cells #[.int .i64 kd, .string tx, .slice la m lc] 36 (0, 0)) := HBD.out
                have hb2 := (hf1.block xb (lt_of_block hb1) (fun h => h.2 HX.out)).trans hb1
                have hb3 := (hf2.block xb (lt_of_block hb2) (fun h => h)).trans hb2
                exact ⟨X', _, u', _, h1, (h3 xb HX.out (lt_of_block hb3) (by have := HRX.out; omega) HUX.out).trans hb3⟩
              have hcell : ∀ y1, Fr (Own X1 w.heap.size) wd.drew y1 → y1.cell? ⟨xb, 1, none⟩ = some (.string tx) ∧ y1.cell? ⟨xb, 2, none⟩ = some (.slice la m lc) := fun y1 hf => by
                have hb1 : wd.drew.heap[xb]? = some (.cells #[.int .i64 kd, .string tx, .slice la m lc] 36 (0, 0)) := HBD.out
                have hb2 := (hf.block xb (lt_of_block hb1) (fun h => h.2 HX.out)).trans hb1
                exact ⟨by rw [cell_of_block hb2]; rfl, by rw [cell_of_block hb2]; rfl⟩
              have T1 := hide t1
              have T2 := hide t2
              have T3 := hide t3
              have HFIN := hide hfin
              have HCELL := hide hcell
              clear t1 t2 t3 hfin hcell hE hER hdr hs1 hok
              go_wp2_with fail
              go_region_held3 (fun w' => w'.cell? ⟨xb, 1, none⟩ = some (.string tx) ∧ w'.cell? ⟨xb, 2, none⟩ = some (.slice la m lc)) (go_keep)
                (first
                  | (go_at_call 9; with_reducible refine T1.out.mono ?_; rintro e y1 ⟨rfl, hl1, hf1⟩; obtain ⟨p1, p2⟩ := HCELL.out y1 hf1; have HL1 := hide hl1; have HF1 := hide hf1; clear hl1 hf1)
                  | (go_at_call 19; with_reducible refine (T2.out _ HF1.out).mono ?_; rintro e y2 ⟨v4, rfl, hr4, hf4, hb4⟩; obtain ⟨a4, q4, e4⟩ := reads_shape hr4; subst e4; obtain ⟨p3, p4⟩ := HCELL.out y2 (HF1.out.trans hf4 (fun _ _ h => h.elim)); have HR4 := hide hr4; have HF4 := hide hf4; have HB4 := hide hb4; clear hr4 hf4 hb4)
                  | (go_at_call 18; with_reducible refine (T3.out _ _ _ HF1.out HF4.out HR4.out HB4.out).mono ?_; rintro e y3 ⟨rfl, ht5⟩; obtain ⟨X5, T5, u5, R5, hst5, hb5⟩ := HFIN.out _ _ _ HL1.out HF1.out HF4.out ht5; have p5 := cell_of_block (j := 1) hb5.out; have p6 := cell_of_block (j := 2) hb5.out; clear ht5))
              all_goals
                go_wp2_with fail
                go_meet
                case rel => exact ⟨X5, T5, u5, R5, hst5, hb5⟩
            | false =>
              obtain ⟨E, hE⟩ : ∃ E, decide (0 < (heldT T tx.data.toList).length) = E := ⟨_, rfl⟩
              have hEE : (E != E) = false := by simp
              have hER : decide ((freeR R tx).length < R.length) = E := by rw [← freeR_some hok hs1.sim]; exact hE
              have t1 := freeD wd.drew X1 _ tb T hs1.lk _ hs1.fit (by omega) tx HTX.out
              rw [hE] at t1
              have t3 : ∀ y1, Fr (Own X1 w.heap.size) wd.drew y1 → Calls Try.prog 20 #[.pointer (some ⟨rb, 0, none⟩), .string tx] y1 fun e w' => e = .returned (.bool E) ∧ RTd y1 w' rb u (freeR R tx) := fun y1 hf1 => by
                have hk1 := (HS2.out.rk.fr hf1 (fun h => h.2 HS2.out.xr) (fun q hq h => h.2 (HS2.out.xu q hq)))
                have h3 := rFree_any y1 rb u R hk1 (by have := HS2.out.rl; omega) tx
                rw [hER] at h3
                exact h3
              have hfin : ∀ y1 y3, Lkd y1 X1 w.heap.size tb (freeT T tx.data.toList) → Fr (Own X1 w.heap.size) wd.drew y1 → RTd y1 y3 rb u (freeR R tx) → ∃ (X' : Nat → Prop) (T' : LkT) (u' : Value) (R' : List LkR), Hid (St w y3 X' tb rb (k + 1) T' u' R') ∧ Hid (y3.heap[xb]? = some (.cells #[.int .i64 kd, .string tx, .slice la m lc] 36 (0, 0))) := fun y1 y3 hl hf1 hr => by
                obtain ⟨X', u', h1, h2, h3⟩ := HS2.out.turn hl hf1 (Fr.refl _ _) hr ((fits_free HS2.out.fit _).mono (by omega)) (by have := List.length_filter_le (fun y : LkR => decide (y.1 ≠ tx)) R; have := HS2.out.rl; unfold freeR; omega) (alone_free _ HS2.out.al) (sim_free HOK.out HS2.out.sim tx)
                have hb1 : wd.drew.heap[xb]? = some (.cells #[.int .i64 kd, .string tx, .slice la m lc] 36 (0, 0)) := HBD.out
                have hb2 := (hf1.block xb (lt_of_block hb1) (fun h => h.2 HX.out)).trans hb1
                exact ⟨X', _, u', _, h1, (h3 xb HX.out (lt_of_block hb2) (by have := HRX.out; omega) HUX.out).trans hb2⟩
              have hcell : ∀ y1, Fr (Own X1 w.heap.size) wd.drew y1 → y1.cell? ⟨xb, 1, none⟩ = some (.string tx) := fun y1 hf => by
                have hb1 : wd.drew.heap[xb]? = some (.cells #[.int .i64 kd, .string tx, .slice la m lc] 36 (0, 0)) := HBD.out
                have hb2 := (hf.block xb (lt_of_block hb1) (fun h => h.2 HX.out)).trans hb1
                rw [cell_of_block hb2]; rfl
              have T1 := hide t1
              have T3 := hide t3
              have HFIN := hide hfin
              have HCELL := hide hcell
              clear t1 t3 hfin hcell hE hER hdr hs1 hok
              go_wp2_with fail
              go_region_held3 (fun w' => w'.cell? ⟨xb, 1, none⟩ = some (.string tx)) (go_keep)
                (first
                  | (go_at_call 10; with_reducible refine T1.out.mono ?_; rintro e y1 ⟨rfl, hl1, hf1⟩; have p1 := HCELL.out y1 hf1; have HL1 := hide hl1; have HF1 := hide hf1; clear hl1 hf1)
                  | (go_at_call 20; with_reducible refine (T3.out _ HF1.out).mono ?_; rintro e y3 ⟨rfl, ht5⟩; obtain ⟨X5, T5, u5, R5, hst5, hb5⟩ := HFIN.out _ _ HL1.out HF1.out ht5; have p5 := cell_of_block (j := 1) hb5.out; clear ht5))
              all_goals
                go_wp2_with fail
                go_meet
                case rel => exact ⟨X5, T5, u5, R5, hst5, hb5⟩
          case rest =>
            obtain ⟨X', T', u', R', HS3, HB3⟩ := hcut
            obtain ⟨wn, hwn⟩ : ∃ wn, wc = wn := ⟨_, rfl⟩
            rw [hwn] at HS3 HB3
            rw [hwn]
            obtain ⟨M, hM⟩ : ∃ M, 8 * (k + 1) = M := ⟨_, rfl⟩
            have hM9 : M ≤ 480 := by omega
            have hfit := HS3.out.fit
            have hrl := HS3.out.rl
            rw [hM] at hfit hrl
            have HFIT := hide hfit
            have HRL := hide hrl
            have HOK := hide HS3.out.lk.ok
            have hb3 := HB3.out
            have z1 : wn.cell? ⟨xb, 1, none⟩ = some (.string tx) := by rw [cell_of_block hb3]; rfl
            clear hwn hM hfit hrl hb3 z0 z2 HS1 HX HBD HRX HUX HRD HL2 HSZ2
            go_upto_region 16 with fail
            go_cut [84] from 67 to 83 (fun v wx => v = .bool false ∧ Fr (fun _ => False) wn wx)
            case first =>
              obtain ⟨hs, hhs⟩ : ∃ hs, heldT T' tx.data.toList = hs := ⟨_, rfl⟩
              have hrs : heldR R' tx = hs := by rw [← sim_held HOK.out HS3.out.sim]; exact hhs
              obtain ⟨nh, hnh⟩ : ∃ nh, hs.length = nh := ⟨_, rfl⟩
              obtain ⟨aL, has⟩ : ∃ aL, allR R' = aL := ⟨_, rfl⟩
              obtain ⟨na, hna⟩ : ∃ na, aL.length = na := ⟨_, rfl⟩
              have hnh9 : nh ≤ 1000000 := by rw [← hnh, ← hhs]; exact Nat.le_trans (List.length_filter_le _ _) (by rw [(sortB_perm _).length_eq]; have := HFIT.out.1; omega)
              have hna9 : na ≤ 1000000 := by
                rw [← hna, ← has]
                have h1 := puts_len (R'.map who) Srt.nil
                have h2 : (allR R').length ≤ 0 + (R'.map who).length := h1
                rw [List.length_map] at h2
                have := HRL.out; omega
              have T0 : Hid (∀ w2, Fr (fun _ => False) wn w2 → Calls Try.prog 14 #[.pointer (some ⟨tb, 0, none⟩), .string tx] w2 fun e w' => ∃ v, e = .returned v ∧ Reads w' v nh 1 (hs.map encStr) ∧ Fr (fun _ => False) w2 w') := fun w2 hf => by
                have h1 := heldD w2 X' _ tb T' (HS3.out.lk.fr0 hf) M HFIT.out (by omega) tx HTX.out
                rw [hhs, hnh] at h1
                exact h1.mono (by rintro e w' ⟨v, h1, h2, h3⟩; exact ⟨v, h1, Reads.of_own h2, h3⟩)
              have T1 : Hid (∀ w2, Fr (fun _ => False) wn w2 → Calls Try.prog 21 #[.pointer (some ⟨rb, 0, none⟩), .string tx] w2 fun e w' => ∃ v, e = .returned v ∧ Reads w' v nh 1 (hs.map encStr) ∧ Fr (fun _ => False) w2 w') := fun w2 hf => by
                have h1 := rHeld_any w2 rb u' R' (HS3.out.rk.fr0 hf) (by have := HRL.out; omega) tx
                rw [hrs, hnh] at h1
                exact h1
              have T2 : Hid (∀ w2, Fr (fun _ => False) wn w2 → Calls Try.prog 13 #[.pointer (some ⟨tb, 0, none⟩)] w2 fun e w' => ∃ v, e = .returned v ∧ Reads w' v na 1 (aL.map encStr) ∧ Fr (fun _ => False) w2 w') := fun w2 hf => by
                have h1 := allD w2 X' _ tb T' (HS3.out.lk.fr0 hf) M HFIT.out (by omega)
                refine h1.mono ?_
                rintro e w' ⟨v, l, h1, h2, h3, h4⟩
                have e5 := sim_all HOK.out HS3.out.sim h2
                rw [has] at e5
                subst e5
                rw [hna] at h3
                exact ⟨v, h1, Reads.of_own h3, h4⟩
              have T3 : Hid (∀ w2, Fr (fun _ => False) wn w2 → Calls Try.prog 22 #[.pointer (some ⟨rb, 0, none⟩)] w2 fun e w' => ∃ v, e = .returned v ∧ Reads w' v na 1 (aL.map encStr) ∧ Fr (fun _ => False) w2 w') := fun w2 hf => by
                have h1 := rAll_any w2 rb u' R' (HS3.out.rk.fr0 hf) (by have := HRL.out; omega)
                rw [has, hna] at h1
                exact h1
              have HNH := hide hnh
              have HNA := hide hna
              clear hhs hrs hnh has hna
              refine wp_region_news [Lft.is (.pointer (some ⟨tb, 0, none⟩)), Lft.is (.pointer (some ⟨xb, 1, none⟩)), Lft.is (.string tx), Lft.stay (fun v w' => ∃ a q, v = .slice a nh q ∧ Reads w' v nh 1 (hs.map encStr)) (fun u w1 w2 h g => by obtain ⟨a, q, e, h⟩ := h; exact ⟨a, q, e, reads_old h g (fun _ _ => id)⟩), Lft.is (.pointer (some ⟨rb, 0, none⟩)), Lft.is (.pointer (some ⟨xb, 1, none⟩)), Lft.is (.string tx), Lft.stay (fun v w' => ∃ a q, v = .slice a nh q ∧ Reads w' v nh 1 (hs.map encStr)) (fun u w1 w2 h g => by obtain ⟨a, q, e, h⟩ := h; exact ⟨a, q, e, reads_old h g (fun _ _ => id)⟩), Lft.is (.bool true), Lft.is (.bool false), Lft.is (.bool false), Lft.is (.pointer (some ⟨tb, 0, none⟩)), Lft.stay (fun v w' => ∃ a q, v = .slice a na q ∧ Reads w' v na 1 (aL.map encStr)) (fun u w1 w2 h g => by obtain ⟨a, q, e, h⟩ := h; exact ⟨a, q, e, reads_old h g (fun _ _ => id)⟩), Lft.is (.pointer (some ⟨rb, 0, none⟩)), Lft.stay (fun v w' => ∃ a q, v = .slice a na q ∧ Reads w' v na 1 (aL.map encStr)) (fun u w1 w2 h g => by obtain ⟨a, q, e, h⟩ := h; exact ⟨a, q, e, reads_old h g (fun _ _ => id)⟩), Lft.is (.bool true), Lft.is (.bool false), Lft.is (.bool false)] _ (by kernel_rfl) (by kernel_rfl) (fun vs => by simp only [putAll, Act.put, List.setIfInBounds_toArray, List.set_cons_succ, List.set_cons_zero, Nat.zero_add, Nat.reduceAdd]; exact rfl) ⟨?_, ?_, ?_, ?_, ?_, ?_, ?_, ?_, ?_, ?_, ?_, ?_, ?_, ?_, ?_, ?_, ?_, ?_, trivial⟩ ?_
              · exact StepN.quiet rfl _ rfl (fun vs w2 hf hp => by go_simp)
              · exact StepN.quiet rfl _ rfl (fun vs w2 hf hp => by go_simp)
              · exact StepN.quiet rfl _ rfl (fun vs w2 hf hp => by obtain ⟨g1, -⟩ := hp; have g1 : vs 1 = .pointer (some ⟨xb, 1, none⟩) := g1; have cz1 := cell_fr0 hf z1; go_simp)
              · refine StepN.call rfl 14 (fun _ => #[.pointer (some ⟨tb, 0, none⟩), .string tx]) (fun vs w2 hf hp => by obtain ⟨g0, g2, -⟩ := hp; have g0 : vs 0 = .pointer (some ⟨tb, 0, none⟩) := g0; have g2 : vs 2 = .string tx := g2; go_simp) (fun vs w2 hf hp => ?_)
                obtain ⟨g0, g2, -⟩ := hp; have g0 : vs 0 = .pointer (some ⟨tb, 0, none⟩) := g0; have g2 : vs 2 = .string tx := g2
                refine (T0.out w2 hf).mono ?_
                rintro e w3 ⟨v, rfl, hr, hf3⟩
                obtain ⟨a3, q3, e3⟩ := reads_shape hr
                exact ⟨_, rfl, ⟨a3, q3, e3, hr⟩, hf3, by intro h; cases h⟩
              · exact StepN.quiet rfl _ rfl (fun vs w2 hf hp => by go_simp)
              · exact StepN.quiet rfl _ rfl (fun vs w2 hf hp => by go_simp)
              · exact StepN.quiet rfl _ rfl (fun vs w2 hf hp => by obtain ⟨g5, -⟩ := hp; have g5 : vs 5 = .pointer (some ⟨xb, 1, none⟩) := g5; have cz1 := cell_fr0 hf z1; go_simp)
              · refine StepN.call rfl 21 (fun _ => #[.pointer (some ⟨rb, 0, none⟩), .string tx]) (fun vs w2 hf hp => by obtain ⟨g4, g6, -⟩ := hp; have g4 : vs 4 = .pointer (some ⟨rb, 0, none⟩) := g4; have g6 : vs 6 = .string tx := g6; go_simp) (fun vs w2 hf hp => ?_)
                obtain ⟨g4, g6, -⟩ := hp; have g4 : vs 4 = .pointer (some ⟨rb, 0, none⟩) := g4; have g6 : vs 6 = .string tx := g6
                refine (T1.out w2 hf).mono ?_
                rintro e w3 ⟨v, rfl, hr, hf3⟩
                obtain ⟨a3, q3, e3⟩ := reads_shape hr
                exact ⟨_, rfl, ⟨a3, q3, e3, hr⟩, hf3, by intro h; cases h⟩
              · refine StepN.call rfl 17 (fun vs => #[vs 3, vs 7]) (fun vs w2 hf hp => by obtain ⟨g3, g7, -⟩ := hp; obtain ⟨ha, hq, g3, hr3⟩ := g3; have g3 : vs 3 = .slice ha nh hq := g3; obtain ⟨hb, hp2, g7, hr7⟩ := g7; have g7 : vs 7 = .slice hb nh hp2 := g7; go_simp) (fun vs w2 hf hp => ?_)
                obtain ⟨g3, g7, -⟩ := hp; obtain ⟨ha, hq, g3, hr3⟩ := g3; have g3 : vs 3 = .slice ha nh hq := g3; obtain ⟨hb, hp2, g7, hr7⟩ := g7; have g7 : vs 7 = .slice hb nh hp2 := g7
                refine (texts_same w2 _ _ hs nh HNH.out hr3 hr7 hnh9).mono ?_
                rintro e w3 ⟨rfl, hf3⟩
                exact ⟨_, rfl, rfl, hf3, by intro h; cases h⟩
              · exact StepN.quiet rfl _ rfl (fun vs w2 hf hp => by obtain ⟨g8, -⟩ := hp; have g8 : vs 8 = .bool true := g8; go_simp)
              · exact StepN.quiet rfl _ rfl (fun vs w2 hf hp => by obtain ⟨g9, -⟩ := hp; have g9 : vs 9 = .bool false := g9; go_simp)
              · exact StepN.on (fun vs w2 hf hp => by obtain ⟨g10, -⟩ := hp; have g10 : vs 10 = .bool false := g10; exact ⟨by simp [Region.wanted, yielded, g10], .pointer (some ⟨tb, 0, none⟩), w2, by clear g10; go_simp, rfl, Fr.refl _ _, by intro h; cases h⟩)
              · refine StepN.onCall 13 (fun _ => #[.pointer (some ⟨tb, 0, none⟩)]) (fun vs w2 hf hp => ?_)
                obtain ⟨g11, -, g10, -⟩ := hp; have g11 : vs 11 = .pointer (some ⟨tb, 0, none⟩) := g11; have g10 : vs 10 = .bool false := g10
                refine ⟨by simp [Region.wanted, yielded, g10], by clear g10; go_simp, ?_⟩
                refine (T2.out w2 hf).mono ?_
                rintro e w3 ⟨v, rfl, hr, hf3⟩
                obtain ⟨a3, q3, e3⟩ := reads_shape hr
                exact ⟨_, rfl, ⟨a3, q3, e3, hr⟩, hf3, by intro h; cases h⟩
              · exact StepN.on (fun vs w2 hf hp => by obtain ⟨g10, -⟩ := hp; have g10 : vs 10 = .bool false := g10; exact ⟨by simp [Region.wanted, yielded, g10], .pointer (some ⟨rb, 0, none⟩), w2, by clear g10; go_simp, rfl, Fr.refl _ _, by intro h; cases h⟩)
              · refine StepN.onCall 22 (fun _ => #[.pointer (some ⟨rb, 0, none⟩)]) (fun vs w2 hf hp => ?_)
                obtain ⟨g13, -, g10, -⟩ := hp; have g13 : vs 13 = .pointer (some ⟨rb, 0, none⟩) := g13; have g10 : vs 10 = .bool false := g10
                refine ⟨by simp [Region.wanted, yielded, g10], by clear g10; go_simp, ?_⟩
                refine (T3.out w2 hf).mono ?_
                rintro e w3 ⟨v, rfl, hr, hf3⟩
                obtain ⟨a3, q3, e3⟩ := reads_shape hr
                exact ⟨_, rfl, ⟨a3, q3, e3, hr⟩, hf3, by intro h; cases h⟩
              · refine StepN.onCall 17 (fun vs => #[vs 12, vs 14]) (fun vs w2 hf hp => ?_)
                obtain ⟨g12, g14, -, g10, -⟩ := hp; obtain ⟨ha, hq, g12, hr3⟩ := g12; have g12 : vs 12 = .slice ha na hq := g12; obtain ⟨hb, hp2, g14, hr7⟩ := g14; have g14 : vs 14 = .slice hb na hp2 := g14; have g10 : vs 10 = .bool false := g10
                refine ⟨by simp [Region.wanted, yielded, g10], by clear g10; go_simp, ?_⟩
                refine (texts_same w2 _ _ aL na HNA.out hr3 hr7 hna9).mono ?_
                rintro e w3 ⟨rfl, hf3⟩
                exact ⟨_, rfl, rfl, hf3, by intro h; cases h⟩
              · exact StepN.on (fun vs w2 hf hp => by obtain ⟨g15, g10, -⟩ := hp; have g15 : vs 15 = .bool true := g15; have g10 : vs 10 = .bool false := g10; exact ⟨by simp [Region.wanted, yielded, g10], .bool false, w2, by clear g10; go_simp, rfl, Fr.refl _ _, by intro h; cases h⟩)
              · exact StepN.quiet rfl _ rfl (fun vs w2 hf hp => by obtain ⟨g10, g16, -⟩ := hp; have g10 : vs 10 = .bool false := g10; have g16 : vs 16 = .bool false := g16; go_simp)
              · intro vs w5 hf he _
                have h17 : vs 17 = .bool false := (he.get 17 (by decide)).1
                rw [h17]
                have HFx := hide hf
                clear he hf h17
                go_wp2_with fail
                go_meet
                case rel => exact ⟨rfl, HFx.out⟩
            case rest =>
              obtain ⟨rfl, hf16⟩ := hcut
              have HS4 := hide (HS3.out.fr0 hf16)
              obtain ⟨wq, hwq⟩ : ∃ wq, wc = wq := ⟨_, rfl⟩
              rw [hwq] at HS4
              rw [hwq]
              clear hwq hf16 z1 HS3 HB3
              go_wp2_with fail
              go_loopw [9] (fun jj wr => ∃ j : Nat, jj = .int .i64 j ∧ j ≤ n2 ∧ j ≤ 6 ∧ Fr (fun _ => False) wq wr) (fun jj _ => n2 - (intOf jj).toNat)
              case atStart => exact ⟨0, rfl, Nat.zero_le _, by omega, Fr.refl _ _⟩
              case round =>
                obtain ⟨j, rfl, hj1, hj2, hfj⟩ := hrel
                have HFJ := hide hfj
                clear hfj
                by_cases hjo : j < n2 ∧ j < 6
                · obtain ⟨hj3, hj4⟩ := hjo
                  have jk0 : (0 : Int) ≤ (j : Int) := by omega
                  have jk1 : (j : Int) < (n2 : Int) := by omega
                  have jk2 : (j : Int) < 6 := by omega
                  obtain ⟨C, hc⟩ : ∃ c, l2[j]? = some c := ⟨_, List.getElem?_eq_getElem (by have := HN2.out; omega)⟩
                  obtain ⟨-, a8, c8, e8, -, -, hnc⟩ := id HR2.out
                  cases e8
                  obtain ⟨bn, on, rfl, e0'⟩ := hnc j (.string C) (by rw [List.getElem?_map, hc]; rfl)
                  have hbnl := World.block_lt_of_cell? w _ e0'
                  have hst := HS4.out.fr0 HFJ.out
                  have hcell : ∀ wx, Fr (fun _ => False) wr wx → wx.cell? ⟨bn, on + j, none⟩ = some (.string C) := fun wx hf => by
                    rw [World.cell?_of_block (w := w) ((hst.fr.trans hf (fun _ _ h => h.elim)).block bn hbnl (by simp at hbnl ⊢; omega))]; exact e0'
                  have e0 := hcell wr (Fr.refl _ _)
                  have hcz := HG2.out C (List.mem_of_getElem? hc)
                  have t1 := writerD wr X' _ tb T' hst.lk M HFIT.out (by omega) C hcz
                  have t2 : ∀ w2, Fr (fun _ => False) wr w2 → Calls Try.prog 23 #[.pointer (some ⟨rb, 0, none⟩), .string C] w2 fun e w' => e = .returned (wrR (writerR R' C)) ∧ w' = w2 := fun w2 hf => rWriter_any w2 rb u' R' (hst.rk.fr0 hf) (by have := HRL.out; omega) C
                  rw [sim_writer HOK.out hst.al hst.sim] at t1
                  obtain ⟨A, Bk, hw1, hw2⟩ : ∃ (A : ByteArray) (Bk : Bool), wrV ((writerR R' C).map (·.data.toList)) = .tuple #[.string A, .bool Bk] ∧ wrR (writerR R' C) = .tuple #[.string A, .bool Bk] := by
                    cases writerR R' C with
                    | none => exact ⟨_, _, rfl, rfl⟩
                    | some z => exact ⟨z, true, by show Value.tuple #[.string (toB z.data.toList), .bool true] = _; rw [toB_data], rfl⟩
                  rw [hw1] at t1
                  have t2 : ∀ w2, Fr (fun _ => False) wr w2 → Calls Try.prog 23 #[.pointer (some ⟨rb, 0, none⟩), .string C] w2 fun e w' => e = .returned (.tuple #[.string A, .bool Bk]) ∧ w' = w2 := fun w2 hf => by rw [← hw2]; exact t2 w2 hf
                  have hAA : (A.toList == A.toList) = true := by simp
                  have hAA2 : (A.toList != A.toList) = false := by simp
                  have hBB : (Bk != Bk) = false := by simp
                  have T1 := hide t1
                  have T2 := hide t2
                  have HST5 := hide hst
                  have HCELL := hide hcell
                  have HCZ := hide hcz
                  clear hc hnc e0' hbnl hst hcell hcz t1 t2 hw1 hw2
                  go_wp2_with fail
                  refine T1.out.mono ?_
                  rintro e w6 ⟨rfl, hf6⟩
                  have e0 := HCELL.out w6 hf6
                  have t3 := T2.out w6 hf6
                  have T3 := hide t3
                  have HF6 := hide hf6
                  clear hf6 t3 T1 T2
                  go_wp2_with fail
                  refine T3.out.mono ?_
                  rintro e w7 ⟨rfl, rfl⟩
                  have e0 := HCELL.out w7 HF6.out
                  go_upto_region 23 with fail
                  go_cut [136] from 113 to 135 (fun v wx => v = .bool false ∧ Fr (fun _ => False) w7 wx)
                  case first =>
                    obtain ⟨hs, hhs⟩ : ∃ hs, sortB (T'.whos C.data.toList) = hs := ⟨_, rfl⟩
                    have hrs : holdersR R' C = hs := by rw [← sim_holders HOK.out HST5.out.sim]; exact hhs
                    obtain ⟨nh, hnh⟩ : ∃ nh, hs.length = nh := ⟨_, rfl⟩
                    have hnh9 : nh ≤ 1000000 := by rw [← hnh, ← hhs, (sortB_perm _).length_eq]; have := HFIT.out.2 C.data.toList; omega
                    have T0 : Hid (∀ w2, Fr (fun _ => False) w7 w2 → Calls Try.prog 11 #[.pointer (some ⟨tb, 0, none⟩), .string C] w2 fun e w' => ∃ v, e = .returned v ∧ Reads w' v nh 1 (hs.map encStr) ∧ Fr (fun _ => False) w2 w') := fun w2 hf => by
                      have h1 := holdersD w2 X' _ tb T' ((HST5.out.lk.fr0 HF6.out).fr0 hf) M HFIT.out (by omega) C HCZ.out
                      rw [hhs, hnh] at h1
                      exact h1.mono (by rintro e w' ⟨v, h1, h2, h3⟩; exact ⟨v, h1, Reads.of_own h2, h3⟩)
                    have T1 : Hid (∀ w2, Fr (fun _ => False) w7 w2 → Calls Try.prog 24 #[.pointer (some ⟨rb, 0, none⟩), .string C] w2 fun e w' => ∃ v, e = .returned v ∧ Reads w' v nh 1 (hs.map encStr) ∧ Fr (fun _ => False) w2 w') := fun w2 hf => by
                      have h1 := rHolders_any w2 rb u' R' ((HST5.out.rk.fr0 HF6.out).fr0 hf) (by have := HRL.out; omega) C
                      rw [hrs, hnh] at h1
                      exact h1
                    have HNH := hide hnh
                    clear hhs hrs hnh
                    refine wp_region_news [Lft.is (.string A), Lft.is (.string A), Lft.is (.bool false), Lft.is (.bool false), Lft.is (.bool Bk), Lft.is (.bool Bk), Lft.is (.bool false), Lft.is (.bool false), Lft.is (.bool false), Lft.is (.pointer (some ⟨tb, 0, none⟩)), Lft.is (.slice (some ⟨bn, on, none⟩) n2 cn), Lft.is (.int .i64 j), Lft.is (.pointer (some ⟨bn, on + j, none⟩)), Lft.is (.string C), Lft.stay (fun v w' => ∃ a q, v = .slice a nh q ∧ Reads w' v nh 1 (hs.map encStr)) (fun u w1 w2 h g => by obtain ⟨a, q, e, h⟩ := h; exact ⟨a, q, e, reads_old h g (fun _ _ => id)⟩), Lft.is (.pointer (some ⟨rb, 0, none⟩)), Lft.is (.slice (some ⟨bn, on, none⟩) n2 cn), Lft.is (.int .i64 j), Lft.is (.pointer (some ⟨bn, on + j, none⟩)), Lft.is (.string C), Lft.stay (fun v w' => ∃ a q, v = .slice a nh q ∧ Reads w' v nh 1 (hs.map encStr)) (fun u w1 w2 h g => by obtain ⟨a, q, e, h⟩ := h; exact ⟨a, q, e, reads_old h g (fun _ _ => id)⟩), Lft.is (.bool true), Lft.is (.bool false), Lft.is (.bool false)] _ (by kernel_rfl) (by kernel_rfl) (fun vs => by simp only [putAll, Act.put, List.setIfInBounds_toArray, List.set_cons_succ, List.set_cons_zero, Nat.zero_add, Nat.reduceAdd]; exact rfl) ⟨?_, ?_, ?_, ?_, ?_, ?_, ?_, ?_, ?_, ?_, ?_, ?_, ?_, ?_, ?_, ?_, ?_, ?_, ?_, ?_, ?_, ?_, ?_, ?_, trivial⟩ ?_
                    · exact StepN.quiet rfl _ rfl (fun vs w2 hf hp => by go_simp)
                    · exact StepN.quiet rfl _ rfl (fun vs w2 hf hp => by go_simp)
                    · exact StepN.quiet rfl _ rfl (fun vs w2 hf hp => by obtain ⟨g0, g1, -⟩ := hp; have g0 : vs 0 = .string A := g0; have g1 : vs 1 = .string A := g1; go_simp)
                    · exact StepN.quiet rfl _ rfl (fun vs w2 hf hp => by obtain ⟨g2, -⟩ := hp; have g2 : vs 2 = .bool false := g2; go_simp)
                    · exact StepN.on (fun vs w2 hf hp => by obtain ⟨g3, -⟩ := hp; have g3 : vs 3 = .bool false := g3; exact ⟨by simp [Region.wanted, yielded, g3], .bool Bk, w2, by clear g3; go_simp, rfl, Fr.refl _ _, by intro h; cases h⟩)
                    · exact StepN.on (fun vs w2 hf hp => by obtain ⟨g3, -⟩ := hp; have g3 : vs 3 = .bool false := g3; exact ⟨by simp [Region.wanted, yielded, g3], .bool Bk, w2, by clear g3; go_simp, rfl, Fr.refl _ _, by intro h; cases h⟩)
                    · exact StepN.on (fun vs w2 hf hp => by obtain ⟨g4, g5, g3, -⟩ := hp; have g4 : vs 4 = .bool Bk := g4; have g5 : vs 5 = .bool Bk := g5; have g3 : vs 3 = .bool false := g3; exact ⟨by simp [Region.wanted, yielded, g3], .bool false, w2, by clear g3; go_simp, rfl, Fr.refl _ _, by intro h; cases h⟩)
                    · exact StepN.quiet rfl _ rfl (fun vs w2 hf hp => by obtain ⟨g3, g6, -⟩ := hp; have g3 : vs 3 = .bool false := g3; have g6 : vs 6 = .bool false := g6; go_simp)
                    · exact StepN.quiet rfl _ rfl (fun vs w2 hf hp => by obtain ⟨g7, -⟩ := hp; have g7 : vs 7 = .bool false := g7; go_simp)
                    · exact StepN.on (fun vs w2 hf hp => by obtain ⟨g8, -⟩ := hp; have g8 : vs 8 = .bool false := g8; exact ⟨by simp [Region.wanted, yielded, g8], .pointer (some ⟨tb, 0, none⟩), w2, by clear g8; go_simp, rfl, Fr.refl _ _, by intro h; cases h⟩)
                    · exact StepN.on (fun vs w2 hf hp => by obtain ⟨g8, -⟩ := hp; have g8 : vs 8 = .bool false := g8; exact ⟨by simp [Region.wanted, yielded, g8], .slice (some ⟨bn, on, none⟩) n2 cn, w2, by clear g8; go_simp, rfl, Fr.refl _ _, by intro h; cases h⟩)
                    · exact StepN.on (fun vs w2 hf hp => by obtain ⟨g8, -⟩ := hp; have g8 : vs 8 = .bool false := g8; exact ⟨by simp [Region.wanted, yielded, g8], .int .i64 j, w2, by clear g8; go_simp, rfl, Fr.refl _ _, by intro h; cases h⟩)
                    · exact StepN.on (fun vs w2 hf hp => by obtain ⟨g10, g11, g8, -⟩ := hp; have g10 : vs 10 = .slice (some ⟨bn, on, none⟩) n2 cn := g10; have g11 : vs 11 = .int .i64 j := g11; have g8 : vs 8 = .bool false := g8; exact ⟨by simp [Region.wanted, yielded, g8], .pointer (some ⟨bn, on + j, none⟩), w2, by clear g8; go_simp, rfl, Fr.refl _ _, by intro h; cases h⟩)
                    · exact StepN.on (fun vs w2 hf hp => by obtain ⟨g12, g8, -⟩ := hp; have g12 : vs 12 = .pointer (some ⟨bn, on + j, none⟩) := g12; have g8 : vs 8 = .bool false := g8; have ce0 := cell_fr0 hf e0; exact ⟨by simp [Region.wanted, yielded, g8], .string C, w2, by clear g8; go_simp, rfl, Fr.refl _ _, by intro h; cases h⟩)
                    · refine StepN.onCall 11 (fun _ => #[.pointer (some ⟨tb, 0, none⟩), .string C]) (fun vs w2 hf hp => ?_)
                      obtain ⟨g9, g13, -, g8, -⟩ := hp; have g9 : vs 9 = .pointer (some ⟨tb, 0, none⟩) := g9; have g13 : vs 13 = .string C := g13; have g8 : vs 8 = .bool false := g8
                      refine ⟨by simp [Region.wanted, yielded, g8], by clear g8; go_simp, ?_⟩
                      refine (T0.out w2 hf).mono ?_
                      rintro e w3 ⟨v, rfl, hr, hf3⟩
                      obtain ⟨a3, q3, e3⟩ := reads_shape hr
                      exact ⟨_, rfl, ⟨a3, q3, e3, hr⟩, hf3, by intro h; cases h⟩
                    · exact StepN.on (fun vs w2 hf hp => by obtain ⟨g8, -⟩ := hp; have g8 : vs 8 = .bool false := g8; exact ⟨by simp [Region.wanted, yielded, g8], .pointer (some ⟨rb, 0, none⟩), w2, by clear g8; go_simp, rfl, Fr.refl _ _, by intro h; cases h⟩)
                    · exact StepN.on (fun vs w2 hf hp => by obtain ⟨g8, -⟩ := hp; have g8 : vs 8 = .bool false := g8; exact ⟨by simp [Region.wanted, yielded, g8], .slice (some ⟨bn, on, none⟩) n2 cn, w2, by clear g8; go_simp, rfl, Fr.refl _ _, by intro h; cases h⟩)
                    · exact StepN.on (fun vs w2 hf hp => by obtain ⟨g8, -⟩ := hp; have g8 : vs 8 = .bool false := g8; exact ⟨by simp [Region.wanted, yielded, g8], .int .i64 j, w2, by clear g8; go_simp, rfl, Fr.refl _ _, by intro h; cases h⟩)
                    · exact StepN.on (fun vs w2 hf hp => by obtain ⟨g16, g17, g8, -⟩ := hp; have g16 : vs 16 = .slice (some ⟨bn, on, none⟩) n2 cn := g16; have g17 : vs 17 = .int .i64 j := g17; have g8 : vs 8 = .bool false := g8; exact ⟨by simp [Region.wanted, yielded, g8], .pointer (some ⟨bn, on + j, none⟩), w2, by clear g8; go_simp, rfl, Fr.refl _ _, by intro h; cases h⟩)
                    · exact StepN.on (fun vs w2 hf hp => by obtain ⟨g18, g8, -⟩ := hp; have g18 : vs 18 = .pointer (some ⟨bn, on + j, none⟩) := g18; have g8 : vs 8 = .bool false := g8; have ce0 := cell_fr0 hf e0; exact ⟨by simp [Region.wanted, yielded, g8], .string C, w2, by clear g8; go_simp, rfl, Fr.refl _ _, by intro h; cases h⟩)
                    · refine StepN.onCall 24 (fun _ => #[.pointer (some ⟨rb, 0, none⟩), .string C]) (fun vs w2 hf hp => ?_)
                      obtain ⟨g15, g19, -, g8, -⟩ := hp; have g15 : vs 15 = .pointer (some ⟨rb, 0, none⟩) := g15; have g19 : vs 19 = .string C := g19; have g8 : vs 8 = .bool false := g8
                      refine ⟨by simp [Region.wanted, yielded, g8], by clear g8; go_simp, ?_⟩
                      refine (T1.out w2 hf).mono ?_
                      rintro e w3 ⟨v, rfl, hr, hf3⟩
                      obtain ⟨a3, q3, e3⟩ := reads_shape hr
                      exact ⟨_, rfl, ⟨a3, q3, e3, hr⟩, hf3, by intro h; cases h⟩
                    · refine StepN.onCall 17 (fun vs => #[vs 14, vs 20]) (fun vs w2 hf hp => ?_)
                      obtain ⟨g14, g20, -, g8, -⟩ := hp; obtain ⟨ha, hq, g14, hr3⟩ := g14; have g14 : vs 14 = .slice ha nh hq := g14; obtain ⟨hb, hp2, g20, hr7⟩ := g20; have g20 : vs 20 = .slice hb nh hp2 := g20; have g8 : vs 8 = .bool false := g8
                      refine ⟨by simp [Region.wanted, yielded, g8], by clear g8; go_simp, ?_⟩
                      refine (texts_same w2 _ _ hs nh HNH.out hr3 hr7 hnh9).mono ?_
                      rintro e w3 ⟨rfl, hf3⟩
                      exact ⟨_, rfl, rfl, hf3, by intro h; cases h⟩
                    · exact StepN.on (fun vs w2 hf hp => by obtain ⟨g21, g8, -⟩ := hp; have g21 : vs 21 = .bool true := g21; have g8 : vs 8 = .bool false := g8; exact ⟨by simp [Region.wanted, yielded, g8], .bool false, w2, by clear g8; go_simp, rfl, Fr.refl _ _, by intro h; cases h⟩)
                    · exact StepN.quiet rfl _ rfl (fun vs w2 hf hp => by obtain ⟨g8, g22, -⟩ := hp; have g8 : vs 8 = .bool false := g8; have g22 : vs 22 = .bool false := g22; go_simp)
                    · intro vs w5 hf he _
                      have h23 : vs 23 = .bool false := (he.get 23 (by decide)).1
                      rw [h23]
                      have HFx := hide hf
                      clear he hf h23
                      go_wp2_with fail
                      go_meet
                      case rel => exact ⟨rfl, HFx.out⟩
                  case rest =>
                    obtain ⟨rfl, hf23⟩ := hcut
                    have HF8 := hide ((HFJ.out.trans HF6.out (fun _ _ h => h)).trans hf23 (fun _ _ h => h))
                    clear hf23
                    go_wp2_with fail
                    go_roundw
                    case rel => exact ⟨j + 1, by go_num, by omega, by omega, HF8.out⟩
                    case measure => simp [intOf]; omega
                · have hex : (j : Int) < (n2 : Int) ∧ ¬ (j : Int) < 6 ∨ ¬ (j : Int) < (n2 : Int) := by omega
                  have jk0 : (0 : Int) ≤ (j : Int) := by omega
                  have HS5 := hide (HS4.out.fr0 HFJ.out)
                  clear hjo
                  rcases hex with ⟨jk1, jk2⟩ | jk1
                  all_goals
                    go_wp2_with fail
                    go_roundw
                    case rel => exact ⟨k + 1, X', T', u', R', by go_num, by omega, by omega, HS5.out⟩
                    case measure => simp [intOf]; omega
      · have hex : (k : Int) < (n1 : Int) ∧ ¬ (k : Int) < 60 ∨ ¬ (k : Int) < (n1 : Int) := by omega
        have ik0 : (0 : Int) ≤ (k : Int) := by omega
        clear hgo
        rcases hex with ⟨ik1, ik2⟩ | ik1
        all_goals
          go_wp2_with fail
          go_meet
          case rel => exact ⟨k, X, T, u, R, hk2, HS.out⟩
  case rest =>
    obtain ⟨k, X, T, u, R, hk2, HS⟩ := hcut
    go_wp2_with fail
    refine (known_any _).mono ?_
    rintro e w10 ⟨rfl, hf10⟩
    have HFE := hide (HS.out.fr.trans hf10 (fun _ _ h => h.elim))
    clear hf10
    go_wp2_with fail
    go_ret
    exact ⟨rfl, HFE.out.toBelow (Nat.le_refl _) (fun q hq h => by omega)⟩
end Go.Proofs.Ytkboipnfpcngcaa.LocksPlays
