/- The walk of conclavelaw1.WireReads. -/
import Derived.Test.YtcklmdgmjgkogaaWritten
import Derived.Test.YtcklmdgmjgkogaaKnownWire
import Derived.Test.YtcklmdgmjgkogaaRefReader2
import Derived.Test.YtcklmdgmjgkogaaBookBytes
import Derived.Test.YtcklmdgmjgkogaaBytesOf
import Derived.Deep.CutBlock
import Derived.Deep.RegionHeld3
namespace Go.Proofs.Ytcklmdgmjgkogaa
open Go.RowKit Go.Maps Go.Cv
set_option linter.unusedVariables false
namespace WireReads

set_option maxRecDepth 100000 in
set_option maxHeartbeats 6400000 in
theorem walk (w : World) (v0 : Value) (l0 : List Int) (h0 : Reads w v0 l0.length 1 (l0.flatMap fun z => [.int .u8 z])) (g0 : ∀ x ∈ l0, (Lit.int .u8 x).wf = true) (c0 : l0.length ≤ 1048576)
    (v1 : Value) (l : List Part) (h1 : Reads w v1 l.length 4 (l.flatMap cellsPart)) (g1 : ∀ x ∈ l, (Lit.int .i64 x.1).wf = true ∧ (Lit.int .i64 x.2.1).wf = true ∧ (Lit.int .i64 x.2.2.1).wf = true ∧ x.2.2.2.size ≤ 1048576) (hl : l.length ≤ 1048576)
    (v2 : Value) (q : List Part) (h2 : Reads w v2 q.length 4 (q.flatMap cellsPart)) (g2 : ∀ x ∈ q, (Lit.int .i64 x.1).wf = true ∧ (Lit.int .i64 x.2.1).wf = true ∧ (Lit.int .i64 x.2.2.1).wf = true ∧ x.2.2.2.size ≤ 1048576) (hq : q.length ≤ 1048576) :
    Calls Try.prog 8 #[v0, v1, v2] w fun e w' => e = .returned (.bool true) ∧ Below w.heap.size w w' := by
  obtain ⟨i0, hi0, hz0, hz1, hz2⟩ := info_parts info5
  obtain ⟨bs, hbl, hbs⟩ := bytes_of l0 g0
  have hr0 : Reads w v0 bs.length 1 (bc bs) := by rw [hbl, ← hbs]; exact h0
  have hb0 : bs.length ≤ 1048576 := by rw [hbl]; omega
  clear h0 g0 c0 hbs hbl
  have hsz : ∀ x ∈ l, x.2.2.2.size ≤ 1048576 := fun x hx => (g1 x hx).2.2.2
  have hwr := written_any w v1 l h1 hsz hl
  have hle := pall_le l hsz 40
  obtain ⟨P, hP⟩ : ∃ P, pall l 40 = P := ⟨_, rfl⟩
  rw [hP] at hwr hle
  have HWR := hide hwr
  obtain ⟨n2, hn2⟩ : ∃ n, q.length = n := ⟨_, rfl⟩
  rw [hn2] at h2 hq
  obtain ⟨-, a2, c2, rfl, -, -, -⟩ := id h2
  have HQ := hide h2
  have HN2 := hide hn2
  have HG2 := hide g2
  have HR0 := hide hr0
  obtain ⟨n0, hn0⟩ : ∃ n, bs.length = n := ⟨_, rfl⟩
  obtain ⟨p0, hp0⟩ : ∃ n, P.length = n := ⟨_, rfl⟩
  have HN0 := hide hn0
  have HP0 := hide hp0
  rw [hn0] at hb0 HR0
  rw [hp0] at hle HWR
  have hone := bc_one bs
  have q1 : p0 + n0 ≤ maxLen := by unfold maxLen; omega
  have q2 : (p0 + n0) * 1 ≤ 140737488355328 := by omega
  clear hwr hsz h1 g1 hl hP h2 hn2 g2 hr0 hn0 hp0
  go_enter Try.func8, Try.ntmps8
  go_wp2_with fail
  refine HWR.out.mono ?_
  rintro e w1 ⟨x1, rfl, -, ho1, hf1⟩
  obtain ⟨b, hb⟩ : ∃ b, w.heap.size = b := ⟨_, rfl⟩
  rw [hb] at ho1
  obtain ⟨a1, k1, rfl⟩ := own_shape ho1
  have hr1 := reads_old HR0.out hf1 (fun _ _ => id)
  have hs1 : b ≤ w1.heap.size := by have := hf1.size; omega
  have HO1 := hide ho1
  have HR1 := hide hr1
  have HF1 := hide hf1
  clear ho1 hr1 hf1
  go_upto_region 2 with (at_builtin; refine wpList_append_reads _ rfl _ _ _ rfl b 5 i0 _ 1 1 Try.underlying22 hi0 hz0 hz1 hz2 rfl (by decide) _ p0 _ rfl HO1.out _ n0 _ rfl HR1.out hone q1 q2 hs1 ?_; intro vb w2 hown2 hgrow2 hat2; have HO2 := hide hown2; have HG2' := hide hgrow2; clear hown2 hgrow2 hat2)
  have ho2 := HO2.out
  have hg2 := HG2'.out
  rw [← bc_append] at ho2
  obtain ⟨B, hB⟩ : ∃ B, P ++ bs = B := ⟨_, rfl⟩
  rw [hB] at ho2
  obtain ⟨N, hN⟩ : ∃ N, p0 + n0 = N := ⟨_, rfl⟩
  rw [hN] at ho2
  have hBN : B.length = N := by rw [← hB, List.length_append, HP0.out, HN0.out, hN]
  have hNle : N ≤ 1000000000 := by omega
  obtain ⟨ab, kb, rfl⟩ := own_shape ho2
  have hrB := Reads.of_own ho2
  have hF2 : Fr (fun k => b ≤ k) w w2 := (HF1.out.mono (fun _ _ h => h.elim)).trans (Fr.grown (S := fun k => b ≤ k) hg2 (fun k hk => (HO1.out.lt k hk).1)) (fun _ _ h => h)
  have hvb : ∀ j, (Value.slice ab N kb).ownBlock = some j → b ≤ j ∧ j < w2.heap.size := fun j hj => ho2.lt j hj
  have hrm := roomyBytes_any w2 (.slice ab N kb) B (by rw [hBN]; exact hrB) 165 (by omega)
  rw [hBN] at hrm
  have BN := hide hBN
  have RB := hide hrB
  have F2 := hide hF2
  have VB := hide hvb
  have RM := hide hrm
  clear ho2 hg2 hB hN hBN hrB hF2 hvb hrm HO2 HG2' q1 q2
  go_wp2_with fail
  refine RM.out.mono ?_
  rintro e w3 ⟨g, rfl, hg, hA3, hf3⟩
  have hs3 := hf3.size
  have hs2 := F2.out.size
  have hgl := hA3.lt
  have A3 := hide hA3
  have F3 := hide hf3
  have hp3 := arr_prefix (bs := B) (m := 165) (by rw [BN.out]; exact hA3)
  have hnr := newReader_any w3 _ B hp3 (by rw [BN.out]; omega)
  rw [BN.out] at hnr
  have NR := hide hnr
  clear hA3 hf3 hp3 hnr
  go_wp2_with fail
  refine NR.out.mono ?_
  rintro e w4 ⟨rb, vr, rfl, hrb, hvr, hr4, hf4⟩
  have hs4 := hf4.size
  have hrbl := lt_of_block hr4.blk
  have hvr2 : ∀ j, vr.ownBlock = some j → w3.heap.size ≤ j ∧ j < w4.heap.size := fun j hj => ⟨hvr j hj, (hr4.own.lt j hj).2⟩
  have R4 := hide hr4
  have F4 := hide hf4
  have VR := hide hvr2
  clear hr4 hf4 hvr hvr2
  go_upto_block 0 with fail
  obtain ⟨qb, hqb⟩ : ∃ qb, w4.heap.size = qb := ⟨_, rfl⟩
  have hF5 := Fr.alloc (fun _ => False) w4 (.cells #[.slice ab N kb, .int .i64 0, .bool false, .int .i64 0, .int .i64 0] 50)
  have hB5 := block_alloc w4 (.cells #[.slice ab N kb, .int .i64 0, .bool false, .int .i64 0, .int .i64 0] 50)
  rw [hqb] at hB5
  generalize w4.alloc (.cells #[.slice ab N kb, .int .i64 0, .bool false, .int .i64 0, .int .i64 0] 50) = w5 at *
  rw [hqb]
  have hRr : Rr w5 qb (.slice ab N kb) B ⟨0, 0, 0⟩ := ⟨hB5, by rw [BN.out]; exact ((RB.out.fr F3.out (fun _ _ _ _ => id)).fr F4.out (fun _ _ _ _ => id)).fr hF5 (fun _ _ _ _ => id), fun a n c e => by have := VB.out a.block (by rw [e]; rfl); omega, Nat.zero_le _, by rw [BN.out]; omega⟩
  have D5 := hide hRr
  have R5 := hide (R4.out.fr hF5 id (fun _ _ => id))
  have A5 := hide ((A3.out.fr F4.out id).fr hF5 id)
  have G5 := hide (((F2.out.trans F3.out (fun _ _ h => h.elim)).trans F4.out (fun _ _ h => h.elim)).trans hF5 (fun _ _ h => h.elim))
  have hs5 := hF5.size
  clear hRr hF5 hB5 RB R4 A3
  go_cut [6, 10, 11] from 32 to 126 (fun x i s wx => ∃ r, Rd wx rb vr B r ∧ Rr wx qb (.slice ab N kb) B r ∧ Fr (fun j => j = rb ∨ j = qb) w5 wx)
  case first =>
    go_wp2_with fail
    go_loopw [10, 11] (fun i s wx => ∃ (k : Nat) (r : RS), i = .int .i64 k ∧ k ≤ 40 ∧ k ≤ n2 ∧ Rd wx rb vr B r ∧ Rr wx qb (.slice ab N kb) B r ∧ Fr (fun j => j = rb ∨ j = qb) w5 wx) (fun i _ _ => 40 - (intOf i).toNat)
    case atStart => exact ⟨0, _, rfl, by omega, by omega, R5.out, D5.out, Fr.refl _ _⟩
    case round =>
      obtain ⟨k, r, rfl, hk, hkn, hR, hD, hG⟩ := hrel
      have R := hide hR
      have D := hide hD
      have G := hide hG
      clear hR hD hG
      by_cases hgo : k < n2 ∧ k < 40
      · obtain ⟨hg1, hg2⟩ := hgo
        obtain ⟨x, hx⟩ : ∃ x, q[k]? = some x := ⟨_, List.getElem?_eq_getElem (by have := HN2.out; omega)⟩
        obtain ⟨b0, o0, rfl, hb0, hcell⟩ := row_cells (toC := cellsPart) (s := 4) (fun _ => rfl) HQ.out hx (by decide)
        obtain ⟨kind, z, wide, s⟩ := x
        have old : ∀ wx : World, Fr (fun j => j = rb ∨ j = qb) w5 wx → wx.heap[b0]? = w.heap[b0]? := fun wx f =>
          (f.block b0 (by have := G5.out.size; omega) (by omega)).trans (G5.out.block b0 hb0 (by omega))
        have hold : ∀ wx : World, Fr (fun j => j = rb ∨ j = qb) w5 wx → wx.cell? ⟨b0, o0 + k * 4 + 1, none⟩ = some (.int .i64 z) := fun wx f => hcell 1 _ rfl wx (old wx f)
        have e0 : wr.cell? ⟨b0, o0 + k * 4, none⟩ = some (.int .i64 kind) := hcell 0 _ rfl wr (old wr G.out)
        have e1 := hold wr G.out
        have OLD := hide hold
        have ik0 : (0 : Int) ≤ (k : Int) := by omega
        have ik1 : (k : Int) < (n2 : Int) := by omega
        clear hcell old hold hx
        by_cases k1 : kind = 1
        · subst k1
          go_wp2_with fail
          refine (rdByte_any _ rb vr B _ R.out).mono ?_
          rintro e wa ⟨rfl, h1, h2⟩
          have A1 := hide h1
          have F1' := hide h2
          have D1 := hide (D.out.fr h2 (by omega) (fun a n c e => by have := VB.out a.block (by rw [e]; rfl); omega))
          clear h1 h2
          go_wp2_with fail
          refine (qByte_any _ qb _ B _ D1.out).mono ?_
          rintro e wb ⟨rfl, h1, h2⟩
          have A2 := hide (A1.out.fr h2 (by omega) (fun j hj => by have := VR.out j hj; omega))
          have D2 := hide h1
          have G2 := hide ((G.out.trans F1'.out (fun j _ h => Or.inl h)).trans h2 (fun j _ h => Or.inr h))
          clear h1 h2
          go_wp2_with fail
          refine (left_any _ rb vr B _ A2.out).mono ?_
          rintro e wc ⟨rfl, h1, h2⟩
          have A3' := hide h1
          have D3 := hide (D2.out.fr h2 (by omega) (fun a n c e => by have := VB.out a.block (by rw [e]; rfl); omega))
          have F3' := hide h2
          clear h1 h2
          go_wp2_with fail
          refine (qLeft_any _ qb _ B _ D3.out).mono ?_
          rintro e wd ⟨rfl, h1, h2⟩
          have A4 := hide (A3'.out.fr h2 (by omega) (fun j hj => by have := VR.out j hj; omega))
          have D4 := hide h1
          have G4 := hide ((G2.out.trans F3'.out (fun j _ h => Or.inl h)).trans h2 (fun j _ h => Or.inr h))
          clear h1 h2
          go_wp2_with fail
          go_roundw
          case rel => exact ⟨k + 1, _, by go_num, by omega, by omega, A4.out, D4.out, G4.out⟩
          case measure => simp [intOf]; omega
        by_cases k2 : kind = 2
        · subst k2
          go_wp2_with fail
          refine (rdFour_any _ rb vr B _ R.out).mono ?_
          rintro e wa ⟨rfl, h1, h2⟩
          have A1 := hide h1
          have F1' := hide h2
          have D1 := hide (D.out.fr h2 (by omega) (fun a n c e => by have := VB.out a.block (by rw [e]; rfl); omega))
          clear h1 h2
          go_wp2_with fail
          refine (qFour_any _ qb _ B _ D1.out).mono ?_
          rintro e wb ⟨rfl, h1, h2⟩
          have A2 := hide (A1.out.fr h2 (by omega) (fun j hj => by have := VR.out j hj; omega))
          have D2 := hide h1
          have G2 := hide ((G.out.trans F1'.out (fun j _ h => Or.inl h)).trans h2 (fun j _ h => Or.inr h))
          clear h1 h2
          go_wp2_with fail
          refine (left_any _ rb vr B _ A2.out).mono ?_
          rintro e wc ⟨rfl, h1, h2⟩
          have A3' := hide h1
          have D3 := hide (D2.out.fr h2 (by omega) (fun a n c e => by have := VB.out a.block (by rw [e]; rfl); omega))
          have F3' := hide h2
          clear h1 h2
          go_wp2_with fail
          refine (qLeft_any _ qb _ B _ D3.out).mono ?_
          rintro e wd ⟨rfl, h1, h2⟩
          have A4 := hide (A3'.out.fr h2 (by omega) (fun j hj => by have := VR.out j hj; omega))
          have D4 := hide h1
          have G4 := hide ((G2.out.trans F3'.out (fun j _ h => Or.inl h)).trans h2 (fun j _ h => Or.inr h))
          clear h1 h2
          go_wp2_with fail
          go_roundw
          case rel => exact ⟨k + 1, _, by go_num, by omega, by omega, A4.out, D4.out, G4.out⟩
          case measure => simp [intOf]; omega
        by_cases k3 : kind = 3
        · subst k3
          go_wp2_with fail
          refine (rdEight_any _ rb vr B _ R.out).mono ?_
          rintro e wa ⟨rfl, h1, h2⟩
          have A1 := hide h1
          have F1' := hide h2
          have D1 := hide (D.out.fr h2 (by omega) (fun a n c e => by have := VB.out a.block (by rw [e]; rfl); omega))
          clear h1 h2
          go_wp2_with fail
          refine (qEight_any _ qb _ B _ D1.out).mono ?_
          rintro e wb ⟨rfl, h1, h2⟩
          have A2 := hide (A1.out.fr h2 (by omega) (fun j hj => by have := VR.out j hj; omega))
          have D2 := hide h1
          have G2 := hide ((G.out.trans F1'.out (fun j _ h => Or.inl h)).trans h2 (fun j _ h => Or.inr h))
          clear h1 h2
          go_wp2_with fail
          refine (left_any _ rb vr B _ A2.out).mono ?_
          rintro e wc ⟨rfl, h1, h2⟩
          have A3' := hide h1
          have D3 := hide (D2.out.fr h2 (by omega) (fun a n c e => by have := VB.out a.block (by rw [e]; rfl); omega))
          have F3' := hide h2
          clear h1 h2
          go_wp2_with fail
          refine (qLeft_any _ qb _ B _ D3.out).mono ?_
          rintro e wd ⟨rfl, h1, h2⟩
          have A4 := hide (A3'.out.fr h2 (by omega) (fun j hj => by have := VR.out j hj; omega))
          have D4 := hide h1
          have G4 := hide ((G2.out.trans F3'.out (fun j _ h => Or.inl h)).trans h2 (fun j _ h => Or.inr h))
          clear h1 h2
          go_wp2_with fail
          go_roundw
          case rel => exact ⟨k + 1, _, by go_num, by omega, by omega, A4.out, D4.out, G4.out⟩
          case measure => simp [intOf]; omega
        by_cases k4 : kind = 4
        · subst k4
          go_wp2_with fail
          go_region_held3 (fun w' => w'.cell? ⟨b0, o0 + k * 4 + 1, none⟩ = some (.int .i64 z))
            (first | exact e1 | exact e2 | exact e3)
            (first
              | (go_at_call 23
                 refine (rdText_any _ rb vr B _ (R.out.fr (Fr.refl (fun _ => False) wr).drew id (fun _ _ => id)) z).mono ?_
                 rintro e wa ⟨rfl, h1, h2⟩
                 have A1 := hide h1
                 have F1' := hide ((Fr.refl (fun j => j = rb) wr).drew.trans h2 (fun _ _ h => h))
                 have D1 := hide (D.out.fr F1'.out (by omega) (fun a n c e => by have := VB.out a.block (by rw [e]; rfl); omega))
                 have G1 := hide (G.out.trans F1'.out (fun j _ h => Or.inl h))
                 have e2 := OLD.out wa G1.out
                 clear h1 h2)
              | (go_at_call 30
                 refine (qText_any _ qb _ B _ D1.out z).mono ?_
                 rintro e wb ⟨rfl, h1, h2⟩
                 have A2 := hide (A1.out.fr h2 (by omega) (fun j hj => by have := VR.out j hj; omega))
                 have D2 := hide h1
                 have G2 := hide (G1.out.trans h2 (fun j _ h => Or.inr h))
                 have e3 := OLD.out wb G2.out
                 clear h1 h2))
          go_wp2_with fail
          refine (left_any _ rb vr B _ A2.out).mono ?_
          rintro e wc ⟨rfl, h1, h2⟩
          have A3' := hide h1
          have D3 := hide (D2.out.fr h2 (by omega) (fun a n c e => by have := VB.out a.block (by rw [e]; rfl); omega))
          have F3' := hide h2
          clear h1 h2
          go_wp2_with fail
          refine (qLeft_any _ qb _ B _ D3.out).mono ?_
          rintro e wd ⟨rfl, h1, h2⟩
          have A4 := hide (A3'.out.fr h2 (by omega) (fun j hj => by have := VR.out j hj; omega))
          have D4 := hide h1
          have G4 := hide ((G2.out.trans F3'.out (fun j _ h => Or.inl h)).trans h2 (fun j _ h => Or.inr h))
          clear h1 h2
          go_wp2_with fail
          go_roundw
          case rel => exact ⟨k + 1, _, by go_num, by omega, by omega, A4.out, D4.out, G4.out⟩
          case measure => simp [intOf]; omega
        by_cases k5 : kind = 5
        · subst k5
          go_wp2_with fail
          go_region_held3 (fun w' => w'.cell? ⟨b0, o0 + k * 4 + 1, none⟩ = some (.int .i64 z))
            (first | exact e1 | exact e2 | exact e3)
            (first
              | (go_at_call 31
                 refine (count_any _ rb vr B _ (R.out.fr (Fr.refl (fun _ => False) wr).drew id (fun _ _ => id)) z).mono ?_
                 rintro e wa ⟨rfl, h1, h2⟩
                 have A1 := hide h1
                 have F1' := hide ((Fr.refl (fun j => j = rb) wr).drew.trans h2 (fun _ _ h => h))
                 have D1 := hide (D.out.fr F1'.out (by omega) (fun a n c e => by have := VB.out a.block (by rw [e]; rfl); omega))
                 have G1 := hide (G.out.trans F1'.out (fun j _ h => Or.inl h))
                 have e2 := OLD.out wa G1.out
                 clear h1 h2)
              | (go_at_call 32
                 refine (qCount_any _ qb _ B _ D1.out z).mono ?_
                 rintro e wb ⟨rfl, h1, h2⟩
                 have A2 := hide (A1.out.fr h2 (by omega) (fun j hj => by have := VR.out j hj; omega))
                 have D2 := hide h1
                 have G2 := hide (G1.out.trans h2 (fun j _ h => Or.inr h))
                 have e3 := OLD.out wb G2.out
                 clear h1 h2))
          go_wp2_with fail
          refine (left_any _ rb vr B _ A2.out).mono ?_
          rintro e wc ⟨rfl, h1, h2⟩
          have A3' := hide h1
          have D3 := hide (D2.out.fr h2 (by omega) (fun a n c e => by have := VB.out a.block (by rw [e]; rfl); omega))
          have F3' := hide h2
          clear h1 h2
          go_wp2_with fail
          refine (qLeft_any _ qb _ B _ D3.out).mono ?_
          rintro e wd ⟨rfl, h1, h2⟩
          have A4 := hide (A3'.out.fr h2 (by omega) (fun j hj => by have := VR.out j hj; omega))
          have D4 := hide h1
          have G4 := hide ((G2.out.trans F3'.out (fun j _ h => Or.inl h)).trans h2 (fun j _ h => Or.inr h))
          clear h1 h2
          go_wp2_with fail
          go_roundw
          case rel => exact ⟨k + 1, _, by go_num, by omega, by omega, A4.out, D4.out, G4.out⟩
          case measure => simp [intOf]; omega
        by_cases k6 : kind = 6
        · subst k6
          have hf1 := fail_any wr rb vr B _ R.out z
          have hf2 := fun (wx : World) (hx : Rr wx qb (.slice ab N kb) B r) => qFail_any wx qb _ B _ hx z
          obtain ⟨r', hr'⟩ : ∃ r', (if z = 0 then r else r.refuse z r.at_) = r' := ⟨_, rfl⟩
          rw [hr'] at hf1 hf2
          have HF1' := hide hf1
          have HF2' := hide hf2
          clear hf1 hf2 hr'
          go_wp2_with fail
          refine HF1'.out.mono ?_
          rintro e wa ⟨rfl, h1, h2⟩
          have A1 := hide h1
          have F1' := hide h2
          have e2 := OLD.out wa (G.out.trans h2 (fun j _ h => Or.inl h))
          have D1 := hide (D.out.fr h2 (by omega) (fun a n c e => by have := VB.out a.block (by rw [e]; rfl); omega))
          clear h1 h2
          go_wp2_with fail
          refine (HF2'.out _ D1.out).mono ?_
          rintro e wb ⟨rfl, h1, h2⟩
          have A2 := hide (A1.out.fr h2 (by omega) (fun j hj => by have := VR.out j hj; omega))
          have D2 := hide h1
          have G2 := hide ((G.out.trans F1'.out (fun j _ h => Or.inl h)).trans h2 (fun j _ h => Or.inr h))
          clear h1 h2
          go_wp2_with fail
          refine (left_any _ rb vr B _ A2.out).mono ?_
          rintro e wc ⟨rfl, h1, h2⟩
          have A3' := hide h1
          have D3 := hide (D2.out.fr h2 (by omega) (fun a n c e => by have := VB.out a.block (by rw [e]; rfl); omega))
          have F3' := hide h2
          clear h1 h2
          go_wp2_with fail
          refine (qLeft_any _ qb _ B _ D3.out).mono ?_
          rintro e wd ⟨rfl, h1, h2⟩
          have A4 := hide (A3'.out.fr h2 (by omega) (fun j hj => by have := VR.out j hj; omega))
          have D4 := hide h1
          have G4 := hide ((G2.out.trans F3'.out (fun j _ h => Or.inl h)).trans h2 (fun j _ h => Or.inr h))
          clear h1 h2
          go_wp2_with fail
          go_roundw
          case rel => exact ⟨k + 1, _, by go_num, by omega, by omega, A4.out, D4.out, G4.out⟩
          case measure => simp [intOf]; omega
        have A2 := R
        have D2 := D
        have G2 := G
        go_wp2_with fail
        refine (left_any _ rb vr B _ A2.out).mono ?_
        rintro e wc ⟨rfl, h1, h2⟩
        have A3' := hide h1
        have D3 := hide (D2.out.fr h2 (by omega) (fun a n c e => by have := VB.out a.block (by rw [e]; rfl); omega))
        have F3' := hide h2
        clear h1 h2
        go_wp2_with fail
        refine (qLeft_any _ qb _ B _ D3.out).mono ?_
        rintro e wd ⟨rfl, h1, h2⟩
        have A4 := hide (A3'.out.fr h2 (by omega) (fun j hj => by have := VR.out j hj; omega))
        have D4 := hide h1
        have G4 := hide ((G2.out.trans F3'.out (fun j _ h => Or.inl h)).trans h2 (fun j _ h => Or.inr h))
        clear h1 h2
        go_wp2_with fail
        go_roundw
        case rel => exact ⟨k + 1, _, by go_num, by omega, by omega, A4.out, D4.out, G4.out⟩
        case measure => simp [intOf]; omega
      · have hex : n2 ≤ k ∨ (k < n2 ∧ 40 ≤ k) := by omega
        clear hgo
        rcases hex with hx | ⟨hx, hx2⟩
        all_goals
          go_wp2_with fail
          go_meet
          case rel => exact ⟨r, R.out, D.out, G.out⟩
  case rest =>
    obtain ⟨r, hR, hD, hG⟩ := hcut
    have R := hide hR
    have D := hide hD
    have G := hide hG
    clear hR hD hG
    obtain ⟨⟨ew, ea⟩, hE⟩ : ∃ p, RS.end_ B r = p := ⟨_, rfl⟩
    have HE := hide hE
    clear hE
    go_wp2_with fail
    refine (end_any _ rb vr B _ R.out).mono ?_
    rintro e wa ⟨rfl, h1, h2⟩
    rw [HE.out]
    have F1' := hide h2
    have D1 := hide (D.out.fr h2 (by omega) (fun a n c e => by have := VB.out a.block (by rw [e]; rfl); omega))
    clear h1 h2
    go_wp2_with fail
    refine (qEnd_any _ qb _ B _ D1.out).mono ?_
    rintro e wb ⟨rfl, h1, h2⟩
    rw [HE.out]
    have D2 := hide h1
    have G2 := hide ((G.out.trans F1'.out (fun j _ h => Or.inl h)).trans h2 (fun j _ h => Or.inr h))
    clear h1 h2
    have hA6 : Arr wb g 5 (B.length + 80) (rcell B 165) := by rw [BN.out]; exact A5.out.fr G2.out (by omega)
    have hin := intactBytes_any wb g _ B 165 hA6 D2.out.rd (by rw [BN.out]; omega)
    rw [BN.out] at hin
    have IN := hide hin
    clear hA6 hin
    go_wp2_with fail
    refine IN.out.mono ?_
    rintro e wc ⟨rfl, h1⟩
    have G3 := hide (G2.out.trans h1 (fun _ _ h => h.elim))
    clear h1
    go_wp2_with fail
    refine (known_any _).mono ?_
    rintro e wd ⟨rfl, h1⟩
    have G4 := hide (G3.out.trans h1 (fun _ _ h => h.elim))
    clear h1
    go_wp2_with fail
    go_ret
    exact ⟨rfl, (G5.out.trans G4.out (fun j _ h => by omega)).toBelow (by omega) (fun k hk => by omega)⟩
end WireReads
end Go.Proofs.Ytcklmdgmjgkogaa
