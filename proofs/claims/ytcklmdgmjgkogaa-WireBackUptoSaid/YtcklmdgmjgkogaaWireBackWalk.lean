/- The walk of conclavelaw1.WireBack. -/
import Derived.Test.YtcklmdgmjgkogaaReadBack
import Derived.Test.YtcklmdgmjgkogaaKnownWire
import Derived.Test.YtcklmdgmjgkogaaRows2
import Derived.Deep.RegionHeld3
import Derived.Deep.CutBlock
namespace Go.Proofs.Ytcklmdgmjgkogaa
open Go.RowKit Go.Maps Go.Cv
set_option linter.unusedVariables false
namespace WireBack

abbrev Part := Int × Int × Int × ByteArray
abbrev cellsPart (a : Part) : List Value := [.int .i64 a.1, .int .i64 a.2.1, .int .i64 a.2.2.1, .string a.2.2.2]
def bb (a : Part) : List UInt8 := beN (u64 a.2.1) 1 ++ (beN (u64 a.2.1) 4 ++ (beN (u64 a.2.2.1) 8 ++ (beN (u64 a.2.2.2.size) 4 ++ a.2.2.2.data.toList)))
def ball (l : List Part) (k : Nat) : List UInt8 := (l.take k).flatMap bb
theorem ball_succ {l : List Part} {k : Nat} {x : Part} (h : l[k]? = some x) : ball l (k + 1) = ball l k ++ bb x := by
  unfold ball; rw [List.take_add_one, h]; simp
theorem size_list (s : ByteArray) : s.data.toList.length = s.size := Array.length_toList
theorem bb_length (a : Part) : (bb a).length = 17 + a.2.2.2.size := by
  unfold bb
  simp only [List.length_append, beN_length, size_list]
  omega
theorem ball_le (l : List Part) (h : ∀ x ∈ l, x.2.2.2.size ≤ 1048576) (k : Nat) : (ball l k).length ≤ k * 1048600 := by
  induction k with
  | zero => simp [ball]
  | succ k ih =>
    cases hx : l[k]? with
    | none =>
      have : ball l (k + 1) = ball l k := by unfold ball; rw [List.take_add_one, hx]; simp
      rw [this, Nat.succ_mul]; exact Nat.le_add_right_of_le ih
    | some x =>
      have := h x (List.mem_of_getElem? hx)
      rw [ball_succ hx, List.length_append, Nat.succ_mul, bb_length]
      exact Nat.add_le_add ih (by omega)
theorem ball_split {l : List Part} {k : Nat} {x : Part} (h : l[k]? = some x) (hk : k < 60) : ∃ post, ball l 60 = ball l k ++ (bb x ++ post) := by
  refine ⟨((l.drop (k + 1)).take (59 - k)).flatMap bb, ?_⟩
  have hkl := (List.getElem?_eq_some_iff.1 h).1
  have e : l.take 60 = l.take k ++ (x :: (l.drop (k + 1)).take (59 - k)) := by
    have e1 : l.take 60 = (l.take k) ++ (l.drop k).take (60 - k) := by
      rw [← List.take_add]; congr 1; omega
    rw [e1, List.drop_eq_getElem_cons hkl, show 60 - k = (59 - k) + 1 by omega, List.take_succ_cons]
    congr 2
    simpa [List.getElem?_eq_getElem hkl] using h
  unfold ball
  rw [e, List.flatMap_append, List.flatMap_cons]

theorem backs {D B post : List UInt8} {kind z wide : Int} {s : ByteArray} (h : D = B ++ (bb (kind, z, wide, s) ++ post)) (hw : (Lit.int .i64 wide).wf = true) (hs : s.size ≤ 1048576) :
    ∃ p1 p2 p3 : Nat, (p1 : Int) = z % 256 ∧ (p2 : Int) = z % 4294967296 ∧ IntKind.i64.wrap (p3 : Int) = wide ∧
      RS.get D ⟨B.length, 0, 0⟩ 1 = (p1, ⟨B.length + 1, 0, 0⟩) ∧ RS.get D ⟨B.length + 1, 0, 0⟩ 4 = (p2, ⟨B.length + 5, 0, 0⟩) ∧ RS.get D ⟨B.length + 5, 0, 0⟩ 8 = (p3, ⟨B.length + 13, 0, 0⟩) ∧
      RS.text D ⟨B.length + 13, 0, 0⟩ s.size = (s.data.toList, ⟨B.length + (17 + s.size), 0, 0⟩) := by
  unfold bb at h
  simp only at h
  have z0 : D = B ++ (beN (u64 z) 1 ++ (beN (u64 z) 4 ++ (beN (u64 wide) 8 ++ (beN (u64 s.size) 4 ++ s.data.toList)) ++ post)) := by rw [h]; simp only [List.append_assoc]
  have z1 : D = (B ++ beN (u64 z) 1) ++ (beN (u64 z) 4 ++ (beN (u64 wide) 8 ++ (beN (u64 s.size) 4 ++ s.data.toList) ++ post)) := by rw [h]; simp only [List.append_assoc]
  have z2 : D = (B ++ beN (u64 z) 1 ++ beN (u64 z) 4) ++ (beN (u64 wide) 8 ++ (beN (u64 s.size) 4 ++ s.data.toList ++ post)) := by rw [h]; simp only [List.append_assoc]
  have z3 : D = (B ++ beN (u64 z) 1 ++ beN (u64 z) 4 ++ beN (u64 wide) 8) ++ (beN (u64 s.size) 4 ++ (s.data.toList ++ post)) := by rw [h]; simp only [List.append_assoc]
  rw [u64_nat s.size (by omega)] at z3
  have q0 := get_at z0 (by omega) (r := ⟨B.length, 0, 0⟩) rfl
  have q1 := get_at z1 (by omega) (r := ⟨B.length + 1, 0, 0⟩) (by rw [List.length_append, beN_length])
  have q2 := get_at z2 (by omega) (r := ⟨B.length + 5, 0, 0⟩) (by rw [List.length_append, List.length_append, beN_length, beN_length])
  have q3 := text_at (most := (s.size : Int)) z3 (size_list s) (by omega) (by omega) (r := ⟨B.length + 13, 0, 0⟩) (by rw [List.length_append, List.length_append, List.length_append, beN_length, beN_length, beN_length])
  simp only [List.length_append, beN_length] at q1 q2 q3
  refine ⟨_, _, _, u8_back z, u32_back z, i64_back wide hw, q0, q1, q2, ?_⟩
  rw [q3]
  congr 2
  omega

theorem and255 (z : Int) : bits BinOp.and IntKind.i64 z 255 = z % 256 := by
  have h : (BitVec.ofInt 64 z &&& BitVec.ofInt 64 255).toNat = (z % 256).toNat := by
    rw [BitVec.toNat_and]
    have e : (BitVec.ofInt 64 255).toNat = 2 ^ 8 - 1 := by decide
    rw [e, Nat.and_two_pow_sub_one_eq_mod, BitVec.toNat_ofInt]
    omega
  unfold bits
  refine (congrArg (fun m : Nat => IntKind.i64.wrap (m : Int)) h).trans ?_
  rw [IntWalk.i64_in _ (by omega)]
  omega

/-- How the world stands. -/
structure ST (w wx : World) (b : Nat) (u : Value) (xs : List UInt8) : Prop where
  wt : Wt wx b u xs
  ob : ∀ k, u.ownBlock = some k → b ≤ k
  fr : Fr (fun k => b ≤ k) w wx
theorem ST.wrote {w wx wy : World} {b : Nat} {u : Value} {xs ys : List UInt8} (hb : b ≤ wx.heap.size) (h : ST w wx b u xs) (g : Wrote wx wy b u ys) : ∃ u', ST w wy b u' ys := by
  obtain ⟨v, h1, h2, h3⟩ := g
  refine ⟨v, h1, fun j hj => ?_, h.fr.trans h3 (fun j _ hh => ?_)⟩
  · rcases h2 with h2 | h2
    · rw [h2] at hj; exact h.ob j hj
    · have := h2 j hj; omega
  · rcases hh with hh | hh
    · omega
    · exact h.ob j hh

set_option maxRecDepth 100000 in
set_option maxHeartbeats 3200000 in
theorem walk (w : World) (v0 : Value) (l : List Part) (h0 : Reads w v0 l.length 4 (l.flatMap cellsPart)) (hg : ∀ x ∈ l, (Lit.int .i64 x.1).wf = true ∧ (Lit.int .i64 x.2.1).wf = true ∧ (Lit.int .i64 x.2.2.1).wf = true ∧ x.2.2.2.size ≤ 1048576) (hl : l.length ≤ 1048576) :
    Calls Try.prog 6 #[v0] w fun e w' => e = .returned (.bool true) ∧ Below w.heap.size w w' := by
  have hsz : ∀ x ∈ l, x.2.2.2.size ≤ 1048576 := fun x hx => (hg x hx).2.2.2
  obtain ⟨n0, hn0⟩ : ∃ n, l.length = n := ⟨_, rfl⟩
  rw [hn0] at h0 hl
  obtain ⟨-, a0, c0, rfl, -, -, -⟩ := id h0
  have HC0 := hide h0
  have HN0 := hide hn0
  have hle := ball_le l hsz
  have HLE := hide hle
  have HG := hide hg
  clear h0 hn0 hle hsz hg
  go_enter Try.func6, Try.ntmps6
  go_wp2_with fail
  refine (newWriter_any _).mono ?_
  rintro e w1 ⟨rfl, hw1, hf1⟩
  obtain ⟨b, hb⟩ : ∃ b, w.heap.size = b := ⟨_, rfl⟩
  rw [hb] at hw1 ⊢
  have W1 := hide (⟨hw1, (fun k h => by cases h), hf1.mono (fun _ _ h => h.elim)⟩ : ST w w1 b (.slice none 0 0) [])
  clear hw1 hf1
  go_upto_block 0 with fail
  go_cut [4] from 12 to 49 (fun i wx => ∃ u, ST w wx b u (ball l 60))
  case first =>
    go_wp2_with fail
    go_loopw [4] (fun i wr => ∃ (k : Nat) (u : Value), i = .int .i64 k ∧ k ≤ 60 ∧ k ≤ n0 ∧ ST w wr b u (ball l k)) (fun i _ => 60 - (intOf i).toNat)
    case atStart => exact ⟨0, _, rfl, by omega, by omega, W1.out⟩
    case round =>
      obtain ⟨k, u, rfl, hk, hkn, hr⟩ := hrel
      have R := hide hr
      clear hr
      by_cases hgo : k < n0 ∧ k < 60
      · obtain ⟨hg1, hg2⟩ := hgo
        obtain ⟨x, hx⟩ : ∃ x, l[k]? = some x := ⟨_, List.getElem?_eq_getElem (by have := HN0.out; omega)⟩
        obtain ⟨b0, o0, rfl, hb0, hcell⟩ := row_cells (toC := cellsPart) (s := 4) (fun _ => rfl) HC0.out hx (by decide)
        have hsx := (HG.out x (List.mem_of_getElem? hx)).2.2.2
        have hbd := HLE.out k
        have hps := ball_succ hx
        obtain ⟨kind, z, wide, s⟩ := x
        have hsx' : s.size ≤ 1048576 := hsx
        have old : ∀ wx : World, Fr (fun k => b ≤ k) w wx → wx.cell? ⟨b0, o0 + k * 4 + 1, none⟩ = some (.int .i64 z) ∧ wx.cell? ⟨b0, o0 + k * 4 + 2, none⟩ = some (.int .i64 wide) ∧ wx.cell? ⟨b0, o0 + k * 4 + 3, none⟩ = some (.string s) := fun wx f => by
          have hw := f.block b0 hb0 (by omega)
          exact ⟨hcell 1 _ rfl wx hw, hcell 2 _ rfl wx hw, hcell 3 _ rfl wx hw⟩
        have OLD := hide old
        have HPS := hide hps
        have ik0 : (0 : Int) ≤ (k : Int) := by omega
        have ik1 : (k : Int) < (n0 : Int) := by omega
        have hsr := R.out.fr.size
        have e1 := (OLD.out wr R.out.fr).1
        clear hcell hx hsx hps old
        go_wp2_with fail
        refine (byte_any _ b u _ R.out.wt z (by omega)).mono ?_
        rintro e w2 ⟨rfl, h2⟩
        obtain ⟨u2, r2⟩ := R.out.wrote (by omega) h2
        have hs2 := r2.fr.size
        have e2 := (OLD.out w2 r2.fr).1
        have R2 := hide r2
        clear e1 h2 r2
        go_wp2_with fail
        refine (four_any _ b u2 _ R2.out.wt z (by simp [beN_length]; omega)).mono ?_
        rintro e w3 ⟨rfl, h3⟩
        obtain ⟨u3, r3⟩ := R2.out.wrote (by omega) h3
        have hs3 := r3.fr.size
        have e3 := (OLD.out w3 r3.fr).2.1
        have R3 := hide r3
        clear e2 h3 r3
        go_wp2_with fail
        refine (eight_any _ b u3 _ R3.out.wt wide (by simp [beN_length]; omega)).mono ?_
        rintro e w4 ⟨rfl, h4⟩
        obtain ⟨u4, r4⟩ := R3.out.wrote (by omega) h4
        have hs4 := r4.fr.size
        have e4 := (OLD.out w4 r4.fr).2.2
        have R4 := hide r4
        clear e3 h4 r4
        go_wp2_with fail
        refine (text_any _ b u4 _ R4.out.wt s (by simp [beN_length]; omega)).mono ?_
        rintro e w5 ⟨rfl, h5⟩
        obtain ⟨u5, r5⟩ := R4.out.wrote (by omega) h5
        have e5 : ball l k ++ beN (u64 z) 1 ++ beN (u64 z) 4 ++ beN (u64 wide) 8 ++ beN (u64 s.size) 4 ++ s.data.toList = ball l (k + 1) := by
          rw [HPS.out]; unfold bb; simp only [List.append_assoc]
        rw [e5] at r5
        have R5 := hide r5
        clear e4 e5 h5 r5
        go_wp2_with fail
        go_roundw
        case rel => exact ⟨k + 1, _, by go_num, by omega, by omega, R5.out⟩
        case measure => simp [intOf]; omega
      · have hex : n0 ≤ k ∨ (k < n0 ∧ 60 ≤ k) := by omega
        have e5 : ball l k = ball l 60 := by
          have := HN0.out
          rcases hex with h | h
          · unfold ball; rw [List.take_of_length_le (by omega), List.take_of_length_le (by omega)]
          · rw [show k = 60 by omega]
        have T0 := hide (e5 ▸ R.out : ST w wr b u (ball l 60))
        clear hgo e5
        rcases hex with hx | ⟨hx, hx2⟩
        all_goals
          go_wp2_with fail
          go_meet
          case rel => exact ⟨u, T0.out⟩
  case rest =>
    obtain ⟨u, hst⟩ := hcut
    rename_i wc
    have hbd := HLE.out 60
    have hsc := hst.fr.size
    have T0 := hide hst
    clear hst
    go_wp2_with fail
    refine (done_any _ b u _ T0.out.wt (by omega)).mono ?_
    rintro e w2 ⟨v2, rfl, ho2, hf2⟩
    have hr2 := Reads.of_own ho2
    have hs2 := hf2.size
    have F2 := hide (T0.out.fr.trans hf2 (fun _ _ h => h.elim))
    have NR := hide (newReader_any w2 v2 (ball l 60) hr2 (by omega))
    obtain ⟨a2, c2, rfl⟩ := own_shape ho2
    clear ho2 hf2 hr2
    go_wp2_with fail
    refine NR.out.mono ?_
    rintro e w3 ⟨rb, vb, rfl, hrb, hvb, hr3, hf3⟩
    have F3 := hide (F2.out.trans hf3 (fun _ _ h => h.elim))
    have R3 := hide hr3
    clear hr3 hf3 hvb
    obtain ⟨D, hD⟩ : ∃ D, ball l 60 = D := ⟨_, rfl⟩
    have DD := hide hD
    rw [hD] at R3 hbd
    clear hD
    go_upto_block 2 with fail
    go_cut [2, 6] from 55 to 111 (fun r i wx => Rd wx rb vb D ⟨D.length, 0, 0⟩ ∧ Fr (fun k => b ≤ k) w wx)
    case first =>
      go_wp2_with fail
      go_loopw [6] (fun i wr => ∃ (k : Nat), i = .int .i64 k ∧ k ≤ 60 ∧ k ≤ n0 ∧ Rd wr rb vb D ⟨(ball l k).length, 0, 0⟩ ∧ Fr (fun k => b ≤ k) w wr) (fun i _ => 60 - (intOf i).toNat)
      case atStart => exact ⟨0, rfl, by omega, by omega, R3.out, F3.out⟩
      case round =>
        obtain ⟨k, rfl, hk, hkn, hr, hf⟩ := hrel
        have R := hide hr
        have F := hide hf
        clear hr hf
        by_cases hgo : k < n0 ∧ k < 60
        · obtain ⟨hg1, hg2⟩ := hgo
          obtain ⟨x, hx⟩ : ∃ x, l[k]? = some x := ⟨_, List.getElem?_eq_getElem (by have := HN0.out; omega)⟩
          obtain ⟨b0, o0, rfl, hb0, hcell⟩ := row_cells (toC := cellsPart) (s := 4) (fun _ => rfl) HC0.out hx (by decide)
          have hgx := HG.out x (List.mem_of_getElem? hx)
          obtain ⟨post, hpost⟩ := ball_split hx hg2
          rw [DD.out] at hpost
          have hps := ball_succ hx
          obtain ⟨kind, z, wide, s⟩ := x
          obtain ⟨-, hz, hwd, hsx⟩ := hgx
          have hsx' : s.size ≤ 1048576 := hsx
          obtain ⟨B, hB⟩ : ∃ B, ball l k = B := ⟨_, rfl⟩
          have hlen : (ball l (k + 1)).length = B.length + (17 + s.size) := by rw [hps, List.length_append, bb_length, hB]
          rw [hB] at hpost R
          obtain ⟨p1, p2, p3, hp1, hp2, hp3, q0, q1, q2, q3⟩ := backs hpost hwd hsx
          have Q0 := hide q0
          have Q1 := hide q1
          have Q2 := hide q2
          have Q3 := hide q3
          have P3 := hide hp3
          have old : ∀ wx : World, Fr (fun k => b ≤ k) w wx → wx.cell? ⟨b0, o0 + k * 4 + 1, none⟩ = some (.int .i64 z) ∧ wx.cell? ⟨b0, o0 + k * 4 + 2, none⟩ = some (.int .i64 wide) ∧ wx.cell? ⟨b0, o0 + k * 4 + 3, none⟩ = some (.string s) := fun wx f => by
            have hw := f.block b0 hb0 (by omega)
            exact ⟨hcell 1 _ rfl wx hw, hcell 2 _ rfl wx hw, hcell 3 _ rfl wx hw⟩
          have OLD := hide old
          have HLEN := hide hlen
          have ha := and255 z
          have hu : IntKind.u32.wrap z = z % 4294967296 := by simp [IntKind.wrap, IntKind.signed, IntKind.bits]
          have hv : IntKind.i64.wrap (z % 4294967296) = z % 4294967296 := IntWalk.i64_in _ (by omega)
          have ik0 : (0 : Int) ≤ (k : Int) := by omega
          have ik1 : (k : Int) < (n0 : Int) := by omega
          have hsf := F.out.size
          have hs3 := F3.out.size
          have hrbb : b ≤ rb := by have := F2.out.size; omega
          have G0 := hide (F.out.trans (Fr.refl (fun j => b ≤ j) wr).drew (fun _ _ h => h))
          have A0 := hide (R.out.fr (Fr.refl (fun _ => False) wr).drew id (fun _ _ => id))
          have k0 := OLD.out _ G0.out
          clear hcell hx hps old hpost q0 q1 q2 q3 hp3 hB hlen hz hwd hsx
          go_wp2_with fail
          go_region_held3 (fun w' => w'.cell? ⟨b0, o0 + k * 4 + 1, none⟩ = some (.int .i64 z) ∧ w'.cell? ⟨b0, o0 + k * 4 + 2, none⟩ = some (.int .i64 wide) ∧ w'.cell? ⟨b0, o0 + k * 4 + 3, none⟩ = some (.string s))
            (first | exact k0 | exact k1 | exact k2 | exact k3 | exact k4)
            (first
              | (go_at_call 14
                 refine (rdByte_any _ rb vb D _ A0.out).mono ?_
                 rintro e wa ⟨rfl, h1, h2⟩
                 rw [Q0.out] at h1 ⊢
                 have A1 := hide h1
                 have G1 := hide (G0.out.trans h2 (fun j _ h => by omega))
                 have k1 := OLD.out wa G1.out
                 clear h1 h2 A0 G0)
              | (go_at_call 21
                 refine (rdFour_any _ rb vb D _ A1.out).mono ?_
                 rintro e wb ⟨rfl, h1, h2⟩
                 rw [Q1.out] at h1 ⊢
                 have A2 := hide h1
                 have G2 := hide (G1.out.trans h2 (fun j _ h => by omega))
                 have k2 := OLD.out wb G2.out
                 clear h1 h2 A1 G1)
              | (go_at_call 24
                 refine (rdEight_any _ rb vb D _ A2.out).mono ?_
                 rintro e wc ⟨rfl, h1, h2⟩
                 rw [Q2.out] at h1 ⊢
                 rw [P3.out]
                 have A3 := hide h1
                 have G3 := hide (G2.out.trans h2 (fun j _ h => by omega))
                 have k3 := OLD.out wc G3.out
                 clear h1 h2 A2 G2)
              | (go_at_call 23
                 refine (rdText_any _ rb vb D _ A3.out s.size).mono ?_
                 rintro e wd ⟨rfl, h1, h2⟩
                 rw [Q3.out] at h1 ⊢
                 have A4 := hide h1
                 have G4 := hide (G3.out.trans h2 (fun j _ h => by omega))
                 have k4 := OLD.out wd G4.out
                 clear h1 h2 A3 G3))
          go_wp2_with fail
          go_roundw
          case rel => exact ⟨k + 1, by go_num, by omega, by omega, by rw [HLEN.out]; exact A4.out, G4.out⟩
          case measure => simp [intOf]; omega
        · have hex : n0 ≤ k ∨ (k < n0 ∧ 60 ≤ k) := by omega
          have e5 : ball l k = D := by
            rw [← DD.out]
            have := HN0.out
            rcases hex with h | h
            · unfold ball; rw [List.take_of_length_le (by omega), List.take_of_length_le (by omega)]
            · rw [show k = 60 by omega]
          have T1 := hide (e5 ▸ R.out : Rd wr rb vb D ⟨D.length, 0, 0⟩)
          clear hgo e5
          rcases hex with hx | ⟨hx, hx2⟩
          all_goals
            go_wp2_with fail
            go_meet
            case rel => exact ⟨T1.out, F.out⟩
    case rest =>
      obtain ⟨hr, hf⟩ := hcut
      have R := hide hr
      have F := hide hf
      clear hr hf
      go_wp2_with fail
      refine (end_any _ rb vb _ _ R.out).mono ?_
      rintro e w4 ⟨rfl, h1, h2⟩
      have ee : RS.end_ D ⟨D.length, 0, 0⟩ = (0, 0) := by unfold RS.end_; rw [if_pos rfl, if_neg (by simp)]
      have el : RS.left D ⟨D.length, 0, 0⟩ = 0 := by unfold RS.left; rw [if_pos rfl]; simp
      rw [ee]
      have hrbb : b ≤ rb := by have := F2.out.size; omega
      have R4 := hide h1
      have F4 := hide (F.out.trans h2 (fun j _ h => by omega))
      have EL := hide el
      clear h1 h2 ee el
      go_wp2_with fail
      refine (left_any _ rb vb _ _ R4.out).mono ?_
      rintro e w5 ⟨rfl, h1, h2⟩
      rw [EL.out]
      have F5 := hide (F4.out.trans h2 (fun j _ h => by omega))
      clear h1 h2
      go_wp2_with fail
      refine (known_any _).mono ?_
      rintro e w6 ⟨rfl, h1⟩
      have F6 := hide (F5.out.trans h1 (fun j _ h => h.elim))
      clear h1
      go_wp2_with fail
      go_ret
      exact ⟨rfl, F6.out.toBelow (by omega) (fun k hk => by omega)⟩
end WireBack
end Go.Proofs.Ytcklmdgmjgkogaa
