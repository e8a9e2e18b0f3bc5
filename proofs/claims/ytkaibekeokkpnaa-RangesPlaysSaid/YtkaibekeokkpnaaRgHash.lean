/- Hash of sum. -/
import Derived.Test.YtkaibekeokkpnaaRanges
import Derived.Lib.ConvBytes
namespace Go.Proofs.Ytkaibekeokkpnaa
open Go.RowKit Go.Maps Go.Cv Go.Shelf
set_option linter.unusedVariables false

theorem conv_bytes (w : World) (s : ByteArray) : ∃ v w', (convert 9 49 (.string s)).run Try.prog w = .ok v w' ∧ Reads w' v s.data.toList.length 1 (bc s.data.toList) ∧ Fr (fun _ => False) w w' := by
  refine ⟨_, _, Lib.run_convert_string_bytes w 9 49 5 s Try.underlying9 Try.underlying49 Try.underlying5, ?_, ?_⟩
  · have hl : s.data.toList.length = s.size := by simp
    refine ⟨by simp [bc], _, _, by rw [hl], (by intro h; cases h), ?_, fun i u hu => ⟨_, _, rfl, ?_⟩⟩
    · rw [hl]; exact grownCap_ge _ _ _ _
    · have hi : i < s.size := by
        have := (List.getElem?_eq_some_iff.1 hu).1
        simpa [bc] using this
      rw [Nat.zero_add, Lib.bytesWorld_cell w _ s i hi]
      rw [← hu, bc, List.getElem?_map]
      have : s.data.toList[i]? = some s.data.toList[i] := List.getElem?_eq_getElem (by rw [hl]; exact hi)
      rw [this, List.getD, this]; rfl
  · exact ⟨rfl, rfl, rfl, by rw [Lib.bytesWorld_size]; omega, fun k hk _ => Lib.bytesWorld_at_old w _ s k hk⟩

/-- One bit, one byte, all bytes. -/
def crcB (c : Int) : Int := if bits BinOp.and IntKind.u32 c 1 = 1 then bits BinOp.xor IntKind.u32 (c / 2) 3988292384 else c / 2
def crcJ (c : Int) : Nat → Int
  | 0 => c
  | j + 1 => crcB (crcJ c j)
def crcX (c : Int) (x : UInt8) : Int := crcJ (bits BinOp.xor IntKind.u32 c ((x.toNat : Int) % 4294967296)) 8
def crcK (bs : List UInt8) : Int := bs.foldl crcX 4294967295

theorem xor_max (c : Int) : bits BinOp.xor IntKind.u32 IntKind.u32.max c = bits BinOp.xor IntKind.u32 c 4294967295 := by
  unfold bits
  simp only [show IntKind.u32.max = 4294967295 from rfl, BitVec.xor_comm]

set_option maxRecDepth 100000 in
theorem crc_any (w : World) (v : Value) (bs : List UInt8) (h : Reads w v bs.length 1 (bc bs)) (hl : bs.length ≤ maxLen) :
    Calls Try.prog 42 #[v] w fun e w' => e = .returned (.int .u32 (bits BinOp.xor IntKind.u32 (crcK bs) 4294967295)) ∧ w' = w := by
  obtain ⟨n, hn⟩ : ∃ n, bs.length = n := ⟨_, rfl⟩
  rw [hn] at h
  obtain ⟨-, a, cp, rfl, h0, _, hc⟩ := id h
  have HC := hide hc
  have HN := hide hn
  unfold maxLen at hl
  have hn9 : (n : Int) ≤ 9223372036854775807 := by omega
  clear h hc h0 hn hl
  go_enter Try.func42, Try.ntmps42
  go_wp2_with fail
  go_loopw [3, 9] (fun c i wr => ∃ (k : Nat), c = .int .u32 (crcK (bs.take k)) ∧ i = .int .i64 k ∧ k ≤ n ∧ wr = w)
    (fun _ i _ => n - (intOf i).toNat)
  case atStart => exact ⟨0, rfl, rfl, Nat.zero_le _, rfl⟩
  case round =>
    obtain ⟨k, rfl, rfl, hk, rfl⟩ := hrel
    by_cases hlt : k < n
    · obtain ⟨x, hx⟩ : ∃ x, bs[k]? = some x := ⟨_, List.getElem?_eq_getElem (by have := HN.out; omega)⟩
      obtain ⟨b0, o0, rfl, e0⟩ := HC.out k (.int .u8 x.toNat) (by simp [bc, hx])
      have ik1 : (k : Int) < (n : Int) := by omega
      obtain ⟨C, hC⟩ : ∃ C, crcK (bs.take k) = C := ⟨_, rfl⟩
      have hnx : crcK (bs.take (k + 1)) = crcX C x := by rw [List.take_add_one, hx, ← hC]; simp [crcK]
      rw [hC]
      have HNX := hide hnx
      clear hnx hC hx
      go_wp2_with fail
      go_loopw [3, 17] (fun c i wr' => ∃ (j : Nat), c = .int .u32 (crcJ (bits BinOp.xor IntKind.u32 C ((x.toNat : Int) % 4294967296)) j) ∧ i = .int .i64 j ∧ j ≤ 8 ∧ wr' = wr)
        (fun _ i _ => 8 - (intOf i).toNat)
      case atStart => exact ⟨0, rfl, rfl, by omega, rfl⟩
      case round =>
        obtain ⟨j, rfl, rfl, hj, rfl⟩ := hrel
        by_cases hlt2 : j < 8
        · have ik2 : (j : Int) < 8 := by omega
          obtain ⟨D, hD⟩ : ∃ D, crcJ (bits BinOp.xor IntKind.u32 C ((x.toNat : Int) % 4294967296)) j = D := ⟨_, rfl⟩
          have hnj : crcJ (bits BinOp.xor IntKind.u32 C ((x.toNat : Int) % 4294967296)) (j + 1) = crcB D := by rw [crcJ, hD]
          rw [hD]
          have HNJ := hide hnj
          clear hnj hD
          by_cases hb : bits BinOp.and IntKind.u32 D 1 = 1
          · have hbe : (bits BinOp.and IntKind.u32 D 1 == 1) = true := by simp [hb]
            have HB := hide (show crcB D = bits BinOp.xor IntKind.u32 (D / 2) 3988292384 by unfold crcB; rw [if_pos hb])
            clear hb
            go_wp2_with fail
            go_roundw
            case rel => exact ⟨j + 1, by rw [HNJ.out, HB.out], by go_num, by omega, trivial⟩
            case measure => simp [intOf]; omega
          · have hbe : (bits BinOp.and IntKind.u32 D 1 == 1) = false := by simp [hb]
            have HB := hide (show crcB D = D / 2 by unfold crcB; rw [if_neg hb])
            clear hb
            go_wp2_with fail
            go_roundw
            case rel => exact ⟨j + 1, by rw [HNJ.out, HB.out], by go_num, by omega, trivial⟩
            case measure => simp [intOf]; omega
        · have hj8 : j = 8 := by omega
          subst hj8
          go_wp2_with fail
          go_roundw
          case rel => exact ⟨k + 1, by rw [HNX.out]; rfl, by go_num, by omega, trivial⟩
          case measure => simp [intOf]; omega
    · have hkn : k = n := by omega
      subst hkn
      have ik1 : ¬ (k : Int) < (k : Int) := by omega
      rw [List.take_of_length_le (by have := HN.out; omega)]
      go_wp2_with fail
      go_ret
      exact ⟨by rw [← xor_max]; rfl, rfl⟩

/-- The hash of a text. -/
def hashF (s : ByteArray) : Int := bits BinOp.and IntKind.u32 (bits BinOp.xor IntKind.u32 (crcK s.data.toList) 4294967295) 255
theorem and_255 (c : Int) : 0 ≤ bits BinOp.and IntKind.u32 c 255 ∧ bits BinOp.and IntKind.u32 c 255 < 256 := by
  unfold bits
  simp only [IntKind.bits]
  have h1 : (BitVec.ofInt 32 c &&& BitVec.ofInt 32 255).toNat ≤ 255 := by
    rw [BitVec.toNat_and]; exact Nat.and_le_right
  have key : ∀ m : Nat, m ≤ 255 → 0 ≤ IntKind.u32.wrap (m : Int) ∧ IntKind.u32.wrap (m : Int) < 256 := by
    intro m hm
    simp [IntKind.wrap, IntKind.signed, IntKind.bits]
    omega
  exact key _ h1
theorem hashF_lt (s : ByteArray) : 0 ≤ hashF s ∧ hashF s < 256 := and_255 _

theorem hash_any (w : World) (s : ByteArray) (hs : s.size ≤ maxLen) :
    Calls Try.prog 27 #[.string s] w fun e w' => e = .returned (.int .i64 (hashF s)) ∧ Fr (fun _ => False) w w' := by
  obtain ⟨v, wb, hrun, hr, hf⟩ := conv_bytes w s
  have hc := crc_any wb v s.data.toList hr (by simpa using hs)
  obtain ⟨h0, h1⟩ := hashF_lt s
  obtain ⟨c, hcc⟩ : ∃ c, bits BinOp.xor IntKind.u32 (crcK s.data.toList) 4294967295 = c := ⟨_, rfl⟩
  have hd : hashF s = bits BinOp.and IntKind.u32 c 255 := by unfold hashF; rw [hcc]
  rw [hcc] at hc
  obtain ⟨q, hq⟩ : ∃ q, bits BinOp.and IntKind.u32 c 255 = q := ⟨_, rfl⟩
  rw [hd, hq] at h0 h1 ⊢
  have HC := hide hc
  have HF := hide hf
  clear hr hf hc hcc hd
  go_enter Try.func27, Try.ntmps27
  go_wp2_with fail
  refine HC.out.mono ?_
  rintro e w1 ⟨rfl, rfl⟩
  go_wp2_with fail
  go_ret
  exact ⟨rfl, HF.out⟩

set_option maxRecDepth 100000 in
set_option maxHeartbeats 800000 in
theorem owner_any (w : World) (ep : Int) (v : Value) (l : List P3) (hh : Reads w v l.length 3 (rowP l)) (hl : l.length ≤ maxLen) (hr : rightM ep l = true) (s : ByteArray) (hs : s.size ≤ maxLen) :
    Calls Try.prog 12 #[mv ep v, .string s] w fun e w' => e = .returned (.tuple #[.int .i64 (ownF l (hashF s)), .bool true]) ∧ Fr (fun _ => False) w w' := by
  obtain ⟨-, a, c, rfl, -, -, -⟩ := id hh
  obtain ⟨wa, hwa⟩ : ∃ wa, w.alloc (.cells #[.int .i64 ep, .slice a l.length c] 25) = wa := ⟨_, rfl⟩
  have hfa : Fr (fun _ => False) w wa := by rw [← hwa]; exact Fr.alloc _ _ _
  have hba : wa.heap[w.heap.size]? = some (.cells #[.int .i64 ep, .slice a l.length c] 25 (0, 0)) := by rw [← hwa]; exact block_alloc _ _
  have hra := reads_old hh hfa (fun _ _ => id)
  have hri := right_any wa ep _ l hra hl
  rw [hr] at hri
  obtain ⟨h0, h1⟩ := hashF_lt s
  have hof : ∀ (wx : World), Fr (fun _ => False) wa wx → Calls Try.prog 26 #[mv ep (.slice a l.length c), .int .i64 (hashF s)] wx fun e w' => e = .returned (.int .i64 (ownF l (hashF s))) ∧ Fr (fun _ => False) wx w' := fun wx hf =>
    of_any wx ep _ l (reads_old hra hf (fun _ _ => id)) hl _ (own_find (right_own hr _ h0 h1).1)
  have hha : ∀ wx, Calls Try.prog 27 #[.string s] wx fun e w' => e = .returned (.int .i64 (hashF s)) ∧ Fr (fun _ => False) wx w' := fun wx => hash_any wx s hs
  obtain ⟨n, hn⟩ : ∃ n, l.length = n := ⟨_, rfl⟩
  obtain ⟨pb, hpb⟩ : ∃ pb, w.heap.size = pb := ⟨_, rfl⟩
  rw [hpb] at hba
  rw [hn] at hri hwa hof hba ⊢
  have c0 : wa.cell? ⟨pb, 0, none⟩ = some (.int .i64 ep) := by rw [cell_of_block hba]; rfl
  have c1 : wa.cell? ⟨pb, 1, none⟩ = some (.slice a n c) := by rw [cell_of_block hba]; rfl
  generalize hashF s = q at *
  generalize ownF l q = o at *
  have hcell : ∀ wx, Fr (fun _ => False) wa wx → wx.cell? ⟨pb, 0, none⟩ = some (.int .i64 ep) ∧ wx.cell? ⟨pb, 1, none⟩ = some (.slice a n c) := fun wx hf => by
    have := (hf.block pb (lt_of_block hba) id).trans hba
    exact ⟨by rw [cell_of_block this]; rfl, by rw [cell_of_block this]; rfl⟩
  have HCELL := hide hcell
  have HRI := hide hri
  have HOF := hide hof
  have HHA := hide hha
  have HWA := hide hwa
  have HPB := hide hpb
  have HF := hide hfa
  clear hri hof hha hwa hpb hfa hra hba hh hn hl hr hcell
  unfold mv at *
  go_enter Try.func12, Try.ntmps12
  go_upto_region 1 with fail
  rw [HWA.out, HPB.out]
  go_wp2_with fail
  refine HRI.out.mono ?_
  rintro e w1 ⟨rfl, hf1⟩
  obtain ⟨d0, d1⟩ := HCELL.out w1 hf1
  have HF1 := hide hf1
  clear hf1
  go_wp2_with fail
  go_region_held3 (fun w' => w'.cell? ⟨pb, 0, none⟩ = some (.int .i64 ep) ∧ w'.cell? ⟨pb, 1, none⟩ = some (.slice a n c)) (go_keep)
    (first
      | (go_at_call 27; with_reducible refine (HHA.out _).mono ?_; rintro e y ⟨rfl, hfy⟩; have hfz := (HF1.out.drew).trans hfy (fun _ _ h => h); obtain ⟨g0, g1⟩ := HCELL.out y hfz; have T0 := hide hfz; clear hfy hfz)
      | (go_at_call 26; with_reducible refine (HOF.out _ T0.out).mono ?_; rintro e y2 ⟨rfl, hfy⟩; have hfz := T0.out.trans hfy (fun _ _ h => h); obtain ⟨g2, g3⟩ := HCELL.out y2 hfz; have T1 := hide hfz; clear hfy hfz))
  all_goals
    go_wp2_with fail
    go_ret2
    exact ⟨rfl, HF.out.trans T1.out (fun _ _ h => h)⟩
end Go.Proofs.Ytkaibekeokkpnaa
