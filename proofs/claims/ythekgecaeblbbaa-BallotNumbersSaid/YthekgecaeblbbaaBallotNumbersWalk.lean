/- BallotNumbers's walk. -/
import Derived.Test.YthekgecaeblbbaaBallotLoad
import Derived.Lib.SlBytesConst
namespace Go.Proofs.Ythekgecaeblbbaa.BallotNumbers
open Go.RowKit Go.Maps Go.Cv Go.Shelf
set_option linter.unusedVariables false

def bP : Bt := (2, 1)
def v5 : Vt := (5, (2, 1), ⟨#[122]⟩)
def v511 : Vt := (511, (2, 1), ⟨#[120]⟩)
def lA : List Vt := [v5, v511]
theorem load_ok : loadT (sv bP lA) = some (bP, lA) := by decide +kernel
def badB : List UInt8 := [110, 111, 32, 115, 97, 118, 101, 32, 101, 118, 101, 114]
theorem load_bad : loadT badB = none := by decide +kernel
theorem s1 : acceptB (0, 0) (0, 0) 0 = false := by decide
theorem s2 : acceptB (0, 0) (2, 1) 512 = false := by decide
theorem s3 : acceptP (0, 0) (2, 1) 511 = bP ∧ acceptB (0, 0) (2, 1) 511 = true ∧ acceptL (0, 0) (2, 1) 511 [] ⟨#[120]⟩ = [v511] := by decide
theorem s4 : acceptB bP (2, 0) 0 = false := by decide
theorem s5 : acceptP bP (2, 1) 5 = bP ∧ acceptB bP (2, 1) 5 = true ∧ acceptL bP (2, 1) 5 [v511] ⟨#[122]⟩ = lA := by decide
theorem s6 : fromV lA 6 = [v511] ∧ fromV lA 0 = lA ∧ fromV lA 512 = [] ∧ fromV [] 0 = [] := by decide
theorem s7 : acceptP (0, 0) (0, 0) 0 = (0, 0) ∧ acceptL (0, 0) (0, 0) 0 [] ⟨#[120]⟩ = [] ∧ acceptP (0, 0) (2, 1) 512 = (0, 0) ∧ acceptL (0, 0) (2, 1) 512 [] ⟨#[120]⟩ = [] ∧ acceptP bP (2, 0) 0 = bP ∧ acceptL bP (2, 0) 0 [v511] ⟨#[121]⟩ = [v511] := by decide
theorem svlen : (sv bP lA).length = 70 := by decide +kernel

theorem loadYes (w : World) (v : Value) (bs : List UInt8) (h : Reads w v bs.length 1 (bc bs)) (hlen : bs.length ≤ 140737488355328) (p : Bt) (l : List Vt) (hT : loadT bs = some (p, l)) :
    Calls Try.prog 20 #[v] w fun e w' => ∃ ab, e = .returned (.tuple #[.pointer (some ⟨ab, 0, none⟩), .int .i64 0]) ∧ Acd w' w.heap.size w'.heap.size ab 512 p l ∧ Fr (fun _ => False) w w' := by
  refine (load_any w v bs h hlen).mono ?_
  rintro e w' ⟨hl, hf⟩
  rcases hl with ⟨h1, _⟩ | ⟨p', l', ab, mb, h1, rfl, h2, h3, h4⟩
  · rw [hT] at h1; cases h1
  · rw [hT] at h1
    simp only [Option.some.injEq, Prod.mk.injEq] at h1
    obtain ⟨rfl, rfl⟩ := h1
    exact ⟨ab, rfl, ⟨mb, h2, ⟨h3, lt_of_block h2.blk⟩, ⟨h4, h2.map.lt⟩⟩, hf⟩
theorem loadNo (w : World) (v : Value) (bs : List UInt8) (h : Reads w v bs.length 1 (bc bs)) (hlen : bs.length ≤ 140737488355328) (hT : loadT bs = none) :
    Calls Try.prog 20 #[v] w fun e w' => e = .returned (.tuple #[.pointer none, .int .i64 12]) ∧ Fr (fun _ => False) w w' := by
  refine (load_any w v bs h hlen).mono ?_
  rintro e w' ⟨hl, hf⟩
  rcases hl with ⟨_, rfl⟩ | ⟨p', l', ab, mb, h1, _⟩
  · exact ⟨rfl, hf⟩
  · rw [hT] at h1; cases h1

abbrev badC : Array Value := #[.int .u8 110, .int .u8 111, .int .u8 32, .int .u8 115, .int .u8 97, .int .u8 118, .int .u8 101, .int .u8 32, .int .u8 101, .int .u8 118, .int .u8 101, .int .u8 114]
set_option maxRecDepth 100000 in
set_option maxHeartbeats 6400000 in
theorem walk (w : World) : Calls Try.prog 7 #[] w fun e w' => e = .returned (.bool true) ∧ Below w.heap.size w w' := by
  go_enter Try.func7, Try.ntmps7
  go_wp2_with fail
  refine (newAcd w).mono ?_
  rintro e w1 ⟨ab, rfl, ha, hf⟩
  obtain ⟨D, hD⟩ : ∃ D, w1.heap.size = D := ⟨_, rfl⟩
  rw [hD] at ha
  have F1 := hide (hf.mono (S' := fun k => w.heap.size ≤ k) (fun _ _ h => h.elim))
  have hc := acceptAcd w1 _ D ab 0 _ _ ha (by omega) (0, 0) 0 ⟨#[120]⟩
  rw [s1, s7.1, s7.2.1] at hc
  have HC := hide (show Calls Try.prog 16 #[.pointer (some ⟨ab, 0, none⟩), .agg #[.int .i64 0, .int .i64 0], .int .i64 0, .string ⟨#[120]⟩] w1 _ from hc)
  clear hc ha hf
  go_wp2_with fail
  refine HC.out.mono ?_
  rintro e w2 ⟨rfl, ha, hf⟩
  have F2 := hide (F1.out.trans hf (fun _ _ h => h.1))
  have hD2 : D ≤ w2.heap.size := by have := hf.size; omega
  have hc := acceptAcd w2 _ D ab _ _ _ ha (by omega) (2, 1) 512 ⟨#[120]⟩
  rw [s2, s7.2.2.1, s7.2.2.2.1] at hc
  have HC := hide (show Calls Try.prog 16 #[.pointer (some ⟨ab, 0, none⟩), .agg #[.int .i64 2, .int .i64 1], .int .i64 512, .string ⟨#[120]⟩] w2 _ from hc)
  clear hc ha hf
  go_wp2_with fail
  refine HC.out.mono ?_
  rintro e w3 ⟨rfl, ha, hf⟩
  have F3 := hide (F2.out.trans hf (fun _ _ h => h.1))
  have hD3 : D ≤ w3.heap.size := by have := hf.size; omega
  have hc := acceptAcd w3 _ D ab _ _ _ ha (by omega) (2, 1) 511 ⟨#[120]⟩
  rw [s3.1, s3.2.1, s3.2.2] at hc
  have HC := hide (show Calls Try.prog 16 #[.pointer (some ⟨ab, 0, none⟩), .agg #[.int .i64 2, .int .i64 1], .int .i64 511, .string ⟨#[120]⟩] w3 _ from hc)
  clear hc ha hf
  go_wp2_with fail
  refine HC.out.mono ?_
  rintro e w4 ⟨rfl, ha, hf⟩
  have F4 := hide (F3.out.trans hf (fun _ _ h => h.1))
  have hD4 : D ≤ w4.heap.size := by have := hf.size; omega
  have hc := acceptAcd w4 _ D ab _ _ _ ha (by omega) (2, 0) 0 ⟨#[121]⟩
  rw [s4, s7.2.2.2.2.1, s7.2.2.2.2.2] at hc
  have HC := hide (show Calls Try.prog 16 #[.pointer (some ⟨ab, 0, none⟩), .agg #[.int .i64 2, .int .i64 0], .int .i64 0, .string ⟨#[121]⟩] w4 _ from hc)
  clear hc ha hf
  go_wp2_with fail
  refine HC.out.mono ?_
  rintro e w5 ⟨rfl, ha, hf⟩
  have F5 := hide (F4.out.trans hf (fun _ _ h => h.1))
  have hD5 : D ≤ w5.heap.size := by have := hf.size; omega
  have hc := acceptAcd w5 _ D ab _ _ _ ha (by omega) (2, 1) 5 ⟨#[122]⟩
  rw [s5.1, s5.2.1, s5.2.2] at hc
  have HC := hide (show Calls Try.prog 16 #[.pointer (some ⟨ab, 0, none⟩), .agg #[.int .i64 2, .int .i64 1], .int .i64 5, .string ⟨#[122]⟩] w5 _ from hc)
  clear hc ha hf
  go_wp2_with fail
  refine HC.out.mono ?_
  rintro e w6 ⟨rfl, ha, hf⟩
  have F6 := hide (F5.out.trans hf (fun _ _ h => h.1))
  have hD6 : D ≤ w6.heap.size := by have := hf.size; omega
  have hv := votesAcd w6 _ D ab _ _ _ ha (by omega) 6
  rw [s6.1] at hv
  have HV := hide hv
  clear hv ha hf
  go_wp2_with fail
  refine HV.out.mono ?_
  rintro e w7 ⟨v7, rfl, ho, ha, hf⟩
  have hr7 := Reads.of_own ho
  obtain ⟨a7, c7, rfl⟩ := own_shape ho
  obtain ⟨bg, og, rfl, hltg, hcg⟩ := row_cells (k := 0) vcells_len (l := [v511]) (x := v511) hr7 rfl (by decide)
  have hbgD : D ≤ bg := by
    have h1 := (ho.lt bg rfl).1
    omega
  have hcell : ∀ wx : World, wx.heap[bg]? = w7.heap[bg]? → wx.cell? ⟨bg, og + 3, none⟩ = some (.string ⟨#[120]⟩) := fun wx hx => by
    have := hcg 3 (.string ⟨#[120]⟩) rfl wx hx
    simpa using this
  have HCELL := hide hcell
  have F7 := hide (F6.out.trans hf (fun _ _ h => h.elim))
  have hD7 : D ≤ w7.heap.size := by have := hf.size; omega
  have hsv := save_any w7 _ D ab _ bP lA ha (by omega) hD7 (by rw [svlen]; omega)
  rw [svlen] at hsv
  have HSV := hide hsv
  clear hsv hf ho hr7 hcg hcell
  go_wp2_with fail
  refine HSV.out.mono ?_
  rintro e w8 ⟨v8, rfl, ho8, ha8, hf8⟩
  have hr8 := Reads.of_own ho8
  obtain ⟨a8, c8, rfl⟩ := own_shape ho8
  have hld := loadYes w8 (.slice a8 70 c8) (sv bP lA) (by rw [svlen]; exact hr8) (by rw [svlen]; omega) bP lA load_ok
  have HLD := hide hld
  have HA8 := hide ha8
  have HF8 := hide hf8
  clear hld hr8 ho8 ha8 hf8 ha
  go_wp2_with fail
  refine HLD.out.mono ?_
  rintro e w9 ⟨kb, rfl, hk9, hf9⟩
  have HK9 := hide hk9
  have HF9 := hide (HF8.out.trans hf9 (fun _ _ h => h))
  have HA9 := hide (HA8.out.fr0 hf9)
  have hcv := Go.Lib.run_convert_bytes_const (P := Try.prog) w9 45 5 #[.int .u8 110, .int .u8 111, .int .u8 32, .int .u8 115, .int .u8 97, .int .u8 118, .int .u8 101, .int .u8 32, .int .u8 101, .int .u8 118, .int .u8 101, .int .u8 114] 12 12 Try.underlying45 Try.underlying5
  obtain ⟨y1, hy1⟩ : ∃ y, w9.alloc (.cells #[.int .u8 110, .int .u8 111, .int .u8 32, .int .u8 115, .int .u8 97, .int .u8 118, .int .u8 101, .int .u8 32, .int .u8 101, .int .u8 118, .int .u8 101, .int .u8 114] 5 (12, 13)) = y := ⟨_, rfl⟩
  have hcv' : _ = Result.ok (Value.slice (some ⟨w9.heap.size, 0, none⟩) 12 12) y1 := hcv.trans (by rw [← hy1]; rfl)
  have hfy : Fr (fun _ => False) w9 y1 := by rw [← hy1]; exact Fr.alloc _ _ _
  have hby : Reads y1 (.slice (some ⟨w9.heap.size, 0, none⟩) 12 12) badB.length 1 (bc badB) :=
    ⟨rfl, _, _, rfl, (by intro h; cases h), Nat.le_refl _, fun i u hu => ⟨_, _, rfl, by rw [← hy1, cell_of_block (block_alloc w9 _)]; simpa [bc, badB] using hu⟩⟩
  have hln := loadNo y1 _ badB hby (by decide) load_bad
  have HLN := hide hln
  have HFY := hide (HF9.out.trans hfy (fun _ _ h => h))
  have HAY := hide (HA9.out.fr0 hfy)
  have HKY := hide (HK9.out.fr0 hfy)
  clear hk9 hf9 hcv hy1 hfy hby hln
  go_wp2_with fail
  refine HLN.out.mono ?_
  rintro e z1 ⟨rfl, hfz⟩
  have HFZ := hide (HFY.out.trans hfz (fun _ _ h => h))
  have HAZ := hide (HAY.out.fr0 hfz)
  have HKZ := hide (HKY.out.fr0 hfz)
  clear hfz
  go_wp2_with fail
  refine (forgetAcd z1 _ D ab _ bP lA HAZ.out 512).mono ?_
  rw [s6.2.2.1]
  rintro e z2 ⟨rfl, hq2, hf2⟩
  have hD8 : D ≤ w8.heap.size := by have := HF8.out.size; omega
  have hbz : z2.heap[bg]? = w7.heap[bg]? := by
    have h1 := HFZ.out.block bg hltg id
    exact (hf2.block bg (Nat.lt_of_lt_of_le hltg HFZ.out.size) (fun hh => by have := hh.2; omega)).trans h1
  have hcz := HCELL.out z2 hbz
  have hkz := HKZ.out.fr hf2 (fun k _ hk hm => by have := hm.2; omega)
  have HFE := hide ((F7.out.trans HFZ.out (fun _ _ h => h.elim)).trans hf2 (fun _ _ h => h.1))
  have hpr := promisedAcd z2 _ _ kb _ bP lA hkz
  have HPR := hide (show Calls Try.prog 13 #[.pointer (some ⟨kb, 0, none⟩)] z2 fun e w' => e = .returned (.agg #[.int .i64 2, .int .i64 1]) ∧ Acd w' w8.heap.size w9.heap.size kb 512 bP lA ∧ Fr (fun _ => False) z2 w' from hpr)
  have heq : ∀ wx, (binOp .eql 23 (.agg #[.int .i64 2, .int .i64 1]) (.agg #[.int .i64 2, .int .i64 1])).run Try.prog wx = .ok (.bool true) wx := fun wx => by
    have := run_eqB wx 2 1 2 1
    simpa using this
  have HQ2 := hide hq2
  clear hpr hq2 hf2 hkz hbz
  go_wp2_with fail
  refine HPR.out.mono ?_
  rintro e z3 ⟨rfl, hk3, hf3⟩
  have hv := votesAcd z3 _ _ kb _ _ _ hk3 (by omega) 0
  rw [s6.2.1] at hv
  have HV3 := hide hv
  have HQ3 := hide (HQ2.out.fr0 hf3)
  have HE3 := hide (HFE.out.trans hf3 (fun _ _ h => h.elim))
  clear hv hk3 hf3 hcz
  go_wp2_with fail
  refine HV3.out.mono ?_
  rintro e z4 ⟨v4, rfl, ho4, _, hf4⟩
  obtain ⟨a4, c4, rfl⟩ := own_shape ho4
  have hv := votesAcd z4 _ _ ab _ _ _ (HQ3.out.fr0 hf4) (by omega) 0
  rw [s6.2.2.2] at hv
  have HV4 := hide hv
  have HE4 := hide (HE3.out.trans hf4 (fun _ _ h => h.elim))
  clear hv ho4 hf4
  go_wp2_with fail
  refine HV4.out.mono ?_
  rintro e z5 ⟨v5', rfl, ho5, _, hf5⟩
  obtain ⟨a5, c5, rfl⟩ := own_shape ho5
  have hl5 := less_any z5 (1, 9) (2, 0)
  have HL5 := hide (show Calls Try.prog 9 #[.agg #[.int .i64 1, .int .i64 9], .agg #[.int .i64 2, .int .i64 0]] z5 fun e w' => e = .returned (.bool true) ∧ Fr (fun _ => False) z5 w' from hl5)
  have HE5 := hide (HE4.out.trans hf5 (fun _ _ h => h.elim))
  clear ho5 hf5 hl5
  go_wp2_with fail
  refine HL5.out.mono ?_
  rintro e z6 ⟨rfl, hf6⟩
  have hl6 := less_any z6 (1, 1) (1, 1)
  have HL6 := hide (show Calls Try.prog 9 #[.agg #[.int .i64 1, .int .i64 1], .agg #[.int .i64 1, .int .i64 1]] z6 fun e w' => e = .returned (.bool false) ∧ Fr (fun _ => False) z6 w' from hl6)
  have HE6 := hide (HE5.out.trans hf6 (fun _ _ h => h.elim))
  clear hf6 hl6
  go_wp2_with fail
  refine HL6.out.mono ?_
  rintro e z7 ⟨rfl, hf7⟩
  go_wp2_with fail
  refine (known_any _).mono ?_
  rintro e z8 ⟨rfl, hf8'⟩
  go_wp2_with fail
  go_ret
  exact ⟨rfl, ((HE6.out.trans hf7 (fun _ _ h => h.elim)).trans hf8' (fun _ _ h => h.elim)).toBelow (Nat.le_refl _) (fun j hj h => by omega)⟩
end Go.Proofs.Ythekgecaeblbbaa.BallotNumbers
