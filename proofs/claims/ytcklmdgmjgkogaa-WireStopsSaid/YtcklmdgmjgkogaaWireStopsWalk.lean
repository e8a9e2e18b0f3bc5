/- The walk of conclavelaw1.WireStops. -/
import Derived.Test.YtcklmdgmjgkogaaKnownWire
import Derived.Test.YtcklmdgmjgkogaaOpen
namespace Go.Proofs.Ytcklmdgmjgkogaa
open Go.RowKit Go.Maps Go.Cv
set_option linter.unusedVariables false

/-- Bytes that were read as numbers. -/
theorem bytes_of : ∀ (l : List Int), (∀ x ∈ l, (Lit.int .u8 x).wf = true) → ∃ bs : List UInt8, bs.length = l.length ∧ (l.flatMap fun z => [Value.int .u8 z]) = bc bs
  | [], _ => ⟨[], rfl, rfl⟩
  | x :: r, h => by
    obtain ⟨bs, h1, h2⟩ := bytes_of r (fun y hy => h y (List.mem_cons_of_mem _ hy))
    have hx := h x List.mem_cons_self
    simp [Lit.wf, IntKind.min, IntKind.max, IntKind.signed, IntKind.bits] at hx
    refine ⟨UInt8.ofNat x.toNat :: bs, by simp [h1], ?_⟩
    have e : ((UInt8.ofNat x.toNat).toNat : Int) = x := by
      rw [UInt8.toNat_ofNat']; omega
    simp only [List.flatMap_cons, h2, bc, List.map_cons, e, List.singleton_append]

/-- A Reader that refused ahead of all else. -/
def stop : RS := ⟨0, 37, 0⟩
theorem stop_take (bs : List UInt8) (n : Nat) : stop.take bs n = ([], stop) := rfl
theorem stop_get (bs : List UInt8) (n : Nat) : stop.get bs n = (0, stop) := rfl
theorem stop_count (bs : List UInt8) (m : Int) : stop.count bs m = (0, stop) := by
  unfold RS.count
  rw [stop_get]
  simp only
  have h : ¬ (max m 0 < ((0 : Nat) : Int)) := by omega
  rw [if_neg h]
  rfl
theorem stop_text (bs : List UInt8) (m : Int) : stop.text bs m = ([], stop) := by
  unfold RS.text; rw [stop_count]; exact stop_take bs 0
theorem stop_left (bs : List UInt8) : stop.left bs = 0 := rfl

namespace WireStops
abbrev cellsPart (a : Int × Int × Int × ByteArray) : List Value := [.int .i64 a.1, .int .i64 a.2.1, .int .i64 a.2.2.1, .string a.2.2.2]

set_option maxRecDepth 100000 in
set_option maxHeartbeats 1600000 in
theorem walk (w : World) (v0 : Value) (l0 : List Int) (h0 : Reads w v0 l0.length 1 (l0.flatMap fun z => [.int .u8 z])) (g0 : ∀ x ∈ l0, (Lit.int .u8 x).wf = true) (c0 : l0.length * 1 ≤ 140737488351232)
    (v1 : Value) (l : List (Int × Int × Int × ByteArray)) (h1 : Reads w v1 l.length 4 (l.flatMap cellsPart)) (_ : ∀ x ∈ l, (Lit.int .i64 x.1).wf = true ∧ (Lit.int .i64 x.2.1).wf = true ∧ (Lit.int .i64 x.2.2.1).wf = true ∧ x.2.2.2.size ≤ 140737488351232) (_ : l.length * 40 ≤ 140737488351232) :
    Calls Try.prog 9 #[v0, v1] w fun e w' => e = .returned (.bool true) ∧ Below w.heap.size w w' := by
  obtain ⟨bs, hbl, hbs⟩ := bytes_of l0 g0
  have hr0 : Reads w v0 bs.length 1 (bc bs) := by rw [hbl, ← hbs]; exact h0
  have hb0 : bs.length ≤ 140737488355328 := by rw [hbl]; omega
  clear h0 g0 c0 hbs hbl
  obtain ⟨n0, hn0⟩ : ∃ n, l.length = n := ⟨_, rfl⟩
  rw [hn0] at h1
  obtain ⟨-, a0, cp, rfl, -, -, hc0⟩ := h1
  have HC0 := hide hc0
  have HN0 := hide hn0
  have HR0 := hide hr0
  clear hc0 hn0 hr0
  go_enter Try.func9, Try.ntmps9
  go_wp2_with fail
  refine (newReader_any _ v0 bs HR0.out hb0).mono ?_
  rintro e w1 ⟨rb, vb, rfl, hrb, hvb, hr1, hf1⟩
  have hs1 := hf1.size
  have R1 := hide hr1
  have F1 := hide hf1
  have V1 := hide hvb
  clear hr1 hf1 hvb
  go_wp2_with fail
  refine (fail_any _ rb vb bs _ R1.out 37).mono ?_
  rintro e w2 ⟨rfl, hr2, hf2⟩
  have e2 : (if (37 : Int) = 0 then (⟨0, 0, 0⟩ : RS) else RS.refuse ⟨0, 0, 0⟩ 37 0) = stop := by simp [RS.refuse, stop]
  have R2 := hide (e2 ▸ hr2 : Rd w2 rb vb bs stop)
  have F2 := hide ((F1.out.step hf2).mono (S' := fun k => w.heap.size ≤ k) (fun k _ h => by simp only [false_or] at h; omega))
  clear hr2 hf2 e2
  go_wp2_with fail
  go_loopw [6] (fun i wr => ∃ (k : Nat), i = .int .i64 k ∧ k ≤ 20 ∧ Rd wr rb vb bs stop ∧ Fr (fun j => w.heap.size ≤ j) w wr) (fun i _ => 20 - (intOf i).toNat)
  case atStart => exact ⟨0, rfl, by omega, R2.out, F2.out⟩
  case round =>
    obtain ⟨k, rfl, hk, hr, hfr⟩ := hrel
    have R := hide hr
    have F := hide hfr
    clear hr hfr
    by_cases hgo : k < n0 ∧ k < 20
    · obtain ⟨hg1, hg2⟩ := hgo
      obtain ⟨x, hx⟩ : ∃ x, l[k]? = some x := ⟨_, List.getElem?_eq_getElem (by have := HN0.out; omega)⟩
      have hcell : ∀ j u, (cellsPart x)[j]? = some u → j < 4 → ∃ b off, a0 = some ⟨b, off, none⟩ ∧ w.cell? ⟨b, off + (k * 4 + j), none⟩ = some u := fun j u hu hj =>
        HC0.out (k * 4 + j) u (by rw [flat_get cellsPart 4 (fun _ => rfl) l k j x hx hj]; exact hu)
      obtain ⟨kind, z, wide, s⟩ := x
      obtain ⟨b0, o0, rfl, e1⟩ := hcell 1 (.int .i64 z) rfl (by omega)
      have hbl := World.block_lt_of_cell? w _ e1
      have old : ∀ (wx : World), Fr (fun j => w.heap.size ≤ j) w wx → wx.cell? ⟨b0, o0 + k * 4 + 1, none⟩ = some (.int .i64 z) := fun wx hfx => by
        rw [World.cell?_of_block (w := w) (hfx.block b0 hbl (by simp at hbl ⊢; omega)), Nat.add_assoc]; exact e1
      have ik0 : (0 : Int) ≤ (k : Int) := by omega
      have ik1 : (k : Int) < (n0 : Int) := by omega
      have OLD := hide old
      clear hx hcell e1 old
      go_wp2_with fail
      refine (rdByte_any _ rb vb bs _ R.out).mono ?_
      rintro e w3 ⟨rfl, h3, f3⟩
      rw [stop_get] at h3 ⊢
      have A3 := hide h3
      have F3 := hide f3
      clear h3 f3
      go_wp2_with fail
      refine (rdFour_any _ rb vb bs _ A3.out).mono ?_
      rintro e w4 ⟨rfl, h4, f4⟩
      rw [stop_get] at h4 ⊢
      have A4 := hide h4
      have F4 := hide (F3.out.trans f4 (fun _ _ h => h))
      clear h4 f4
      go_wp2_with fail
      refine (rdEight_any _ rb vb bs _ A4.out).mono ?_
      rintro e w5 ⟨rfl, h5, f5⟩
      rw [stop_get] at h5 ⊢
      have A5 := hide h5
      have F5 := hide (F4.out.trans f5 (fun _ _ h => h))
      have e5 : IntKind.i64.wrap (((0 : Nat), stop).1 : Int) = 0 := by decide
      rw [e5]
      clear h5 f5
      have G5 := hide (F.out.trans F5.out (fun k _ h => by omega))
      have c5 := OLD.out _ G5.out
      go_wp2_with fail
      refine (rdText_any _ rb vb bs _ A5.out z).mono ?_
      rintro e w6 ⟨rfl, h6, f6⟩
      rw [stop_text] at h6 ⊢
      have A6 := hide h6
      have G6 := hide (G5.out.trans f6 (fun k _ h => by omega))
      have c6 := OLD.out _ G6.out
      clear h6 f6 c5
      go_wp2_with fail
      refine (count_any _ rb vb bs _ A6.out z).mono ?_
      rintro e w7 ⟨rfl, h7, f7⟩
      rw [stop_count] at h7 ⊢
      have A7 := hide h7
      have G7 := hide (G6.out.trans f7 (fun k _ h => by omega))
      clear h7 f7 c6
      go_wp2_with fail
      refine (left_any _ rb vb bs _ A7.out).mono ?_
      rintro e w8 ⟨rfl, h8, f8⟩
      rw [stop_left]
      have A8 := hide h8
      have G8 := hide (G7.out.trans f8 (fun k _ h => by omega))
      clear h8 f8
      go_wp2_with fail
      refine (fail_any _ rb vb bs _ A8.out 35).mono ?_
      rintro e w9 ⟨rfl, h9, f9⟩
      have e9 : (if (35 : Int) = 0 then stop else RS.refuse stop 35 stop.at_) = stop := by simp [RS.refuse, stop]
      have A9 := hide (e9 ▸ h9 : Rd w9 rb vb bs stop)
      have G9 := hide (G8.out.trans f9 (fun k _ h => by omega))
      clear h9 f9 e9
      go_wp2_with fail
      go_roundw
      case rel => exact ⟨k + 1, by go_num, by omega, A9.out, G9.out⟩
      case measure => simp [intOf]; omega
    · have hex : n0 ≤ k ∨ (k < n0 ∧ 20 ≤ k) := by omega
      clear hgo
      rcases hex with hx | ⟨hx, hx2⟩
      all_goals
        have i1 : ¬ ((k : Int) < n0 ∧ (k : Int) < 20) := by omega
        go_wp2_with fail
        refine (end_any _ rb vb bs _ R.out).mono ?_
        rintro e w3 ⟨rfl, h3, f3⟩
        have ee : stop.end_ bs = (37, 0) := rfl
        rw [ee]
        have G3 := hide (F.out.trans f3 (fun k _ h => by omega))
        clear h3 f3 ee
        go_wp2_with fail
        refine (known_any _).mono ?_
        rintro e w4 ⟨rfl, f4⟩
        have G4 := hide (G3.out.trans f4 (fun k _ h => h.elim))
        clear f4
        go_wp2_with fail
        go_ret
        exact ⟨rfl, G4.out.toBelow (Nat.le_refl _) (fun k hk h => by omega)⟩
end WireStops
end Go.Proofs.Ytcklmdgmjgkogaa
