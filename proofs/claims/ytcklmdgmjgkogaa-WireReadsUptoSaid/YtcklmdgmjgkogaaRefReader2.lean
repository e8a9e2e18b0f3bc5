/- The document's Reader: its numbers, texts and what it tells. -/
import Derived.Test.YtcklmdgmjgkogaaRefReader
namespace Go.Proofs.Ytcklmdgmjgkogaa
open Go.RowKit Go.Maps Go.Cv
set_option linter.unusedVariables false

set_option maxRecDepth 100000 in
set_option maxHeartbeats 800000 in
theorem qNumber_any (w : World) (qb : Nat) (v : Value) (bs : List UInt8) (r : RS) (h : Rr w qb v bs r) (size : Nat) (hs : size ≤ 8) :
    Calls Try.prog 45 #[.pointer (some ⟨qb, 0, none⟩), .int .i64 size] w fun e w' => e = .returned (.int .u64 (r.get bs size).1) ∧ Rr w' qb v bs (r.get bs size).2 ∧ Fr (fun k => k = qb) w w' := by
  have hll := take_length bs r size
  have hp := qRaw_any w qb v bs r h size (by omega)
  unfold RS.get
  obtain ⟨⟨l, r1⟩, hl⟩ : ∃ p, r.take bs size = p := ⟨_, rfl⟩
  rw [hl] at hp hll ⊢
  simp only at hp hll ⊢
  have HP := hide hp
  clear hp h hl
  go_enter Try.func45, Try.ntmps45
  go_wp2_with fail
  refine HP.out.mono ?_
  rintro e w1 ⟨v1, rfl, h1, h2, h3⟩
  obtain ⟨-, a1, c1, rfl, -, -, -⟩ := id h1
  have H1 := hide h1
  have H2 := hide h2
  have H3 := hide h3
  obtain ⟨N, hN⟩ : ∃ N, l.length = N := ⟨_, rfl⟩
  rw [hN] at H1 hll ⊢
  have HN := hide hN
  clear h1 h2 h3 hN
  go_wp2_with fail
  go_loopw [6, 7] (fun x i wr => ∃ (k : Nat), x = .int .u64 (getN (l.take k)) ∧ i = .int .i64 k ∧ k ≤ N ∧ wr = w1) (fun _ i _ => N - (intOf i).toNat)
  case atStart => exact ⟨0, rfl, rfl, by omega, rfl⟩
  case round =>
    obtain ⟨k, rfl, rfl, hk, rfl⟩ := hrel
    by_cases hg : k < N
    · obtain ⟨x, hx⟩ : ∃ x, l[k]? = some x := ⟨_, List.getElem?_eq_getElem (by have := HN.out; omega)⟩
      obtain ⟨b0, o0, rfl, hb0, hcell⟩ := row_cells (toC := fun u : UInt8 => [Value.int .u8 (u.toNat : Int)]) (s := 1) (fun _ => rfl) (l := l) (by have := H1.out; unfold bc at this; rw [flat_one]; exact this) hx (by decide)
      have e0 := hcell 0 _ rfl _ rfl
      rw [Nat.mul_one, Nat.add_zero] at e0
      have ik0 : (0 : Int) ≤ (k : Int) := by omega
      have ik1 : (k : Int) < (N : Int) := by omega
      have en : (getN (l.take (k + 1)) : Int) = bits BinOp.or IntKind.u64 (IntKind.u64.wrap (↑(getN (List.take k l)) * 256)) (IntKind.u64.wrap ↑x.toNat) := by
        rw [or_u64, List.take_add_one, hx, Option.toList_some, getN_snoc]
      have EN := hide en
      clear hcell hx en
      go_wp2_with fail
      go_roundw
      case rel => exact ⟨k + 1, by rw [EN.out], by go_num, by omega, trivial⟩
      case measure => simp [intOf]; omega
    · have ik1 : ¬ ((k : Int) < (N : Int)) := by omega
      have et : l.take k = l := List.take_of_length_le (by have := HN.out; omega)
      rw [et]
      go_wp2_with fail
      go_ret
      exact ⟨rfl, H2.out, H3.out⟩

theorem qByte_any (w : World) (qb : Nat) (v : Value) (bs : List UInt8) (r : RS) (h : Rr w qb v bs r) :
    Calls Try.prog 27 #[.pointer (some ⟨qb, 0, none⟩)] w fun e w' => e = .returned (.int .i64 (r.get bs 1).1) ∧ Rr w' qb v bs (r.get bs 1).2 ∧ Fr (fun k => k = qb) w w' := by
  have hp := qNumber_any w qb v bs r h 1 (by omega)
  have hlt : (r.get bs 1).1 < 256 ^ 1 := getN_lt' _ 1 (take_length bs r 1) (by omega)
  have hwr : IntKind.i64.wrap ((r.get bs 1).1 : Int) = (r.get bs 1).1 := IntWalk.i64_in _ (by omega)
  have HP := hide hp
  clear hp h hlt
  go_enter Try.func27, Try.ntmps27
  go_wp2_with fail
  refine HP.out.mono ?_
  rintro e w1 ⟨rfl, h1, h2⟩
  have H1 := hide h1
  have H2 := hide h2
  clear h1 h2
  go_wp2_with fail
  go_ret
  exact ⟨rfl, H1.out, H2.out⟩

theorem qFour_any (w : World) (qb : Nat) (v : Value) (bs : List UInt8) (r : RS) (h : Rr w qb v bs r) :
    Calls Try.prog 28 #[.pointer (some ⟨qb, 0, none⟩)] w fun e w' => e = .returned (.int .i64 (r.get bs 4).1) ∧ Rr w' qb v bs (r.get bs 4).2 ∧ Fr (fun k => k = qb) w w' := by
  have hp := qNumber_any w qb v bs r h 4 (by omega)
  have hlt : (r.get bs 4).1 < 256 ^ 4 := getN_lt' _ 4 (take_length bs r 4) (by omega)
  have hwr : IntKind.i64.wrap ((r.get bs 4).1 : Int) = (r.get bs 4).1 := IntWalk.i64_in _ (by omega)
  have HP := hide hp
  clear hp h hlt
  go_enter Try.func28, Try.ntmps28
  go_wp2_with fail
  refine HP.out.mono ?_
  rintro e w1 ⟨rfl, h1, h2⟩
  have H1 := hide h1
  have H2 := hide h2
  clear h1 h2
  go_wp2_with fail
  go_ret
  exact ⟨rfl, H1.out, H2.out⟩

theorem qEight_any (w : World) (qb : Nat) (v : Value) (bs : List UInt8) (r : RS) (h : Rr w qb v bs r) :
    Calls Try.prog 29 #[.pointer (some ⟨qb, 0, none⟩)] w fun e w' => e = .returned (.int .i64 (IntKind.i64.wrap ((r.get bs 8).1 : Int))) ∧ Rr w' qb v bs (r.get bs 8).2 ∧ Fr (fun k => k = qb) w w' := by
  have hp := qNumber_any w qb v bs r h 8 (by omega)
  have HP := hide hp
  clear hp h
  go_enter Try.func29, Try.ntmps29
  go_wp2_with fail
  refine HP.out.mono ?_
  rintro e w1 ⟨rfl, h1, h2⟩
  have H1 := hide h1
  have H2 := hide h2
  clear h1 h2
  go_wp2_with fail
  go_ret
  exact ⟨ret_int (IntWalk.i64_left _).symm, H1.out, H2.out⟩

theorem qFail_any (w : World) (qb : Nat) (v : Value) (bs : List UInt8) (r : RS) (h : Rr w qb v bs r) (why : Int) :
    Calls Try.prog 34 #[.pointer (some ⟨qb, 0, none⟩), .int .i64 why] w fun e w' => e = .returned (.tuple #[]) ∧ Rr w' qb v bs (if why = 0 then r else r.refuse why r.at_) ∧ Fr (fun k => k = qb) w w' := by
  have c1 : w.cell? ⟨qb, 1, none⟩ = some (.int .i64 r.at_) := by rw [cell_of_block h.blk]; rfl
  have H := hide h
  clear h
  by_cases hw : why = 0
  · have hb : (why != 0) = false := by rw [hw]; rfl
    rw [if_pos hw]
    clear hw
    go_enter Try.func34, Try.ntmps34
    go_wp2_with fail
    go_end0
    exact ⟨rfl, H.out, Fr.refl _ _⟩
  · have hb : (why != 0) = true := by rw [bne_iff_ne]; exact hw
    have HW := hide hw
    rw [if_neg hw]
    clear hw
    go_enter Try.func34, Try.ntmps34
    go_wp2_with fail
    refine (qRefuse_any w qb v bs r H.out why r.at_ HW.out).mono ?_
    rintro e w1 ⟨rfl, h1, h2⟩
    have H1 := hide h1
    have H2 := hide h2
    clear h1 h2
    go_wp2_with fail
    go_end0
    exact ⟨rfl, H1.out, H2.out⟩

theorem qLeft_any (w : World) (qb : Nat) (v : Value) (bs : List UInt8) (r : RS) (h : Rr w qb v bs r) :
    Calls Try.prog 35 #[.pointer (some ⟨qb, 0, none⟩)] w fun e w' => e = .returned (.int .i64 (r.left bs)) ∧ Rr w' qb v bs r ∧ Fr (fun k => k = qb) w w' := by
  have hle : r.at_ ≤ bs.length := h.le
  have hlen := h.len
  have c0 : w.cell? ⟨qb, 0, none⟩ = some v := by rw [cell_of_block h.blk]; rfl
  have c1 : w.cell? ⟨qb, 1, none⟩ = some (.int .i64 r.at_) := by rw [cell_of_block h.blk]; rfl
  have c2 : w.cell? ⟨qb, 2, none⟩ = some (.bool (r.why != 0)) := by rw [cell_of_block h.blk]; rfl
  obtain ⟨-, av, cv, rfl, -, hcap, -⟩ := id h.rd
  have H := hide h
  clear h
  by_cases hw : r.why = 0
  · have hb : (r.why != 0) = false := by rw [hw]; rfl
    have hl : r.left bs = (bs.length : Int) - r.at_ := by unfold RS.left; rw [if_pos hw]
    have hwr : IntKind.i64.wrap ((bs.length : Int) - r.at_) = (bs.length : Int) - r.at_ := IntWalk.i64_in _ (by omega)
    rw [hl]
    rw [hb] at c2
    clear hw hl hb
    go_enter Try.func35, Try.ntmps35
    go_wp2_with fail
    go_quiet (fail)
    go_wp2_with fail
    go_ret
    exact ⟨rfl, H.out.drewN _, (Fr.refl _ _).drewN _⟩
  · have hb : (r.why != 0) = true := by rw [bne_iff_ne]; exact hw
    have hl : r.left bs = 0 := by unfold RS.left; rw [if_neg hw]
    rw [hl]
    rw [hb] at c2
    clear hw hl hb
    go_enter Try.func35, Try.ntmps35
    go_wp2_with fail
    go_ret
    exact ⟨rfl, H.out, Fr.refl _ _⟩

theorem qEnd_any (w : World) (qb : Nat) (v : Value) (bs : List UInt8) (r : RS) (h : Rr w qb v bs r) :
    Calls Try.prog 36 #[.pointer (some ⟨qb, 0, none⟩)] w fun e w' => e = .returned (.tuple #[.int .i64 (r.end_ bs).1, .int .i64 (r.end_ bs).2]) ∧ Rr w' qb v bs r ∧ Fr (fun k => k = qb) w w' := by
  have hle : r.at_ ≤ bs.length := h.le
  have hlen := h.len
  have c0 : w.cell? ⟨qb, 0, none⟩ = some v := by rw [cell_of_block h.blk]; rfl
  have c1 : w.cell? ⟨qb, 1, none⟩ = some (.int .i64 r.at_) := by rw [cell_of_block h.blk]; rfl
  have c2 : w.cell? ⟨qb, 2, none⟩ = some (.bool (r.why != 0)) := by rw [cell_of_block h.blk]; rfl
  have c3 : w.cell? ⟨qb, 3, none⟩ = some (.int .i64 r.why) := by rw [cell_of_block h.blk]; rfl
  have c4 : w.cell? ⟨qb, 4, none⟩ = some (.int .i64 r.fin) := by rw [cell_of_block h.blk]; rfl
  obtain ⟨-, av, cv, rfl, -, hcap, -⟩ := id h.rd
  have H := hide h
  clear h
  by_cases hw : r.why = 0
  · have hb : (r.why != 0) = false := by rw [hw]; rfl
    rw [hb] at c2
    by_cases ha : r.at_ < bs.length
    · have hl : r.end_ bs = (11, (r.at_ : Int)) := by unfold RS.end_; rw [if_pos hw, if_pos ha]
      have ha' : (r.at_ : Int) < bs.length := by omega
      rw [hl]
      clear hw hl hb
      go_enter Try.func36, Try.ntmps36
      go_wp2_with fail
      go_quiet (fail)
      go_wp2_with fail
      go_quiet (fail)
      go_wp2_with fail
      go_ret2
      exact ⟨rfl, (H.out.drewN _).drewN _, ((Fr.refl _ _).drewN _).drewN _⟩
    · have hl : r.end_ bs = (0, 0) := by unfold RS.end_; rw [if_pos hw, if_neg ha]
      have ha' : ¬ ((r.at_ : Int) < bs.length) := by omega
      rw [hl]
      clear hw hl hb
      go_enter Try.func36, Try.ntmps36
      go_wp2_with fail
      go_quiet (fail)
      go_wp2_with fail
      go_ret2
      exact ⟨rfl, H.out.drewN _, (Fr.refl _ _).drewN _⟩
  · have hb : (r.why != 0) = true := by rw [bne_iff_ne]; exact hw
    have hl : r.end_ bs = (r.why, r.fin) := by unfold RS.end_; rw [if_neg hw]
    rw [hl]
    rw [hb] at c2
    clear hw hl hb
    go_enter Try.func36, Try.ntmps36
    go_wp2_with fail
    go_quiet (fail)
    go_wp2_with fail
    go_ret2
    exact ⟨rfl, H.out.drewN _, (Fr.refl _ _).drewN _⟩

theorem get_zero {bs : List UInt8} {r : RS} {k : Nat} (h : (r.get bs k).2.why ≠ 0) : (r.get bs k).1 = 0 := by
  unfold RS.get RS.take at *
  by_cases h1 : r.why ≠ 0
  · rw [if_pos h1]; rfl
  · rw [if_neg h1] at h ⊢
    by_cases h2 : bs.length - r.at_ < k
    · rw [if_pos h2]; rfl
    · rw [if_neg h2] at h; exact absurd h h1

set_option maxHeartbeats 800000 in
theorem qCount_any (w : World) (qb : Nat) (v : Value) (bs : List UInt8) (r : RS) (h : Rr w qb v bs r) (most : Int) :
    Calls Try.prog 32 #[.pointer (some ⟨qb, 0, none⟩), .int .i64 most] w fun e w' => e = .returned (.int .i64 (r.count bs most).1) ∧ Rr w' qb v bs (r.count bs most).2 ∧ Fr (fun k => k = qb) w w' := by
  have c1 : w.cell? ⟨qb, 1, none⟩ = some (.int .i64 r.at_) := by rw [cell_of_block h.blk]; rfl
  have hM : ∃ M, max most 0 = M ∧ (most < 0 ∧ M = 0 ∨ ¬ most < 0 ∧ M = most) := ⟨_, rfl, by omega⟩
  obtain ⟨M, hM, hMM⟩ := hM
  have hcnt : r.count bs most = (let r1 := if M < ((r.get bs 4).1 : Int) then (r.get bs 4).2.refuse 3 r.at_ else (r.get bs 4).2; (if r1.why = 0 then (r.get bs 4).1 else 0, r1)) := by
    unfold RS.count; rw [hM]
  have hz := get_zero (bs := bs) (r := r) (k := 4)
  have hF := qFour_any w qb v bs r h
  obtain ⟨⟨g, r0⟩, hg⟩ : ∃ p, r.get bs 4 = p := ⟨_, rfl⟩
  rw [hg] at hF hcnt hz
  have HF := hide hF
  clear hg hM hF
  rcases hMM with ⟨h0, hM0⟩ | ⟨h0, hM0⟩
  all_goals
    by_cases hw0 : r0.why = 0
    · have hw : (r0.why != 0) = false := by rw [hw0]; rfl
      by_cases hc : M < (g : Int)
      · have hr3 : r0.refuse 3 r.at_ = { r0 with why := 3, fin := r.at_ } := by unfold RS.refuse; rw [if_pos hw0]
        rw [hr3] at hcnt
        simp only [if_pos hc] at hcnt
        rw [if_neg (by decide)] at hcnt
        rw [hcnt, ← hr3]
        rw [hM0] at hc
        have HW := hide hw
        clear hw0 h hcnt hz hr3 hw
        go_enter Try.func32, Try.ntmps32
        go_wp2_with fail
        refine HF.out.mono ?_
        rintro e w1 ⟨rfl, h1, h2⟩
        have c2 : w1.cell? ⟨qb, 2, none⟩ = some (.bool false) := by rw [cell_of_block h1.blk, ← HW.out]; rfl
        have H1 := hide h1
        have H2 := hide h2
        clear h1 h2
        go_wp2_with fail
        refine (qRefuse_any _ qb v bs r0 H1.out 3 r.at_ (by decide)).mono ?_
        rintro e w2 ⟨rfl, h1, h2⟩
        have G1 := hide h1
        have G2 := hide h2
        clear h1 h2
        go_wp2_with fail
        go_ret
        exact ⟨rfl, G1.out, H2.out.trans G2.out (fun _ _ h => h)⟩
      · simp only [if_neg hc] at hcnt
        rw [if_pos hw0] at hcnt
        rw [hcnt]
        rw [hM0] at hc
        have HW := hide hw
        clear hw0 h hcnt hz hw
        go_enter Try.func32, Try.ntmps32
        go_wp2_with fail
        refine HF.out.mono ?_
        rintro e w1 ⟨rfl, h1, h2⟩
        have c2 : w1.cell? ⟨qb, 2, none⟩ = some (.bool false) := by rw [cell_of_block h1.blk, ← HW.out]; rfl
        have H1 := hide h1
        have H2 := hide h2
        clear h1 h2
        go_wp2_with fail
        go_ret
        exact ⟨rfl, H1.out, H2.out⟩
    · have hw : (r0.why != 0) = true := by rw [bne_iff_ne]; exact hw0
      have hg0 : g = 0 := hz hw0
      subst hg0
      have hc : ¬ (M < ((0 : Nat) : Int)) := by omega
      simp only [if_neg hc, if_neg hw0] at hcnt
      rw [hcnt]
      have HW := hide hw
      clear hw0 h hcnt hz hw hc
      go_enter Try.func32, Try.ntmps32
      go_wp2_with fail
      refine HF.out.mono ?_
      rintro e w1 ⟨rfl, h1, h2⟩
      have c2 : w1.cell? ⟨qb, 2, none⟩ = some (.bool true) := by rw [cell_of_block h1.blk, ← HW.out]; rfl
      have H1 := hide h1
      have H2 := hide h2
      clear h1 h2
      go_wp2_with fail
      go_ret
      exact ⟨rfl, H1.out, H2.out⟩

theorem qText_any (w : World) (qb : Nat) (v : Value) (bs : List UInt8) (r : RS) (h : Rr w qb v bs r) (most : Int) :
    Calls Try.prog 30 #[.pointer (some ⟨qb, 0, none⟩), .int .i64 most] w fun e w' => e = .returned (.string ⟨(r.text bs most).1.toArray⟩) ∧ Rr w' qb v bs (r.text bs most).2 ∧ Fr (fun k => k = qb) w w' := by
  have hp := qCount_any w qb v bs r h most
  have hl := count_lt bs r most
  obtain ⟨⟨n, r1⟩, hg⟩ : ∃ p, r.count bs most = p := ⟨_, rfl⟩
  have ht : r.text bs most = r1.take bs n := by unfold RS.text; rw [hg]
  rw [ht]
  rw [hg] at hp hl
  have HP := hide hp
  clear hp h hg ht
  go_enter Try.func30, Try.ntmps30
  go_wp2_with fail
  refine HP.out.mono ?_
  rintro e w1 ⟨rfl, h1, h2⟩
  have H1 := hide h1
  have H2 := hide h2
  clear h1 h2
  go_wp2_with fail
  refine (qRaw_any w1 qb v bs r1 H1.out n (by have : n < 4294967296 := hl; omega)).mono ?_
  rintro e w2 ⟨v2, rfl, h3, h4, h5⟩
  have hs := run_string_reads (P := Try.prog) w2 22 9 5 v2 (r1.take bs n).1 h3 Try.underlying22 Try.underlying5 Try.underlying9
  have H4 := hide h4
  have H5 := hide h5
  clear h3 h4 h5
  go_wp2_with fail
  go_ret
  exact ⟨rfl, H4.out, H2.out.trans H5.out (fun _ _ h => h)⟩
end Go.Proofs.Ytcklmdgmjgkogaa
