/- conclavebook at bytes: Same, Roomy, Intact. -/
import Derived.Test.YtcklmdgmjgkogaaRows
import Derived.Test.YtcklmdgmjgkogaaBytes
import Derived.Test.YtcklmdgmjgkogaaWire
import Derived.Laws.CopyOwn
import Derived.Deep.RegionHeld3
import Derived.Deep.CutBlock
namespace Go.Proofs.Ytcklmdgmjgkogaa
open Go.RowKit Go.Maps Go.Cv
set_option linter.unusedVariables false

theorem sameBytes_any (w : World) (v1 v2 : Value) (l : List UInt8) (h1 : Reads w v1 l.length 1 (bc l)) (h2 : Reads w v2 l.length 1 (bc l)) (hb1 : l.length ≤ 9223372036854775807) :
    Calls Try.prog 49 #[v1, v2] w fun e w' => e = .returned (.bool true) ∧ ∃ m, w' = w.drewN m := by
  obtain ⟨-, a1, c1, rfl, -, -, h1⟩ := h1
  obtain ⟨-, a2, c2, rfl, -, -, h2⟩ := h2
  obtain ⟨N, hN⟩ : ∃ N, l.length = N := ⟨_, rfl⟩
  rw [hN] at hb1 ⊢
  have HN := hide hN
  have H1 := hide h1
  have H2 := hide h2
  clear h1 h2 hN
  go_enter Try.func49, Try.ntmps49
  go_wp2
  go_loopw [5] (fun i wr => ∃ k m : Nat, k ≤ N ∧ i = .int .i64 k ∧ wr = w.drewN m) (fun i _ => N - (intOf i).toNat)
  case atStart => exact ⟨0, 0, by omega, rfl, rfl⟩
  case round =>
    obtain ⟨k, m, hk, rfl, rfl⟩ := hrel
    by_cases hlt : k < N
    · have hlen := HN.out
      have g1 : l[k]? = some l[k] := List.getElem?_eq_getElem (by omega)
      obtain ⟨b1, o1, rfl, e1⟩ := H1.out k (.int .u8 (l[k].toNat : Int)) (bc_at l k _ g1)
      obtain ⟨b2, o2, rfl, e2⟩ := H2.out k (.int .u8 (l[k].toNat : Int)) (bc_at l k _ g1)
      generalize l[k] = x at *
      have hi0 : (0 : Int) ≤ (k : Int) := by omega
      have hi1 : (k : Int) < (N : Int) := by omega
      clear g1 hlen
      go_wp2
      go_quiet (fail)
      go_wp2
      go_roundw
      case rel => exact ⟨k + 1, _, by omega, by go_num, rfl⟩
      case measure => simp [intOf]; omega
    · obtain rfl : k = N := by omega
      go_wp2
      go_ret
      exact ⟨rfl, _, rfl⟩

/-- What Roomy lays: the bytes, and eighty marks. -/
def roomy (bs : List UInt8) (m : UInt8) : List UInt8 := bs ++ List.replicate 80 m
theorem roomy_length (bs : List UInt8) (m : UInt8) : (roomy bs m).length = bs.length + 80 := by simp [roomy]
def rcell (bs : List UInt8) (m : UInt8) (i : Nat) : Value := .int .u8 (((roomy bs m).getD i 0).toNat : Int)

theorem arr_reads {w : World} {g : Nat} {bs : List UInt8} {m : UInt8} (h : Arr w g 5 (bs.length + 80) (rcell bs m)) : Reads w (.slice (some ⟨g, 0, none⟩) (roomy bs m).length (roomy bs m).length) (roomy bs m).length 1 (bc (roomy bs m)) := by
  refine ⟨by rw [bc_length, Nat.mul_one], _, _, rfl, (by intro h; cases h), Nat.le_refl _, fun i u hu => ⟨g, 0, rfl, ?_⟩⟩
  have hi : i < (roomy bs m).length := by have := (List.getElem?_eq_some_iff.1 hu).1; rwa [bc_length] at this
  have hx : (roomy bs m)[i]? = some (roomy bs m)[i] := List.getElem?_eq_getElem hi
  have h2 := bc_at _ i _ hx
  rw [hu] at h2
  rw [Nat.zero_add, h.cell (by rw [← roomy_length bs m]; exact hi), h2]
  unfold rcell
  rw [List.getD_eq_getElem?_getD, hx]; rfl

theorem own_full {w : World} {base e g n : Nat} {xs : List Value} (h : w.ownsRow base e 1 (.slice (some ⟨g, 0, none⟩) n n) n xs) : ∃ cur : Array Value, w.heap[g]? = some (.cells cur e (0, 0)) ∧ cur.toList = xs ∧ xs.length = n := by
  have hl := h.1
  rcases h.2 with ⟨e', _⟩ | ⟨g', cap, cur, e', hb, hg, hnc, hcm, hcs, htake⟩
  · cases e'
  · cases e'
    refine ⟨cur, hg, ?_, by omega⟩
    rw [← htake, List.take_of_length_le (by simp; omega)]

set_option maxRecDepth 100000 in
set_option maxHeartbeats 1600000 in
theorem roomyBytes_any (w : World) (v : Value) (bs : List UInt8) (h : Reads w v bs.length 1 (bc bs)) (m : UInt8) (hl : bs.length ≤ 1000000000) :
    Calls Try.prog 26 #[v, .int .u8 (m.toNat : Int)] w fun e w' => ∃ g, e = .returned (.slice (some ⟨g, 0, none⟩) (bs.length + 80) (bs.length + 80)) ∧ w.heap.size ≤ g ∧ Arr w' g 5 (bs.length + 80) (rcell bs m) ∧ Fr (fun _ => False) w w' := by
  obtain ⟨i0, hi0, hz0, hz1, hz2⟩ := info_parts info5
  obtain ⟨N, hN⟩ : ∃ N, bs.length = N := ⟨_, rfl⟩
  have h' := h
  rw [hN] at h' hl ⊢
  obtain ⟨-, a, c, rfl, h0, -, hc⟩ := id h'
  have HN := hide hN
  have H := hide h'
  have HC := hide hc
  clear h h' hN hc
  have b2 : i0.bytes * (N + 80) ≤ 281474976710656 := by rw [hz2]; omega
  have b3 : N + 80 ≤ maxLen := by unfold maxLen; omega
  go_enter Try.func26, Try.ntmps26
  have hinfo : (Try.prog.info? 5).map (·.size) = some 1 := by rw [hi0]; simp [hz1]
  have hone := bc_one bs
  obtain ⟨W, hW⟩ : ∃ W, w.heap.size = W := ⟨_, rfl⟩
  rw [hW]
  go_upto_region 2 with
    (at_make; refine wpList_make_full _ rfl _ _ _ rfl w.heap.size 5 i0 _ 1 Try.underlying22 hi0 hz0 hz1 .i64 .i64 _ _ (N + 80) rfl rfl (by go_num) (by go_num) b2 b3 (Nat.le_refl _) ?_; intro w1 ho1 hg1; have HO1 := hide ho1; have HG1 := hide hg1; clear ho1 hg1)
  have ho1 := HO1.out
  have hg1 := HG1.out
  obtain ⟨cur0, hcur0, hcl, hcn⟩ := own_full ho1
  rw [hW] at hcur0
  obtain ⟨cur, hcu⟩ : ∃ cur, cur0.toList = cur := ⟨_, rfl⟩
  have CUR : Hid (w1.heap[W]? = some (.cells cur.toArray 5 (0, 0))) := by rw [← hcu]; simpa using hide hcur0
  have hcun : cur.length = N + 80 := by rw [← hcu, hcl]; exact hcn
  have hn1 : (bc bs).length = Nat.min N (N + 80) := by rw [bc_length, HN.out]; exact (Nat.min_eq_left (by omega)).symm
  have hfit : 0 + (bc bs).length ≤ cur.length := by rw [bc_length, HN.out, hcun]; omega
  have hf1 : Fr (fun _ => False) w w1 := (Fr.grown (S := fun _ => False) hg1 (fun k hk => by cases hk))
  have hpos : 0 < (bc bs).length → ∃ ad, a = some ad ∧ ∀ j v, (bc bs)[j]? = some v → w1.cell? (ad.add j) = some v := by
    intro hp
    obtain ⟨b0, o0, e0, -⟩ := HC.out 0 _ (List.getElem?_eq_getElem hp)
    refine ⟨_, e0, fun j v hj => ?_⟩
    obtain ⟨b1, o1, e1, e2⟩ := HC.out j v hj
    rw [e0] at e1; cases e1
    have hadd : (⟨b0, o0, none⟩ : Addr).add j = ⟨b0, o0 + j, none⟩ := by unfold Addr.add; split <;> simp_all
    rw [hadd, World.cell?_of_block (w := w) (hf1.block b0 (World.block_lt_of_cell? w _ e2) id)]
    exact e2
  have F1 := hide hf1
  have HPOS := hide hpos
  clear ho1 hg1 hcur0 hcu hcl hcn hf1 hpos
  go_upto_region 3 with (refine wpList_copy_splice rfl _ _ _ _ rfl 5 Try.underlying22 hinfo _ _ _ _ _ _ rfl rfl W 0 cur 5 CUR.out (bc bs) hn1 (fun hp => ⟨rfl, HPOS.out hp⟩) hfit hone W w1 (Below.refl _ _) (Nat.le_refl _) ?_; intro w2 hc2 hb2; have HB2 := hide hb2; clear hb2)
  have hA : Arr w2 W 5 (N + 80) (fun i => if i < N then rcell bs m i else (splice cur 0 (bc bs)).getD i undef) := by
    have hsl : (splice cur 0 (bc bs)).length = N + 80 := by rw [length_splice _ _ _ hfit]; exact hcun
    refine ⟨_, hc2, by simpa using hsl, fun i hi => ?_⟩
    have hi2 : i < (splice cur 0 (bc bs)).length := by omega
    rw [List.getElem?_toArray, List.getElem?_eq_getElem hi2]
    show some _ = some (if i < N then rcell bs m i else (splice cur 0 (bc bs)).getD i undef)
    by_cases hiN : i < N
    · rw [if_pos hiN]
      have hib : i < bs.length := by have := HN.out; omega
      have e1 : (splice cur 0 (bc bs))[i]? = (bc bs)[i]? := by
        unfold splice
        rw [List.take_zero, List.nil_append, List.getElem?_append_left (by rw [bc_length]; exact hib)]
      rw [← List.getElem?_eq_getElem hi2, e1, bc_at bs i _ (List.getElem?_eq_getElem hib)]
      unfold rcell roomy
      rw [List.getD_eq_getElem?_getD, List.getElem?_append_left hib, List.getElem?_eq_getElem hib]; rfl
    · rw [if_neg hiN, List.getD_eq_getElem?_getD, List.getElem?_eq_getElem hi2]; rfl
  have hfr : Fr (fun k => W ≤ k) w w2 := (F1.out.mono (fun _ _ h => h.elim)).trans (Fr.below HB2.out) (fun _ _ h => h)
  have HA := hide hA
  have HF := hide hfr
  obtain ⟨Z, hZ⟩ : ∃ Z : Nat → Value, (fun i => (splice cur 0 (bc bs)).getD i undef) = Z := ⟨_, rfl⟩
  have HA2 : Hid (Arr w2 W 5 (N + 80) (fun i => if i < N then rcell bs m i else Z i)) := by rw [← hZ]; exact HA
  clear hA hfr hc2 HA hZ
  go_wp2_with fail
  go_loopw [6] (fun i wr => ∃ k : Nat, i = .int .i64 k ∧ N ≤ k ∧ k ≤ N + 80 ∧ Arr wr W 5 (N + 80) (fun i => if i < k then rcell bs m i else Z i) ∧ Fr (fun k => W ≤ k) w wr) (fun i _ => N + 80 - (intOf i).toNat)
  case atStart => exact ⟨N, rfl, by omega, by omega, HA2.out, HF.out⟩
  case round =>
    obtain ⟨k, rfl, hk, hk2, hA, hf⟩ := hrel
    by_cases hg : k < N + 80
    · have e1 := hA.cell hg
      have e2 := hA.free k
      rw [if_neg (by omega)] at e1
      have hset := (hA.set k (.int .u8 (m.toNat : Int))).congr (g' := fun i => if i < k + 1 then rcell bs m i else Z i) (fun i hi => by
        show (if i < k + 1 then rcell bs m i else Z i) = (if i = k then _ else if i < k then rcell bs m i else Z i)
        by_cases e : i = k
        · subst e
          rw [if_pos rfl, if_pos (by omega)]
          unfold rcell roomy
          have hbk : bs.length ≤ i := by have := HN.out; omega
          rw [List.getD_eq_getElem?_getD, List.getElem?_append_right hbk, List.getElem?_replicate, if_pos (by have := HN.out; omega)]; rfl
        · rw [if_neg e]
          by_cases e3 : i < k
          · rw [if_pos e3, if_pos (by omega)]
          · rw [if_neg e3, if_neg (by omega)])
      have S := hide hset
      have F := hide hf
      have ik0 : (0 : Int) ≤ (k : Int) := by omega
      have ik1 : (k : Int) < (N : Int) + 80 := by omega
      clear hA hf hset
      go_wp2_with fail
      go_roundw
      case rel => exact ⟨k + 1, by go_num, by omega, by omega, S.out, F.out.trans (Fr.setCell (S := fun k => W ≤ k) _ _ _ (Nat.le_refl _)) (fun _ _ h => h)⟩
      case measure => simp [intOf]; omega
    · have ik1 : ¬ ((k : Int) < (N : Int) + 80) := by omega
      have hA2 := hA.congr (g' := rcell bs m) (fun i hi => (if_pos (show i < k by omega)).symm)
      have S := hide hA2
      have F := hide hf
      clear hA hf hA2
      go_wp2_with fail
      go_ret
      exact ⟨W, rfl, by omega, S.out, F.out.fresh (fun k h => by omega)⟩

theorem arr_prefix {w : World} {g : Nat} {bs : List UInt8} {m : UInt8} (h : Arr w g 5 (bs.length + 80) (rcell bs m)) : Reads w (.slice (some ⟨g, 0, none⟩) bs.length (bs.length + 80)) bs.length 1 (bc bs) := by
  refine ⟨by rw [bc_length, Nat.mul_one], _, _, rfl, (by intro h; cases h), Nat.le_add_right _ _, fun i u hu => ⟨g, 0, rfl, ?_⟩⟩
  have hi : i < bs.length := by have := (List.getElem?_eq_some_iff.1 hu).1; rwa [bc_length] at this
  have hx : bs[i]? = some bs[i] := List.getElem?_eq_getElem hi
  have h2 := bc_at _ i _ hx
  rw [hu] at h2
  rw [Nat.zero_add, h.cell (by omega), h2]
  unfold rcell roomy
  rw [List.getD_eq_getElem?_getD, List.getElem?_append_left hi, hx]; rfl
theorem rcell_mark (bs : List UInt8) (m : UInt8) (i : Nat) (h1 : bs.length ≤ i) (h2 : i < bs.length + 80) : rcell bs m i = .int .u8 (m.toNat : Int) := by
  unfold rcell roomy
  rw [List.getD_eq_getElem?_getD, List.getElem?_append_right h1, List.getElem?_replicate, if_pos (by omega)]; rfl

set_option maxRecDepth 100000 in
set_option maxHeartbeats 1600000 in
theorem intactBytes_any (w : World) (g : Nat) (v : Value) (bs : List UInt8) (m : UInt8) (hA : Arr w g 5 (bs.length + 80) (rcell bs m)) (h : Reads w v bs.length 1 (bc bs)) (hl : bs.length ≤ 1000000000) :
    Calls Try.prog 37 #[.slice (some ⟨g, 0, none⟩) (bs.length + 80) (bs.length + 80), v, .int .u8 (m.toNat : Int)] w fun e w' => e = .returned (.bool true) ∧ Fr (fun _ => False) w w' := by
  have hp := sameBytes_any w _ v bs (arr_prefix hA) h (by omega)
  obtain ⟨N, hN⟩ : ∃ N, bs.length = N := ⟨_, rfl⟩
  have h' := h
  have hA' := hA
  rw [hN] at h' hA' hl hp ⊢
  obtain ⟨-, a, c, rfl, h0, -, -⟩ := id h'
  have HN := hide hN
  have HA := hide hA'
  have HP := hide hp
  have w1 : IntKind.i64.wrap ((N : Int) + 80) = (N : Int) + 80 := IntWalk.i64_in _ (by omega)
  clear h h' hN hA hA' h0 hp
  go_enter Try.func37, Try.ntmps37
  go_wp2_with fail
  refine HP.out.mono ?_
  rintro e w2 ⟨rfl, q, rfl⟩
  go_wp2_with fail
  go_loopw [7] (fun i wr => ∃ k : Nat, i = .int .i64 k ∧ N ≤ k ∧ k ≤ N + 80 ∧ wr = w.drewN q) (fun i _ => N + 80 - (intOf i).toNat)
  case atStart => exact ⟨N, rfl, by omega, by omega, rfl⟩
  case round =>
    obtain ⟨k, rfl, hk, hk2, rfl⟩ := hrel
    by_cases hg : k < N + 80
    · have e1 : (w.drewN q).cell? ⟨g, k, none⟩ = some (.int .u8 (m.toNat : Int)) := by
        rw [← rcell_mark bs m k (by have := HN.out; omega) (by have := HN.out; omega)]; exact HA.out.cell hg
      have ik0 : (0 : Int) ≤ (k : Int) := by omega
      have ik1 : (k : Int) < (N : Int) + 80 := by omega
      go_wp2_with fail
      go_roundw
      case rel => exact ⟨k + 1, by go_num, by omega, by omega, trivial⟩
      case measure => simp [intOf]; omega
    · have ik1 : ¬ ((k : Int) < (N : Int) + 80) := by omega
      go_wp2_with fail
      go_ret
      exact ⟨rfl, (Fr.refl _ _).drewN _⟩
end Go.Proofs.Ytcklmdgmjgkogaa
