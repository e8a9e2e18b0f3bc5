/- More methods of log.Log: what forgets, what tells. The walk of maps.DeleteFunc is a worked proof's, turned to this translation. -/
import Derived.Test.YtpjdepepgfimeaaLog
import Derived.Lib.SlMapFilter
import Derived.Laws.IdiomRangeMap
import Derived.Deep.LoopGhost
namespace Go.Proofs.Ytpjdepepgfimeaa
open Go.RowKit Go.Maps Go.Cv

def fdel (f : Int → Option ByteArray) (lo : Int) : Int → Option ByteArray := fun i => if i < lo then none else f i

def below (lo : Int) (kl : Lit) (_ : DataW Value) : Bool := match kl with | .int _ v => decide (v < lo) | _ => false

theorem closure_any (w : World) (s lo : Int) (val : Value) (bx : Nat) (hx : w.cell? ⟨bx, 0, none⟩ = some (.int .i64 lo)) :
    Calls Try.prog 32 #[.int .i64 s, val, .pointer (some ⟨bx, 0, none⟩)] w fun e w' => e = .returned (.bool (decide (s < lo))) ∧ w' = w := by
  go_enter Try.func32, Try.ntmps32
  go_wp2
  go_ret
  exact ⟨rfl, rfl⟩

theorem find_filter_del {lo : Int} {l : Lit} (es : List (Lit × DataW Value)) : (es.filter fun p => !below lo p.1 p.2).find? (fun p => p.1.sameKey l) = if below lo l .nil then none else es.find? (fun p => p.1.sameKey l) := by
  have key : ∀ p : Lit × DataW Value, p.1.sameKey l = true → below lo p.1 p.2 = below lo l .nil := fun p h => by rw [WideAt.sameKey_eq h]; rfl
  split
  · rename_i h
    rw [List.find?_eq_none]
    intro p hp hk
    have h2 := (List.mem_filter.1 hp).2
    rw [key p hk, h] at h2
    cases h2
  · rename_i h
    refine Maps.find_filter_keep (fun p hp => ?_) es
    rw [key p hp]
    simpa using h

theorem lm_del (f : Int → Option ByteArray) (lo : Int) (l : Lit) : lm (fdel f lo) l = if below lo l .nil then none else lm f l := by
  match l with
  | .int .i64 i => unfold lm fdel below; by_cases h : i < lo <;> simp [h]
  | .int .i8 _ | .int .i16 _ | .int .i32 _ | .int .u8 _ | .int .u16 _ | .int .u32 _ | .int .u64 _ => simp [lm]
  | .bool _ | .float _ _ | .string _ | .nil => simp [lm]

set_option maxHeartbeats 4000000 in
set_option maxRecDepth 100000 in
theorem delfunc_any (bm n bx : Nat) (f : Int → Option ByteArray) (lo : Int) (w : World) (hmap : mapF w Try.prog 3 bm n (lm f)) (hx : w.cell? ⟨bx, 0, none⟩ = some (.int .i64 lo)) (hne : bx ≠ bm) :
    Calls Try.prog 31 #[.map (some bm), .func (.func 32) #[] #[.pointer (some ⟨bx, 0, none⟩)]] w fun e w' => e = .returned (.tuple #[]) ∧ mapF w' Try.prog 3 bm n (lm (fdel f lo)) ∧ w.grownBy w' (some bm) := by
  obtain ⟨D, hown, hD⟩ := hmap
  suffices H : Calls Try.prog 31 #[.map (some bm), .func (.func 32) #[] #[.pointer (some ⟨bx, 0, none⟩)]] w fun e w' => e = .returned (.tuple #[]) ∧ w'.ownsMap Try.prog 3 hv bm n (Lib.deleteFuncD (below lo) D) ∧ w.grownBy w' (some bm) by
    refine H.mono fun e w' ⟨h1, h2, h3⟩ => ⟨h1, ⟨_, h2, fun l z => ?_⟩, h3⟩
    obtain ⟨es, rfl⟩ := hown.isMap
    have e : ∀ es' : List (Lit × DataW Value), (DataW.map es').atKey l z = ((es'.find? fun p => p.1.sameKey l).map (·.2)).getD z := by
      intro es'
      unfold DataW.atKey
      simp only
      cases es'.find? (fun p => p.1.sameKey l) <;> rfl
    have h4 := hD l z
    rw [e] at h4
    unfold Lib.deleteFuncD
    rw [e, find_filter_del, lm_del]
    split
    · rfl
    · exact h4
  clear hD
  obtain ⟨es0, rfl, hap, hkeys⟩ := hown.entries law
  have hbx := World.block_lt_of_cell? w _ hx
  have HX := hide hx
  have HBX := hide hbx
  clear hx hbx
  go_enter Try.func31, Try.ntmps31
  go_wp2_with (first
    | (at_range; go_must (refine wpList_range_own _ rfl _ 54 rfl 3 9 law Try.underlying54 hv bm n _ rfl hown ?_); intro w0 hrg0 hg0 hs0)
    | go_in)
  go_loopw [8] (fun _ wr => ∃ (left : Lit → Bool) (cnt : Nat), wr.ranges Try.prog 3 hv bm w.heap.size n (Fk (below lo) es0 left) left cnt ∧ w.grownBy wr (some bm))
    (fun _ wr => wr.rangeLeft bm w.heap.size)
  case atStart => exact ⟨_, _, by rw [Fk_start hkeys]; exact hrg0, hg0.but _⟩
  case round =>
    obtain ⟨left, cnt, hrg, hgw⟩ := hrel
    go_wp2_with (first
      | (at_next; refine wpList_next_ranges _ rfl _ rfl 3 law hv (Value.int .i64) id (fun key kl h => by obtain ⟨x, rfl, _⟩ := Maps.keyOf_int_inv Try.underlying3 h; exact ⟨x, rfl⟩) (fun v _ _ => ⟨v, rfl⟩) bm w.heap.size n _ _ _ rfl hrg ?_ ?_)
      | go_in)
    · intro _ hl0
      go_wp2
      go_end0
      exact ⟨rfl, by rw [← Fk_end hl0]; exact hrg.owns, hgw⟩
    · intro x c kl yd yp w1 cnt1 hkey hlx hval hat hrg1 hlt hg1 hs1 hen
      have hgw1 := hgw.andThen hg1 (fun j hj => by cases hj; exact Or.inl (Nat.le_refl _))
      obtain ⟨x', ex, rfl, hwx⟩ := Maps.keyOf_int_inv Try.underlying3 hkey
      cases ex
      have hx1 : w1.cell? ⟨bx, 0, none⟩ = some (.int .i64 lo) := (hgw1.cell HX.out (by simpa using hne))
      have hc := closure_any w1 x lo c bx hx1
      have hbl := hrg1.owns.lt
      have hrl := hrg1.lt
      have HC := hide hc
      clear hc hx1
      cases hp : decide (x < lo) <;> rw [hp] at HC
      · have hp' : below lo (.int .i64 x) yd = false := hp
        go_wp2_with (first
          | (go_at_call 32; refine HC.out.mono ?_; rintro e w2 ⟨rfl, rfl⟩)
          | go_in)
        go_roundw
        case rel => exact ⟨_, cnt1, by rw [← Fk_stays hap (law.key hkey) hlx hp' hat]; exact hrg1, hgw1⟩
        case measure => rw [hrg1.left_eq, hrg.left_eq]; exact hlt
      · have hp' : below lo (.int .i64 x) yd = true := hp
        go_wp2_with (first
          | (go_at_call 32; refine HC.out.mono ?_; rintro e w2 ⟨rfl, rfl⟩)
          | (at_delete; refine wpList_delete_ranges _ rfl _ _ 54 3 rfl 9 law Try.underlying54 hv bm w.heap.size n _ _ _ rfl hrg1 _ _ rfl hkey ?_; intro w3 cnt3 hrg3 hle hturn; go_frame)
          | go_in)
        rw [strike_twice] at hrg3
        go_roundw
        case rel => exact ⟨_, cnt3, by rw [← Fk_struck hap (law.key hkey) hlx hp' hat]; exact hrg3, hgw1.andThen hturn.grown (fun j hj => by cases hj; exact Or.inr rfl)⟩
        case measure => rw [hrg3.left_eq, hrg.left_eq]; omega

set_option maxRecDepth 100000 in
theorem forget_any (w : World) (lb bm n : Nat) (f : Int → Option ByteArray) (base taken : Int) (h : Lg w lb bm n f base taken) (k : Int) (_ : 0 ≤ k) (_ : k ≤ 512) :
    Calls Try.prog 29 #[.pointer (some ⟨lb, 0, none⟩), .int .i64 k] w fun e w' => e = .returned (.tuple #[]) ∧ Lg w' lb bm n (fdel f k) k taken ∧ Fr (fun j => j = lb ∨ j = bm) w w' := by
  have hlb := lt_of_block h.blk
  have hbm := h.map.lt
  have c0 : w.cell? ⟨lb, 0, none⟩ = some (.map (some bm)) := by rw [cell_of_block h.blk]; rfl
  have hdel : Calls Try.prog 31 #[.map (some bm), .func (.func 32) #[] #[.pointer (some ⟨w.heap.size, 0, none⟩)]] (w.alloc (.cells #[.int .i64 k] 3)) fun e w' => e = .returned (.tuple #[]) ∧ w'.cell? ⟨w.heap.size, 0, none⟩ = some (.int .i64 k) ∧ w'.cell? ⟨lb, 1, none⟩ = some (.int .i64 base) ∧ w'.frozen? ⟨lb, 1, none⟩ = false ∧
      Lg w' lb bm n (fdel f k) base taken ∧ Fr (fun j => j = bm) w w' := by
    have hbx : (w.alloc (.cells #[.int .i64 k] 3)).cell? ⟨w.heap.size, 0, none⟩ = some (.int .i64 k) := by rw [cell_of_block (block_alloc w _)]; rfl
    refine (delfunc_any bm n w.heap.size f k _ (h.map.of_block (Below.heap_alloc _ _ _ hbm)) hbx (by omega)).mono ?_
    rintro e w' ⟨rfl, hm, hg⟩
    have hblk : w'.heap[lb]? = some (.cells #[.map (some bm), .int .i64 base, .int .i64 taken] 56 (0, 0)) := by
      rw [hg.block lb (by simp; omega) (by simpa using h.ne), Below.heap_alloc _ _ _ hlb]; exact h.blk
    refine ⟨rfl, hg.cell hbx (by simp; omega), by rw [cell_of_block hblk]; rfl, free_of_block hblk, ⟨hblk, hm, h.ne⟩, (Fr.alloc (fun j => j = bm) w _).trans (Fr.grown (S := fun j => j = bm) hg (fun j hj => by cases hj; rfl)) (fun _ _ hj => hj)⟩
  go_enter Try.func29, Try.ntmps29
  go_wp2_with fail
  refine hdel.mono ?_
  rintro e w1 ⟨rfl, hc, hc1, hf1, hl, hfr⟩
  have HL := hide hl
  clear hl hdel
  go_wp2_with fail
  go_end0
  refine ⟨rfl, ⟨?_, HL.out.map.of_block (Below.heap_setCell _ _ _ _ h.ne.symm), h.ne⟩, hfr.step (Fr.setCell _ _ _ rfl) |>.mono (fun j _ hj => hj.elim Or.inr (fun e => Or.inl e.symm))⟩
  rw [block_setCell HL.out.blk]; rfl

theorem get_any (w : World) (lb bm n : Nat) (f : Int → Option ByteArray) (base taken : Int) (h : Lg w lb bm n f base taken) (s : Int) (h0 : -9223372036854775808 ≤ s) (h1 : s < 9223372036854775808) :
    Calls Try.prog 14 #[.pointer (some ⟨lb, 0, none⟩), .int .i64 s] w fun e w' => e = .returned (.tuple #[.string ((f s).getD ⟨#[]⟩), .bool (f s).isSome]) ∧ w = w' := by
  have c0 : w.cell? ⟨lb, 0, none⟩ = some (.map (some bm)) := by rw [cell_of_block h.blk]; rfl
  have hkey : keyOf Try.prog 3 (.int .i64 s) = some (.int .i64 s) := keyOf_int_mk Try.underlying3 (WalkArith.wf_i64 (by omega))
  have hmap := h.map
  obtain ⟨ok, hok⟩ : ∃ ok, (f s).isSome = ok := ⟨_, rfl⟩
  obtain ⟨u, hu⟩ : ∃ u, (f s).getD ⟨#[]⟩ = u := ⟨_, rfl⟩
  have hf : (lm f (.int .i64 s)).isSome = ok := by rw [← hok, lm_at]; cases f s <;> rfl
  have hf2 : (lm f (.int .i64 s)).getD (.string ⟨#[]⟩) = .string u := by rw [← hu, lm_at]; cases f s <;> rfl
  rw [hok, hu]
  clear hok hu
  go_enter Try.func14, Try.ntmps14
  go_wp2_with (first
    | (at_lookup; refine wpList_lookup_mf _ rfl _ _ 54 rfl 3 9 law Try.underlying54 (zeroS _) bm n _ rfl hmap _ _ rfl hkey _ ok hf2 hf ?_)
    | go_in)
  go_ret2
  exact ⟨rfl, rfl⟩

theorem base_any (w : World) (lb bm n : Nat) (f : Int → Option ByteArray) (base taken : Int) (h : Lg w lb bm n f base taken) :
    Calls Try.prog 16 #[.pointer (some ⟨lb, 0, none⟩)] w fun e w' => e = .returned (.int .i64 base) ∧ w = w' := by
  have c1 : w.cell? ⟨lb, 1, none⟩ = some (.int .i64 base) := by rw [cell_of_block h.blk]; rfl
  go_enter Try.func16, Try.ntmps16
  go_wp2
  go_ret
  exact ⟨rfl, rfl⟩

theorem taken_any (w : World) (lb bm n : Nat) (f : Int → Option ByteArray) (base taken : Int) (h : Lg w lb bm n f base taken) :
    Calls Try.prog 17 #[.pointer (some ⟨lb, 0, none⟩)] w fun e w' => e = .returned (.int .i64 taken) ∧ w = w' := by
  have c2 : w.cell? ⟨lb, 2, none⟩ = some (.int .i64 taken) := by rw [cell_of_block h.blk]; rfl
  go_enter Try.func17, Try.ntmps17
  go_wp2
  go_ret
  exact ⟨rfl, rfl⟩

theorem compact_no (w : World) (lb bm n : Nat) (f : Int → Option ByteArray) (base taken : Int) (h : Lg w lb bm n f base taken) (k : Int) (hk : k < base ∨ taken < k) :
    Calls Try.prog 15 #[.pointer (some ⟨lb, 0, none⟩), .int .i64 k] w fun e w' => e = .returned (.int .i64 1) ∧ w = w' := by
  have c1 : w.cell? ⟨lb, 1, none⟩ = some (.int .i64 base) := by rw [cell_of_block h.blk]; rfl
  have c2 : w.cell? ⟨lb, 2, none⟩ = some (.int .i64 taken) := by rw [cell_of_block h.blk]; rfl
  by_cases h1 : k < base
  · go_enter Try.func15, Try.ntmps15
    go_wp2
    go_ret
    exact ⟨rfl, rfl⟩
  · have h2 : taken < k := by omega
    clear hk
    go_enter Try.func15, Try.ntmps15
    go_wp2
    go_ret
    exact ⟨rfl, rfl⟩

theorem compact_yes (w : World) (lb bm n : Nat) (f : Int → Option ByteArray) (base taken : Int) (h : Lg w lb bm n f base taken) (k : Int) (h0 : 0 ≤ k) (h5 : k ≤ 512) (h1 : base ≤ k) (h2 : k ≤ taken) :
    Calls Try.prog 15 #[.pointer (some ⟨lb, 0, none⟩), .int .i64 k] w fun e w' => e = .returned (.int .i64 0) ∧ Lg w' lb bm n (fdel f k) k taken ∧ Fr (fun j => j = lb ∨ j = bm) w w' := by
  have c1 : w.cell? ⟨lb, 1, none⟩ = some (.int .i64 base) := by rw [cell_of_block h.blk]; rfl
  have c2 : w.cell? ⟨lb, 2, none⟩ = some (.int .i64 taken) := by rw [cell_of_block h.blk]; rfl
  go_enter Try.func15, Try.ntmps15
  go_wp2_with fail
  refine (forget_any _ lb bm n f base taken h k h0 h5).mono ?_
  rintro e w1 ⟨rfl, hl, hfr⟩
  go_wp2_with fail
  go_ret
  exact ⟨rfl, hl, hfr⟩

theorem jump_no (w : World) (lb bm n : Nat) (f : Int → Option ByteArray) (base taken : Int) (h : Lg w lb bm n f base taken) (k r : Int) (hk : (k < 0 ∨ 512 < k) ∧ r = 1 ∨ (0 ≤ k ∧ k ≤ 512 ∧ k ≤ taken ∧ r = 0)) :
    Calls Try.prog 20 #[.pointer (some ⟨lb, 0, none⟩), .int .i64 k] w fun e w' => e = .returned (.int .i64 r) ∧ w = w' := by
  have c2 : w.cell? ⟨lb, 2, none⟩ = some (.int .i64 taken) := by rw [cell_of_block h.blk]; rfl
  rcases hk with ⟨hk | hk, rfl⟩ | ⟨h1, h2, h3, rfl⟩
  all_goals
    go_enter Try.func20, Try.ntmps20
    go_wp2
    go_ret
    exact ⟨rfl, rfl⟩

theorem jump_yes (w : World) (lb bm n : Nat) (f : Int → Option ByteArray) (base taken : Int) (h : Lg w lb bm n f base taken) (k : Int) (h0 : 0 ≤ k) (h1 : k ≤ 512) (h2 : taken < k) :
    Calls Try.prog 20 #[.pointer (some ⟨lb, 0, none⟩), .int .i64 k] w fun e w' => e = .returned (.int .i64 0) ∧ Lg w' lb bm n (fdel f k) k k ∧ Fr (fun j => j = lb ∨ j = bm) w w' := by
  have c2 : w.cell? ⟨lb, 2, none⟩ = some (.int .i64 taken) := by rw [cell_of_block h.blk]; rfl
  go_enter Try.func20, Try.ntmps20
  go_wp2_with fail
  refine (forget_any _ lb bm n f base taken h k h0 h1).mono ?_
  rintro e w1 ⟨rfl, hl, hfr⟩
  have c3 : w1.cell? ⟨lb, 2, none⟩ = some (.int .i64 taken) := by rw [cell_of_block hl.blk]; rfl
  have f3 : w1.frozen? ⟨lb, 2, none⟩ = false := free_of_block hl.blk
  have HL := hide hl
  clear hl
  go_wp2_with fail
  go_ret
  exact ⟨rfl, HL.out.took k, hfr.step (Fr.setCell (S := fun j => j = lb ∨ j = bm) _ _ _ (Or.inl rfl)) |>.mono (fun j _ hj => hj.elim id id)⟩

/-- The slots that are not known, from one on, so many slots. -/
def gaps (f : Int → Option ByteArray) (r : Int) (m : Nat) : List Int := (List.range m).filterMap fun (i : Nat) => if (f (r + (i : Int))).isSome then none else some (r + (i : Int))
theorem gaps_yes {f : Int → Option ByteArray} {r : Int} {m : Nat} (h : (f (r + m)).isSome = true) : gaps f r (m + 1) = gaps f r m := by
  simp [gaps, List.range_succ, h]
theorem gaps_no {f : Int → Option ByteArray} {r : Int} {m : Nat} (h : (f (r + m)).isSome = false) : gaps f r (m + 1) = gaps f r m ++ [r + m] := by
  simp [gaps, List.range_succ, h]
theorem gaps_len (f : Int → Option ByteArray) (r : Int) (m : Nat) : (gaps f r m).length ≤ m := by
  have := List.length_filterMap_le (fun (i : Nat) => if (f (r + (i : Int))).isSome then none else some (r + (i : Int))) (List.range m)
  simpa [gaps] using this

theorem info3 : (Try.prog.info? 3).map (fun i => (i.zero, i.size, i.bytes)) = some (some (.int .i64 0), 1, 8) := by kernel_rfl

set_option maxRecDepth 100000 in
set_option maxHeartbeats 800000 in
theorem gaps_hi (w : World) (lb bm n : Nat) (f : Int → Option ByteArray) (base taken r : Int) (h : Lg w lb bm n f base taken) (h0 : 0 ≤ base) (hr : IsNext f base r) (h1 : r ≤ 512) (k : Int) (h512 : 512 < k) (M : Nat) (hM : (M : Int) = max 0 (min k 512 - r)) :
    Calls Try.prog 19 #[.pointer (some ⟨lb, 0, none⟩), .int .i64 k] w fun e w' => ∃ v, e = .returned v ∧ w'.ownsRow w.heap.size 3 1 v (gaps f r M).length ((gaps f r M).map (.int .i64)) ∧ Lg w' lb bm n f base taken ∧ Fr (fun _ => False) w w' := by
  have hr0 : 0 ≤ r := by have := hr.1; omega
  have hlb := lt_of_block h.blk
  have hbm := h.map.lt
  obtain ⟨i0, hi0, hz0, hz1, hz2⟩ := info_parts info3
  have HR := hide hr
  have H := hide h
  have HM := hide hM
  clear hr h hM
  go_enter Try.func19, Try.ntmps19
  go_wp2_with fail
  refine (next_any _ lb bm n f base taken r H.out h0 HR.out h1).mono ?_
  rintro e w' ⟨rfl, rfl⟩
  obtain ⟨wo, rfl⟩ : ∃ wo : World, wo = w' := ⟨_, rfl⟩
  go_wp2_with fail
  go_loopw [5, 6] (fun v i wr => ∃ m : Nat, m ≤ M ∧ i = .int .i64 (r + m) ∧ wr.ownsRow wo.heap.size 3 1 v (gaps f r m).length ((gaps f r m).map (.int .i64)) ∧ Lg wr lb bm n f base taken ∧ Fr (fun j => wo.heap.size ≤ j) wo wr) (fun _ i _ => (r + M - intOf i).toNat)
  case atStart => exact ⟨0, Nat.zero_le _, by simp, World.ownsRow_nil _ _ _ _, H.out, Fr.refl _ _⟩
  case round =>
    obtain ⟨m, hm, rfl, hown, hl, hfr⟩ := hrel
    have hM := HM.out
    have hlen := gaps_len f r m
    have HL := hide hl
    have HF := hide hfr
    have HOWN := hide hown
    clear hl hfr hown
    by_cases hlt : m < M
    · have hM2 : r + (M : Int) ≤ 512 := by omega
      have hk : r + (M : Int) ≤ k := by omega
      clear hM
      have c0 : wr.cell? ⟨lb, 0, none⟩ = some (.map (some bm)) := by rw [cell_of_block HL.out.blk]; rfl
      have hmap := HL.out.map
      have hkey : keyOf Try.prog 3 (.int .i64 (r + m)) = some (.int .i64 (r + m)) := keyOf_int_mk Try.underlying3 (WalkArith.wf_i64 (by omega))
      obtain ⟨u, hu⟩ : ∃ u, (lm f (.int .i64 (r + m))).getD (.string ⟨#[]⟩) = .string u := by
        rw [lm_at]; cases f (r + m)
        · exact ⟨_, rfl⟩
        · exact ⟨_, rfl⟩
      have hlt2 : r + (m : Int) < min k 512 := by omega
      cases hok : (f (r + m)).isSome with
      | true =>
        have hf : (lm f (.int .i64 (r + m))).isSome = true := by rw [lm_at]; simpa using hok
        have HG := hide (gaps_yes hok)
        clear hok
        go_wp2_with (first
          | (at_lookup; refine wpList_lookup_mf _ rfl _ _ 54 rfl 3 9 law Try.underlying54 (zeroS _) bm n _ rfl hmap _ _ rfl hkey _ true hu hf ?_)
          | fail)
        go_roundw
        case rel => exact ⟨m + 1, by omega, by go_num, by rw [HG.out]; exact HOWN.out, HL.out, HF.out⟩
        case measure => simp [intOf]; omega
      | false =>
        have hf : (lm f (.int .i64 (r + m))).isSome = false := by rw [lm_at]; simpa using hok
        have HG := hide (gaps_no hok)
        clear hok
        have hb : 0 < (gaps f r m).length + 1 := by omega
        go_wp2_with (first
          | (at_lookup; refine wpList_lookup_mf _ rfl _ _ 54 rfl 3 9 law Try.underlying54 (zeroS _) bm n _ rfl hmap _ _ rfl hkey _ false hu hf ?_)
          | (at_builtin; refine wpList_append_own _ rfl _ _ 22 rfl wo.heap.size 3 i0 _ 1 8 Try.underlying22 hi0 hz0 hz1 hz2 rfl (by decide) u5 (gaps f r m).length ((gaps f r m).map (.int .i64)) rfl (HOWN.out.alloc _) ⟨wr.heap.size, 0, none⟩ 1 1 [.int .i64 (r + m)] rfl rfl ?c1 ?c2 ?c3 ?c4 ?c5 ?c6)
          | fail)
        case c1 => exact World.news_of_block (cs := #[.int .i64 (r + m)]) (t := 3) (fr := (0, 0)) (heap_alloc_new wr _)
        case c2 => simp [Value.oneCell']
        case c3 => unfold maxLen; omega
        case c4 => omega
        case c5 => have := HF.out.size; simp; omega
        case c6 =>
          intro v' w1 ho1 hg1 _
          have HO1 := hide ho1
          have HG1 := hide hg1
          clear ho1 hg1
          go_wp2_with fail
          go_roundw
          case rel =>
            have hb1 : ∀ j, u5.ownBlock = some j → j ≠ lb ∧ j ≠ bm := fun j hj => by have := (HOWN.out.lt j hj).1; omega
            refine ⟨m + 1, by omega, by go_num, ?_, ?_, ?_⟩
            · rw [HG.out, List.length_append, List.map_append]; exact HO1.out
            · exact HL.out.heap ((HG1.out.block lb (by have := lt_of_block HL.out.blk; simp; omega) (fun e => (hb1 _ e.symm).1 rfl)).trans (Below.heap_alloc _ _ _ (lt_of_block HL.out.blk))) ((HG1.out.block bm (by have := HL.out.map.lt; simp; omega) (fun e => (hb1 _ e.symm).2 rfl)).trans (Below.heap_alloc _ _ _ HL.out.map.lt))
            · exact (HF.out.trans (Fr.alloc (fun j => wo.heap.size ≤ j) _ _) (fun _ _ h => h)).trans (Fr.grown (S := fun j => wo.heap.size ≤ j) HG1.out (fun j hj => (HOWN.out.lt j hj).1)) (fun _ _ h => h)
          case measure => simp [intOf]; omega
    · obtain rfl : m = M := by omega
      have hlt2 : ¬ (r + (m : Int) < min k 512) := by omega
      clear hM
      go_wp2_with fail
      go_ret
      exact ⟨_, rfl, HOWN.out, HL.out, HF.out.fresh (fun _ h => h)⟩
set_option maxRecDepth 100000 in
set_option maxHeartbeats 800000 in
theorem gaps_lo (w : World) (lb bm n : Nat) (f : Int → Option ByteArray) (base taken r : Int) (h : Lg w lb bm n f base taken) (h0 : 0 ≤ base) (hr : IsNext f base r) (h1 : r ≤ 512) (k : Int) (h512 : k ≤ 512) (M : Nat) (hM : (M : Int) = max 0 (min k 512 - r)) :
    Calls Try.prog 19 #[.pointer (some ⟨lb, 0, none⟩), .int .i64 k] w fun e w' => ∃ v, e = .returned v ∧ w'.ownsRow w.heap.size 3 1 v (gaps f r M).length ((gaps f r M).map (.int .i64)) ∧ Lg w' lb bm n f base taken ∧ Fr (fun _ => False) w w' := by
  have hr0 : 0 ≤ r := by have := hr.1; omega
  have hlb := lt_of_block h.blk
  have hbm := h.map.lt
  obtain ⟨i0, hi0, hz0, hz1, hz2⟩ := info_parts info3
  have HR := hide hr
  have H := hide h
  have HM := hide hM
  clear hr h hM
  go_enter Try.func19, Try.ntmps19
  go_wp2_with fail
  refine (next_any _ lb bm n f base taken r H.out h0 HR.out h1).mono ?_
  rintro e w' ⟨rfl, rfl⟩
  obtain ⟨wo, rfl⟩ : ∃ wo : World, wo = w' := ⟨_, rfl⟩
  go_wp2_with fail
  go_loopw [5, 6] (fun v i wr => ∃ m : Nat, m ≤ M ∧ i = .int .i64 (r + m) ∧ wr.ownsRow wo.heap.size 3 1 v (gaps f r m).length ((gaps f r m).map (.int .i64)) ∧ Lg wr lb bm n f base taken ∧ Fr (fun j => wo.heap.size ≤ j) wo wr) (fun _ i _ => (r + M - intOf i).toNat)
  case atStart => exact ⟨0, Nat.zero_le _, by simp, World.ownsRow_nil _ _ _ _, H.out, Fr.refl _ _⟩
  case round =>
    obtain ⟨m, hm, rfl, hown, hl, hfr⟩ := hrel
    have hM := HM.out
    have hlen := gaps_len f r m
    have HL := hide hl
    have HF := hide hfr
    have HOWN := hide hown
    clear hl hfr hown
    by_cases hlt : m < M
    · have hM2 : r + (M : Int) ≤ 512 := by omega
      have hk : r + (M : Int) ≤ k := by omega
      clear hM
      have c0 : wr.cell? ⟨lb, 0, none⟩ = some (.map (some bm)) := by rw [cell_of_block HL.out.blk]; rfl
      have hmap := HL.out.map
      have hkey : keyOf Try.prog 3 (.int .i64 (r + m)) = some (.int .i64 (r + m)) := keyOf_int_mk Try.underlying3 (WalkArith.wf_i64 (by omega))
      obtain ⟨u, hu⟩ : ∃ u, (lm f (.int .i64 (r + m))).getD (.string ⟨#[]⟩) = .string u := by
        rw [lm_at]; cases f (r + m)
        · exact ⟨_, rfl⟩
        · exact ⟨_, rfl⟩
      have hlt2 : r + (m : Int) < min k 512 := by omega
      cases hok : (f (r + m)).isSome with
      | true =>
        have hf : (lm f (.int .i64 (r + m))).isSome = true := by rw [lm_at]; simpa using hok
        have HG := hide (gaps_yes hok)
        clear hok
        go_wp2_with (first
          | (at_lookup; refine wpList_lookup_mf _ rfl _ _ 54 rfl 3 9 law Try.underlying54 (zeroS _) bm n _ rfl hmap _ _ rfl hkey _ true hu hf ?_)
          | fail)
        go_roundw
        case rel => exact ⟨m + 1, by omega, by go_num, by rw [HG.out]; exact HOWN.out, HL.out, HF.out⟩
        case measure => simp [intOf]; omega
      | false =>
        have hf : (lm f (.int .i64 (r + m))).isSome = false := by rw [lm_at]; simpa using hok
        have HG := hide (gaps_no hok)
        clear hok
        have hb : 0 < (gaps f r m).length + 1 := by omega
        go_wp2_with (first
          | (at_lookup; refine wpList_lookup_mf _ rfl _ _ 54 rfl 3 9 law Try.underlying54 (zeroS _) bm n _ rfl hmap _ _ rfl hkey _ false hu hf ?_)
          | (at_builtin; refine wpList_append_own _ rfl _ _ 22 rfl wo.heap.size 3 i0 _ 1 8 Try.underlying22 hi0 hz0 hz1 hz2 rfl (by decide) u5 (gaps f r m).length ((gaps f r m).map (.int .i64)) rfl (HOWN.out.alloc _) ⟨wr.heap.size, 0, none⟩ 1 1 [.int .i64 (r + m)] rfl rfl ?c1 ?c2 ?c3 ?c4 ?c5 ?c6)
          | fail)
        case c1 => exact World.news_of_block (cs := #[.int .i64 (r + m)]) (t := 3) (fr := (0, 0)) (heap_alloc_new wr _)
        case c2 => simp [Value.oneCell']
        case c3 => unfold maxLen; omega
        case c4 => omega
        case c5 => have := HF.out.size; simp; omega
        case c6 =>
          intro v' w1 ho1 hg1 _
          have HO1 := hide ho1
          have HG1 := hide hg1
          clear ho1 hg1
          go_wp2_with fail
          go_roundw
          case rel =>
            have hb1 : ∀ j, u5.ownBlock = some j → j ≠ lb ∧ j ≠ bm := fun j hj => by have := (HOWN.out.lt j hj).1; omega
            refine ⟨m + 1, by omega, by go_num, ?_, ?_, ?_⟩
            · rw [HG.out, List.length_append, List.map_append]; exact HO1.out
            · exact HL.out.heap ((HG1.out.block lb (by have := lt_of_block HL.out.blk; simp; omega) (fun e => (hb1 _ e.symm).1 rfl)).trans (Below.heap_alloc _ _ _ (lt_of_block HL.out.blk))) ((HG1.out.block bm (by have := HL.out.map.lt; simp; omega) (fun e => (hb1 _ e.symm).2 rfl)).trans (Below.heap_alloc _ _ _ HL.out.map.lt))
            · exact (HF.out.trans (Fr.alloc (fun j => wo.heap.size ≤ j) _ _) (fun _ _ h => h)).trans (Fr.grown (S := fun j => wo.heap.size ≤ j) HG1.out (fun j hj => (HOWN.out.lt j hj).1)) (fun _ _ h => h)
          case measure => simp [intOf]; omega
    · obtain rfl : m = M := by omega
      have hlt2 : ¬ (r + (m : Int) < min k 512) := by omega
      clear hM
      go_wp2_with fail
      go_ret
      exact ⟨_, rfl, HOWN.out, HL.out, HF.out.fresh (fun _ h => h)⟩
theorem gaps_any (w : World) (lb bm n : Nat) (f : Int → Option ByteArray) (base taken r : Int) (hl : Lg w lb bm n f base taken) (h0 : 0 ≤ base) (hr : IsNext f base r) (h1 : r ≤ 512) (k : Int) (M : Nat) (hM : (M : Int) = max 0 (min k 512 - r)) :
    Calls Try.prog 19 #[.pointer (some ⟨lb, 0, none⟩), .int .i64 k] w fun e w' => ∃ v, e = .returned v ∧ w'.ownsRow w.heap.size 3 1 v (gaps f r M).length ((gaps f r M).map (.int .i64)) ∧ Lg w' lb bm n f base taken ∧ Fr (fun _ => False) w w' := by
  rcases Int.lt_or_le 512 k with h | h'
  · exact gaps_hi w lb bm n f base taken r hl h0 hr h1 k h M hM
  · exact gaps_lo w lb bm n f base taken r hl h0 hr h1 k h' M hM
end Go.Proofs.Ytpjdepepgfimeaa
