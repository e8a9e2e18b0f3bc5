/- Take and Gaps of the document's Log. -/
import Derived.Test.YtpjdepepgfimeaaRefLog2
namespace Go.Proofs.Ytpjdepepgfimeaa
open Go.RowKit Go.Maps Go.Cv
set_option linter.unusedVariables false

theorem RL.grown {w w2 : World} {b : Nat} {f : Int → Option ByteArray} {base taken : Int} (h : RL w b f base taken) {o : Obj} {v : Value} (hg : (w.alloc o).drew.grownBy w2 v.ownBlock) (hn : ∀ k, v.ownBlock = some k → k ≠ b) : RL w2 b f base taken := by
  have h1 := h.lt
  obtain ⟨cs, q1, q2⟩ := h
  exact ⟨cs, ((hg.block b (by simp; omega) (fun e => hn _ e.symm rfl)).trans (Below.heap_alloc _ _ _ h1)).trans q1, q2⟩
/-- What a log's cells show at one slot. -/
def RSees (w : World) (b : Nat) (k : Nat) (u : Value) : Prop := w.cell? ⟨b, 1025, none⟩ = some (.int .i64 k) ∧ w.cell? ⟨b, k, none⟩ = some u
theorem RL.sees {w : World} {b k : Nat} {f : Int → Option ByteArray} {base : Int} (h : RL w b f base k) (hk : k < 512) {u : ByteArray} (hu : (f k).getD ⟨#[]⟩ = u) : RSees w b k (.string u) :=
  ⟨h.ct, by rw [h.v k hk, hu]⟩

set_option maxRecDepth 100000 in
set_option maxHeartbeats 1600000 in
theorem rTake_any (w : World) (b : Nat) (f : Int → Option ByteArray) (base taken : Int) (R : Nat) (h : RL w b f base taken) (h0 : 0 ≤ base) (ht : base ≤ taken) (hr : IsNext f base (taken + R)) (h1 : taken + R ≤ 512) :
    Calls Try.prog 23 #[.pointer (some ⟨b, 0, none⟩)] w fun e w' => ∃ v, e = .returned v ∧ w'.ownsRow w.heap.size 9 1 v R (vals f taken R) ∧ RL w' b f base (taken + R) ∧ Fr (fun k => k = b) w w' := by
  obtain ⟨i0, hi0, hz0, hz1, hz2⟩ := info_parts info9
  have hb := h.lt
  have HH := hide h
  have HR := hide hr
  clear h hr
  go_enter Try.func23, Try.ntmps23
  go_wp2
  go_loopw [3] (fun v wr => ∃ m : Nat, m ≤ R ∧ wr.ownsRow w.heap.size 9 1 v m (vals f taken m) ∧ RL wr b f base (taken + m) ∧ Fr (fun k => k = b) w wr) (fun _ wr => (taken + R - cellInt wr ⟨b, 1025, none⟩).toNat)
  case atStart => exact ⟨0, Nat.zero_le _, World.ownsRow_nil _ _ _ _, by simpa using HH.out, Fr.refl _ _⟩
  case round =>
    obtain ⟨m, hm, hown, hl, hfr⟩ := hrel
    obtain ⟨K, hK⟩ : ∃ K : Nat, taken + m = (K : Int) := ⟨(taken + m).toNat, by omega⟩
    rw [hK] at hl
    have c2 : wr.cell? ⟨b, 1025, none⟩ = some (.int .i64 K) := hl.ct
    have hq : ∀ nq, Calls Try.prog 27 #[.pointer (some ⟨b, 0, none⟩)] (wr.drewN nq) fun e w' => e = .returned (.int .i64 (taken + R)) ∧ w' = wr.drewN nq :=
      fun nq => rNext_any _ b f base K _ hl h0 HR.out h1
    have HQ := hide hq
    clear hq
    by_cases hlt : m < R
    · have hKR : (K : Int) < taken + R := by omega
      go_wp2
      go_quiet ((go_at_call 27; exact Calls.quiet_of_same (HQ.out _)))
      go_wp2
      have hl1 : RL (wr.drewN nq) b f base K := hl
      have hown1 : (wr.drewN nq).ownsRow w.heap.size 9 1 u3 m (vals f taken m) := hown
      have hfr1 := hfr.drewN nq
      have hc2 := hide c2
      clear hl hown hfr c2
      generalize wr.drewN nq = w1 at *
      obtain ⟨u, hu⟩ : ∃ u, (f K).getD ⟨#[]⟩ = u := ⟨_, rfl⟩
      have hk5 : K < 512 := by omega
      have ik5 : (K : Int) < 512 := by omega
      have ik0 : (0 : Int) ≤ (K : Int) := by omega
      have hS : RSees w1 b K (.string u) := hl1.sees hk5 hu
      have hb1 : b < w1.heap.size := hl1.lt
      have HN : Hid (∀ k, u3.ownBlock = some k → k ≠ b) := fun k hk => by
        have := hown1.lt k hk; omega
      have HL := hide hl1
      have hsz := hfr1.size
      have HF := hide hfr1
      have HU := hide hu
      have HKK := hide hK
      clear hl1 hfr1 hu
      obtain ⟨s1, s2⟩ := hS
      have HM2 : Hid ((m + 1) * 16 ≤ 140737488355328) := by show (m + 1) * 16 ≤ _; omega
      go_region_held3 (fun w' => w'.cell? ⟨b, 1025, none⟩ = some (.int .i64 K) ∧ w'.cell? ⟨b, K, none⟩ = some (.string u))
        (first
          | exact RL.sees (w := w1.drew) HL.out hk5 HU.out
          | exact RL.sees (w := (w1.alloc _).drew) (RL.fr HL.out (Fr.alloc (fun _ => False) w1 _).drew id) hk5 HU.out
          | exact RL.sees (HL.out.grown hgrow HN.out) hk5 HU.out)
        ((refine step_append_lies _ (by rfl) _ _ _ (by rfl) w.heap.size 9 i0 _ 1 16 Try.underlying27 hi0 hz0 hz1 hz2 rfl (by omega) u3 m _ (by rfl) ((hown1.alloc _).drew)
              ⟨w1.heap.size, 0, none⟩ 1 1 [.string u] (by rfl) (by rfl) (World.news_of_block (cs := #[.string u]) (t := 9) (fr := (0, 0)) (heap_alloc_new w1 _)) (by simp [Value.oneCell'])
              (by omega) (by unfold maxLen; omega) HM2.out (by simp; omega) (w1.heap.size + 1) (by simp) ?_; intro gg cap w2 hown2 hgrow hat hlt2))
      have HL2 : Hid (RL w2 b f base K) := HL.out.grown hgrow HN.out
      have c2 : w2.cell? ⟨b, 1025, none⟩ = some (.int .i64 K) := HL2.out.ct
      have f2 : w2.frozen? ⟨b, 1025, none⟩ = false := HL2.out.free 1025
      go_wp2
      go_roundw
      case rel =>
        have hKK := HKK.out
        refine ⟨m + 1, by omega, ?_, ?_, ?_⟩
        · rw [vals_succ, hKK, HU.out]; exact ownsRow_setCell_below hown2 hb _
        · rw [show taken + ((m + 1 : Nat) : Int) = (K : Int) + 1 by omega]
          exact HL2.out.setTaken _
        · refine (HF.out.trans ((((Fr.alloc (fun k => k = b ∨ w.heap.size ≤ k) w1 _).drew).trans (Fr.grown (S := fun k => k = b ∨ w.heap.size ≤ k) hgrow ?_) (fun _ _ hk => hk)).trans (Fr.setCell (S := fun k => k = b) _ _ _ rfl) (fun _ _ hk => Or.inl hk)) ?_)
          · intro k hk; exact Or.inr (hown1.lt k hk).1
          · intro k hk hk2; rcases hk2 with hk2 | hk2
            · exact hk2
            · omega
      case measure =>
        have e1 : cellInt wr ⟨b, 1025, none⟩ = K := by rw [cellInt, hc2.out]; rfl
        have e2 : cellInt (w2.setCell ⟨b, 1025, none⟩ (.int .i64 ((K : Int) + 1))) ⟨b, 1025, none⟩ = (K : Int) + 1 := by
          rw [cellInt, (HL2.out.setTaken _).ct]; rfl
        rw [e1, e2]; omega
    · obtain rfl : m = R := by omega
      rw [hK] at HQ
      go_wp2
      go_quiet ((go_at_call 27; exact Calls.quiet_of_same (HQ.out _)))
      go_wp2
      go_ret
      rw [hK]
      exact ⟨_, rfl, hown, hl, hfr.drewN _⟩

set_option maxRecDepth 100000 in
set_option maxHeartbeats 1600000 in
theorem rGaps_any (w : World) (b : Nat) (f : Int → Option ByteArray) (base taken r : Int) (h : RL w b f base taken) (h0 : 0 ≤ base) (hr : IsNext f base r) (h1 : r ≤ 512) (k : Int) (M : Nat) (hM : (M : Int) = max 0 (min k 512 - r)) :
    Calls Try.prog 28 #[.pointer (some ⟨b, 0, none⟩), .int .i64 k] w fun e w' => ∃ v, e = .returned v ∧ w'.ownsRow w.heap.size 3 1 v (gaps f r M).length ((gaps f r M).map (.int .i64)) ∧ Fr (fun _ => False) w w' := by
  have hr0 : 0 ≤ r := by have := hr.1; omega
  have hb := h.lt
  obtain ⟨i0, hi0, hz0, hz1, hz2⟩ := info_parts info3
  have HR := hide hr
  have H := hide h
  have HM := hide hM
  clear hr h hM
  go_enter Try.func28, Try.ntmps28
  go_wp2_with fail
  refine (rNext_any _ b f base taken r H.out h0 HR.out h1).mono ?_
  rintro e w' ⟨rfl, rfl⟩
  obtain ⟨wo, rfl⟩ : ∃ wo : World, wo = w' := ⟨_, rfl⟩
  go_wp2_with fail
  go_loopw [5, 6] (fun v i wr => ∃ m K : Nat, m ≤ M ∧ r + (m : Int) = K ∧ i = .int .i64 K ∧ wr.ownsRow wo.heap.size 3 1 v (gaps f r m).length ((gaps f r m).map (.int .i64)) ∧ RL wr b f base taken ∧ Fr (fun j => wo.heap.size ≤ j) wo wr) (fun _ i _ => (r + M - intOf i).toNat)
  case atStart => exact ⟨0, r.toNat, Nat.zero_le _, by omega, by rw [Int.toNat_of_nonneg hr0], World.ownsRow_nil _ _ _ _, H.out, Fr.refl _ _⟩
  case round =>
    obtain ⟨m, K, hm, hK, rfl, hown, hl, hfr⟩ := hrel
    have hM := HM.out
    have hlen := gaps_len f r m
    have HL := hide hl
    have HF := hide hfr
    have HOWN := hide hown
    clear hl hfr hown
    by_cases hlt : m < M
    · have hlt1 : (K : Int) < k := by omega
      have hlt2 : (K : Int) < 512 := by omega
      have hlt3 : (0 : Int) ≤ (K : Int) := by omega
      have hk5 : K < 512 := by omega
      have hMb : M ≤ 512 := by omega
      have hKM : r + (M : Int) ≤ 512 := by omega
      clear hM
      have ck := HL.out.k K hk5
      have HKK := hide hK
      cases hok : (f K).isSome with
      | true =>
        rw [hok] at ck
        have HG := hide (gaps_yes (f := f) (r := r) (m := m) (by rw [hK]; exact hok))
        clear hok hK
        go_wp2_with fail
        go_roundw
        case rel => exact ⟨m + 1, K + 1, by omega, by have := HKK.out; omega, by go_num, by rw [HG.out]; exact HOWN.out, HL.out, HF.out⟩
        case measure => have := HKK.out; simp [intOf]; omega
      | false =>
        rw [hok] at ck
        have HG := hide (gaps_no (f := f) (r := r) (m := m) (by rw [hK]; exact hok))
        have hb0 : 0 < (gaps f r m).length + 1 := by omega
        clear hok hK
        go_wp2_with (first
          | (at_builtin; refine wpList_append_own _ rfl _ _ 22 rfl wo.heap.size 3 i0 _ 1 8 Try.underlying22 hi0 hz0 hz1 hz2 rfl (by decide) u5 (gaps f r m).length ((gaps f r m).map (.int .i64)) rfl (HOWN.out.alloc _) ⟨wr.heap.size, 0, none⟩ 1 1 [.int .i64 K] rfl rfl ?c1 ?c2 ?c3 ?c4 ?c5 ?c6)
          | fail)
        case c1 => exact World.news_of_block (cs := #[.int .i64 K]) (t := 3) (fr := (0, 0)) (heap_alloc_new wr _)
        case c2 => simp [Value.oneCell']
        case c3 => unfold maxLen; omega
        case c4 => omega
        case c5 => have := HF.out.size; simp; omega
        case c6 =>
          intro v' w1 ho1 hg1 _
          have HO1 := hide ho1
          have HG1 := hide hg1
          clear ho1 hg1
          go_wp2_with fail
          go_roundw
          case rel =>
            have hb1 : ∀ j, u5.ownBlock = some j → j ≠ b := fun j hj => by have := (HOWN.out.lt j hj).1; omega
            have hf1 : Fr (fun j => wo.heap.size ≤ j) wr w1 := (Fr.alloc (fun j => wo.heap.size ≤ j) wr _).trans (Fr.grown (S := fun j => wo.heap.size ≤ j) HG1.out (fun j hj => (HOWN.out.lt j hj).1)) (fun _ _ h => h)
            refine ⟨m + 1, K + 1, by omega, by have := HKK.out; omega, by go_num, ?_, HL.out.fr hf1 (by omega), HF.out.trans hf1 (fun _ _ h => h)⟩
            rw [HG.out, List.length_append, List.map_append, HKK.out]; exact HO1.out
          case measure => have := HKK.out; simp [intOf]; omega
    · obtain rfl : m = M := by omega
      have hlt2 : ¬ ((K : Int) < k ∧ (K : Int) < 512) := by omega
      have hlt3 : ¬ (K : Int) < k ∨ ((K : Int) < k ∧ ¬ (K : Int) < 512) := by omega
      clear hM hlt2
      rcases hlt3 with i1 | ⟨i1, i2⟩
      all_goals
        go_wp2_with fail
        go_ret
        exact ⟨_, rfl, HOWN.out, HF.out.fresh (fun _ h => h)⟩
end Go.Proofs.Ytpjdepepgfimeaa
