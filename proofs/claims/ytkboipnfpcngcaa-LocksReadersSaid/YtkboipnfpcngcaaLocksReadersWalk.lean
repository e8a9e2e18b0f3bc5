/- LocksReaders's walk. -/
import Derived.Test.YtkboipnfpcngcaaLocksReadersPlain
namespace Go.Proofs.Ytkboipnfpcngcaa.LocksReaders
open Go.RowKit Go.Maps Go.Cv
set_option linter.unusedVariables false

theorem conv (k : Nat) (hk : k < 11) : (Utf8.encode (97 + (k : Int))).size = 1 ∧ (⟨#[116]⟩ : ByteArray) ++ Utf8.encode (97 + (k : Int)) = tn k := by
  have : k = 0 ∨ k = 1 ∨ k = 2 ∨ k = 3 ∨ k = 4 ∨ k = 5 ∨ k = 6 ∨ k = 7 ∨ k = 8 ∨ k = 9 ∨ k = 10 := by omega
  rcases this with rfl | rfl | rfl | rfl | rfl | rfl | rfl | rfl | rfl | rfl | rfl <;> exact ⟨(show _ = _ by kernel_rfl), (show _ = _ by kernel_rfl)⟩
theorem wf_two {x : Int} (h : (Lit.int .i64 x).wf = true) : -9223372036854775808 ≤ x ∧ x ≤ 9223372036854775807 := by
  have e1 : IntKind.i64.min = -9223372036854775808 := by decide
  have e2 : IntKind.i64.max = 9223372036854775807 := by decide
  simp [Lit.wf] at h
  rw [e1] at h
  omega
theorem small_mod (x : Int) (h : 0 ≤ x) (d : Int) (hd : 0 < d) : ∃ m : Nat, x.tmod d = (m : Int) ∧ (m : Int) < d := by
  have h1 := Int.tmod_lt_of_pos x hd
  have h2 : 0 ≤ x.tmod d := Int.tmod_nonneg d h
  exact ⟨(x.tmod d).toNat, by omega, by omega⟩
theorem wrap_id {x : Int} (h1 : -9223372036854775808 ≤ x) (h2 : x ≤ 9223372036854775807) : wrap64 x = x := by
  unfold wrap64; omega

/-- What the loops have: the table when the readers from a to b read. -/
def tns (a n : Nat) : List Bs := (List.range' a n).map tb
theorem tb_inj {i j : Nat} (hi : i < 11) (hj : j < 11) (h : tb i = tb j) : i = j := by
  unfold tb tn at h
  simp at h
  have h2 := congrArg UInt8.toNat h
  simp at h2
  omega
theorem tns_nodup (a n : Nat) (h : a + n ≤ 11) : (tns a n).Nodup := by
  unfold tns
  rw [List.nodup_iff_pairwise_ne, List.pairwise_map]
  refine (List.nodup_iff_pairwise_ne.1 (List.nodup_range' (s := a) (n := n))).imp_of_mem ?_
  intro x y hx hy hne e
  rw [List.mem_range'_1] at hx hy
  exact hne (tb_inj (by omega) (by omega) e)
theorem tns_mem (a n k : Nat) (h : k < 11) (h2 : a + n ≤ 11) : tb k ∈ tns a n ↔ a ≤ k ∧ k < a + n := by
  unfold tns
  rw [List.mem_map]
  constructor
  · rintro ⟨x, hx, e⟩
    rw [List.mem_range'_1] at hx
    rw [← tb_inj (by omega) h e]; exact hx
  · intro hk; exact ⟨k, List.mem_range'_1.2 hk, rfl⟩
theorem tns_succ (a n : Nat) : tns a (n + 1) = tns a n ++ [tb (a + n)] := by
  unfold tns; rw [List.range'_concat]; simp
theorem tns_cons (a n : Nat) : tns a (n + 1) = tb a :: tns (a + 1) n := rfl
theorem tns_len (a n : Nat) : (tns a n).length = n := by simp [tns]
theorem tb_ne (k : Nat) : tb k ≠ [] := by simp [tb, tn]

def TW : LkT := takeT emptyT [119] [(cx, true)]
theorem tw_eq (G : Nat) : takeS (RT (tns G 0)) [119] [(cx, true)] = TW := by
  rw [show tns G 0 = [] from rfl, rt0]; rfl
theorem tw_fits : Fits TW 20 := (fits_take [119] [(cx, true)] fits0).mono (by decide)
theorem tw_who : sortB (TW.whos cx.data.toList) = [[119]] := by
  have : TW.whos cx.data.toList = [[119]] := by decide
  rw [this]; simp [sortB]
theorem tw_busy (k : Nat) : takeE TW (tn k).data.toList [(cx, false)] = 35 := by
  unfold takeE
  rw [if_neg (c := (tn k).data.toList = []) (tb_ne k), if_pos]
  unfold busyB busy1
  have : TW.whos cx.data.toList = [[119]] := by decide
  have h2 : TW.how cx.data.toList [119] = 2 := by decide
  simp [this, other, h2, tn]

set_option maxRecDepth 100000 in
set_option maxHeartbeats 6400000 in
theorem walk (w : World) (n : Int) (hn : (Lit.int .i64 n).wf = true) (gone : Int) (hg : (Lit.int .i64 gone).wf = true) : Calls Try.prog 3 #[.int .i64 n, .int .i64 gone] w fun e w' => e = .returned (.bool true) ∧ Below w.heap.size w w' := by
  obtain ⟨hn1, hn2⟩ : -9223372036854775808 ≤ n ∧ n ≤ 9223372036854775807 := wf_two hn
  obtain ⟨hg1, hg2⟩ : -9223372036854775808 ≤ gone ∧ gone ≤ 9223372036854775807 := wf_two hg
  have hA : ∃ (n1 n2 : Int) (m : Nat), (n < 0 ∧ wrap64 (n + 1) = n1 ∧ wrap64 (-n1) = n2 ∧ n2.tmod 10 = (m : Int) ∨ ¬ n < 0 ∧ n.tmod 10 = (m : Int)) ∧ m < 10 := by
    by_cases h : n < 0
    · obtain ⟨m, h1, h2⟩ := small_mod (-(n + 1)) (by omega) 10 (by omega)
      exact ⟨n + 1, -(n + 1), m, .inl ⟨h, wrap_id (by omega) (by omega), wrap_id (by omega) (by omega), h1⟩, by omega⟩
    · obtain ⟨m, h1, h2⟩ := small_mod n (by omega) 10 (by omega)
      exact ⟨0, 0, m, .inr ⟨h, h1⟩, by omega⟩
  obtain ⟨n1, n2, m, hA, hm⟩ := hA
  obtain ⟨N, hN⟩ : ∃ N, N = m + 1 := ⟨_, rfl⟩
  have p4 : wrap64 (1 + (m : Int)) = (N : Int) := by rw [wrap_id (by omega) (by omega)]; omega
  have p5 : wrap64 ((N : Int) + 1) = (N : Int) + 1 := wrap_id (by omega) (by omega)
  have p9 : ¬ ((N : Int) + 1 = 0) := by omega
  have hB : ∃ (g1 g2 : Int) (G : Nat), (gone < 0 ∧ wrap64 (gone + 1) = g1 ∧ wrap64 (-g1) = g2 ∧ g2.tmod ((N : Int) + 1) = (G : Int) ∨ ¬ gone < 0 ∧ gone.tmod ((N : Int) + 1) = (G : Int)) ∧ G ≤ N := by
    by_cases h : gone < 0
    · obtain ⟨m, h1, h2⟩ := small_mod (-(gone + 1)) (by omega) ((N : Int) + 1) (by omega)
      exact ⟨gone + 1, -(gone + 1), m, .inl ⟨h, wrap_id (by omega) (by omega), wrap_id (by omega) (by omega), h1⟩, by omega⟩
    · obtain ⟨m, h1, h2⟩ := small_mod gone (by omega) ((N : Int) + 1) (by omega)
      exact ⟨0, 0, m, .inr ⟨h, h1⟩, by omega⟩
  obtain ⟨g1, g2, G, hB, hG⟩ := hB
  have HN := hide hN
  have HM := hide hm
  clear hn hg hn1 hn2 hg1 hg2 hN hm
  go_enter Try.func3, Try.ntmps3
  go_wp2_with fail
  refine (newD w).mono ?_
  rintro e w1 ⟨tb, rfl, h, hf⟩
  have F1 := hide (hf.mono (S' := fun k => w.heap.size ≤ k) (fun _ _ h => h.elim))
  have H1 := hide h
  clear h hf
  rcases hA with ⟨hx, p1, p2, p3⟩ | ⟨hx, p3⟩ <;> rcases hB with ⟨gx, p6, p7, p8⟩ | ⟨gx, p8⟩
  all_goals
    go_wp2_with fail
    rw [p4]
    clear p3 p4 p5 p8 p9 hx gx
    (try clear p1 p2)
    (try clear p6 p7)
    go_loopw [6] (fun ii wr => ∃ k : Nat, ii = .int .i64 k ∧ k ≤ N ∧ Hid (∃ X, Lkd wr X w.heap.size tb (RT (tns 0 k))) ∧ Hid (Fr (fun k => w.heap.size ≤ k) w wr)) (fun ii _ => N - (intOf ii).toNat)
    case atStart => exact ⟨0, rfl, Nat.zero_le _, ⟨_, by rw [show tns 0 0 = [] from rfl, rt0]; exact H1.out⟩, F1.out⟩
    case round =>
      obtain ⟨k, rfl, hk, HL, HF⟩ := hrel
      by_cases hlt : k < N
      · have hk11 : k < 11 := by have := HN.out; have := HM.out; omega
        have ik0 : (0 : Int) ≤ (k : Int) := by omega
        have ik1 : (k : Int) < (N : Int) := by omega
        obtain ⟨X, hL⟩ := HL.out
        have hnot : (tn k).data.toList ∉ tns 0 k := fun h => by have := (tns_mem 0 k k hk11 (by omega)).1 h; omega
        obtain ⟨r1, r2⟩ := rt_take (tns 0 k) (tn k) hnot (tb_ne k)
        have t1 := takeL wr X _ tb _ hL 20 (rt_fits _ _ (by rw [tns_len]; omega) (by omega)) (by omega) HF.out.size (tn k) (show (2 : Nat) ≤ maxLen by decide) [(cx, false)] (by decide) (by decide)
        rw [r1, r2] at t1
        obtain ⟨u, hu⟩ : ∃ u, tn k = u := ⟨_, rfl⟩
        have ik2 : wrap64 (97 + (k : Int)) = 97 + (k : Int) := wrap_id (by omega) (by omega)
        obtain ⟨z1, z2⟩ := conv k hk11
        obtain ⟨c, hc⟩ : ∃ c : Int, 97 + (k : Int) = c := ⟨_, rfl⟩
        rw [hc] at z1 z2 ik2
        obtain ⟨s, hs⟩ : ∃ s, Utf8.encode c = s := ⟨_, rfl⟩
        rw [hs] at z1 z2
        rw [hu] at z2
        have t1 : Calls Try.prog 9 #[.pointer (some ⟨tb, 0, none⟩), .string u, .slice (some ⟨wr.heap.size, 0, none⟩) 1 1] (wr.alloc (.cells #[.string ⟨#[120]⟩, .bool false] 27)) fun e w' => e = .returned (.int .i64 0) ∧ (∃ X', (∀ k, X k → X' k) ∧ Lkd w' X' w.heap.size tb (RT (tns 0 k ++ [(tn k).data.toList]))) ∧ Fr (Own X w.heap.size) wr w' := by rw [← hu]; exact t1
        have T1 := hide t1
        have Z2 := hide z2
        clear hL hnot r1 r2 t1 z2 hu
        go_wp2_with fail
        rw [Z2.out]
        refine T1.out.mono ?_
        rintro e w2 ⟨rfl, ⟨X2, -, h⟩, hf⟩
        have H2 := hide h
        have F2 := hide (HF.out.trans (hf.mono (S' := fun k => w.heap.size ≤ k) (fun _ _ h => h.1)) (fun _ _ h => h))
        clear h hf
        go_wp2_with fail
        go_roundw
        case rel => exact ⟨k + 1, by go_num, by omega, ⟨X2, by rw [tns_succ, Nat.zero_add]; exact H2.out⟩, F2.out⟩
        case measure => simp [intOf]; omega
      · have ik1 : ¬ (k : Int) < (N : Int) := by omega
        have hkN : k = N := by omega
        obtain ⟨X, hL⟩ := HL.out
        rw [hkN] at hL
        have HL0 := hide hL
        have HF0 := hide HF.out
        have HW := hide (trivial : True)
        clear hL HL hlt hkN HF
        go_wp2_with fail
        clear ik1 hk HW
        go_loopw [7] (fun ii wr => ∃ j : Nat, ii = .int .i64 j ∧ j ≤ G ∧ Hid (∃ X, Lkd wr X w.heap.size tb (RT (tns j (N - j)))) ∧ Hid (Fr (fun k => w.heap.size ≤ k) w wr)) (fun ii _ => G - (intOf ii).toNat)
        case atStart => exact ⟨0, rfl, Nat.zero_le _, ⟨X, HL0.out⟩, HF0.out⟩
        case round =>
          obtain ⟨j, rfl, hj, HL, HF⟩ := hrel
          clear HL0 HF0
          by_cases hlt : j < G
          · have hk11 : j < 11 := by have := HN.out; have := HM.out; omega
            have ik0 : (0 : Int) ≤ (j : Int) := by omega
            have ik1 : (j : Int) < (G : Int) := by omega
            obtain ⟨X, hL⟩ := HL.out
            have hsp : tns j (N - j) = LocksReaders.tb j :: tns (j + 1) (N - (j + 1)) := by
              have e : N - j = (N - (j + 1)) + 1 := by omega
              rw [e, tns_cons]
            have hnd : (LocksReaders.tb j :: tns (j + 1) (N - (j + 1))).Nodup := by rw [← hsp]; exact tns_nodup _ _ (by have := HN.out; have := HM.out; omega)
            rw [hsp] at hL
            have t1 := freeD wr X _ tb _ hL 20 (rt_fits _ _ (by rw [List.length_cons, tns_len]; have := HN.out; have := HM.out; omega) (by omega)) (by omega) (tn j) (show (2 : Nat) ≤ maxLen by decide)
            rw [show (tn j).data.toList = LocksReaders.tb j from rfl, rt_held _ _ List.mem_cons_self, rt_free _ _ hnd] at t1
            obtain ⟨u, hu⟩ : ∃ u, tn j = u := ⟨_, rfl⟩
            have ik2 : wrap64 (97 + (j : Int)) = 97 + (j : Int) := wrap_id (by omega) (by omega)
            obtain ⟨z1, z2⟩ := conv j hk11
            obtain ⟨c, hc⟩ : ∃ c : Int, 97 + (j : Int) = c := ⟨_, rfl⟩
            rw [hc] at z1 z2 ik2
            obtain ⟨s, hs⟩ : ∃ s, Utf8.encode c = s := ⟨_, rfl⟩
            rw [hs] at z1 z2
            rw [hu] at z2 t1
            have t1 : Calls Try.prog 10 #[.pointer (some ⟨tb, 0, none⟩), .string u] wr fun e w' => e = .returned (.bool true) ∧ Lkd w' X w.heap.size tb (RT (tns (j + 1) (N - (j + 1)))) ∧ Fr (Own X w.heap.size) wr w' := t1
            have T1 := hide t1
            have Z2 := hide z2
            clear hL t1 z2 hu hsp hnd
            go_wp2_with fail
            rw [Z2.out]
            refine T1.out.mono ?_
            rintro e w2 ⟨rfl, h, hf⟩
            have H2 := hide h
            have F2 := hide (HF.out.trans (hf.mono (S' := fun k => w.heap.size ≤ k) (fun _ _ h => h.1)) (fun _ _ h => h))
            clear h hf
            go_wp2_with fail
            go_roundw
            case rel => exact ⟨j + 1, by go_num, by omega, ⟨X, H2.out⟩, F2.out⟩
            case measure => simp [intOf]; omega
          · have ik1 : ¬ (j : Int) < (G : Int) := by omega
            have hjG : j = G := by omega
            obtain ⟨X, hL⟩ := HL.out
            rw [hjG] at hL
            obtain ⟨L, hLe⟩ : ∃ L, N - G = L := ⟨_, rfl⟩
            rw [hLe] at hL
            have hN1 := HN.out
            have hM1 := HM.out
            have hk11 : N - 1 < 11 := by omega
            have ik2 : wrap64 (97 + (N : Int)) = 97 + (N : Int) := wrap_id (by omega) (by omega)
            have ik4 : wrap64 ((N : Int) - (G : Int)) = (L : Int) := by rw [wrap_id (by omega) (by omega)]; omega
            obtain ⟨c, hc⟩ : ∃ c : Int, 97 + (N : Int) - 1 = c := ⟨_, rfl⟩
            have hc2 : 97 + ((N - 1 : Nat) : Int) = c := by omega
            have ik7 : (N : Int) - (G : Int) = (L : Int) := by omega
            have ik3 : wrap64 (97 + (N : Int) - 1) = c := by rw [wrap_id (by omega) (by omega)]; omega
            obtain ⟨z1, z2⟩ := conv (N - 1) hk11
            obtain ⟨u, hu⟩ : ∃ u, tn (N - 1) = u := ⟨_, rfl⟩
            rw [hc2] at z1 z2
            clear hc2
            obtain ⟨s, hs⟩ : ∃ s, Utf8.encode c = s := ⟨_, rfl⟩
            rw [hs] at z1 z2
            rw [hu] at z2
            have HU := hide hu
            have HL1 := hide hL
            have HLE := hide hLe
            have HF1 := hide HF.out
            have ik5 : wrap64 c = c := wrap_id (by omega) (by omega)
            have c0 : 97 ≤ c := by omega
            have c1 : c ≤ 107 := by omega
            have ik6 : wrap32 c = c := by unfold wrap32; omega
            clear hu hL HL hjG hlt hN1 hM1 hk11 hLe HF
            have hLn : L ≤ 10 := by have := HLE.out; have := HN.out; have := HM.out; omega
            have hfit : Fits (RT (tns G L)) 20 := rt_fits _ _ (by rw [tns_len]; omega) (by omega)
            have t1 := takeL wr X _ tb _ HL1.out 20 hfit (by omega) HF1.out.size ⟨#[119]⟩ (by decide) [(cx, true)] (by decide) (by decide)
            by_cases hL0 : L = 0
            · subst hL0
              have r1 : takeE (RT (tns G 0)) [119] [(cx, true)] = 0 := by rw [rt_write _ _ (by simp)]; exact if_pos (fun y hy => by cases hy)
              rw [r1] at t1
              have T1 := hide t1
              clear t1
              go_wp2_with fail
              refine T1.out.mono ?_
              rintro e w2 ⟨rfl, ⟨X2, -, h⟩, hf⟩
              rw [show takeS (RT (tns G 0)) [119] [(cx, true)] = TW from tw_eq G] at h
              have F2 := hide (HF1.out.trans (hf.mono (S' := fun k => w.heap.size ≤ k) (fun _ _ h => h.1)) (fun _ _ h => h))
              have H2 := hide h
              have t1 := holdersD w2 _ _ tb _ h 20 tw_fits (by omega) cx (by decide)
              rw [tw_who] at t1
              have T1 := hide t1
              clear h hf t1
              go_wp2_with fail
              refine T1.out.mono ?_
              rintro e w3 ⟨v3, rfl, ho, hf⟩
              obtain ⟨x3, c3, rfl⟩ := own_shape ho
              have F3 := hide (F2.out.trans hf (fun _ _ h => h.elim))
              have t1 := takeL w3 _ _ tb _ (H2.out.fr0 hf) 20 tw_fits (by omega) F3.out.size (tn (N - 1)) (show (2 : Nat) ≤ maxLen by decide) [(cx, false)] (by decide) (by decide)
              rw [tw_busy, HU.out] at t1
              have T1 := hide t1
              clear ho hf t1 H2
              go_wp2_with fail
              refine T1.out.mono ?_
              rintro e w4 ⟨rfl, -, hf⟩
              have F4 := hide (F3.out.trans (hf.mono (S' := fun k => w.heap.size ≤ k) (fun _ _ h => h.1)) (fun _ _ h => h))
              clear hf
              go_wp2_with fail
              refine (known_any w4).mono ?_
              rintro e w5 ⟨rfl, hf⟩
              have F5 := hide (F4.out.trans hf (fun _ _ h => h.elim))
              clear hf
              go_wp2_with fail
              go_ret
              exact ⟨rfl, F5.out.toBelow (Nat.le_refl _) (fun k hk hn => by omega)⟩
            · have hmem : LocksReaders.tb G ∈ tns G L := by have := HLE.out; have := HN.out; have := HM.out; exact (tns_mem G L G (by omega) (by omega)).2 ⟨Nat.le_refl _, by omega⟩
              have r1 : takeE (RT (tns G L)) [119] [(cx, true)] = 35 := by rw [rt_write _ _ (by simp)]; exact if_neg (fun h => absurd (h _ hmem) (by simp [LocksReaders.tb, tn]))
              have r2 : takeS (RT (tns G L)) [119] [(cx, true)] = RT (tns G L) := by unfold takeS; rw [r1]; rfl
              have hq : ∃ (q : Int) (b : Bool), takeE (RT (tns G L)) (tn (N - 1)).data.toList [(cx, true)] = q ∧ (q == 0) = b ∧ ((L : Int) == 1) = b := by
                have h1 := HLE.out; have h2 := HN.out; have h3 := HM.out
                by_cases hL1 : L = 1
                · refine ⟨0, true, ?_, rfl, by simp [hL1]⟩
                  refine (rt_write _ _ (tb_ne _)).trans ?_
                  refine if_pos (fun y hy => ?_)
                  rw [hL1] at hy
                  have : y = LocksReaders.tb G := by simpa [tns] using hy
                  rw [this]; show LocksReaders.tb G = LocksReaders.tb (N - 1); rw [show G = N - 1 by omega]
                · refine ⟨35, false, ?_, rfl, by simp; omega⟩
                  refine (rt_write _ _ (tb_ne _)).trans ?_
                  refine if_neg (fun h => ?_)
                  have := tb_inj (by omega) (by omega) (show LocksReaders.tb G = LocksReaders.tb (N - 1) from h _ hmem)
                  omega
              obtain ⟨q, b, q1, q2, q3⟩ := hq
              have Q1 := hide q1
              have hLi : (0 : Int) < (L : Int) := by omega
              have hLb : ((L : Int) == 0) = false := by simp [hL0]
              have hsl : (sortB ((RT (tns G L)).whos cx.data.toList)).length = L := by rw [(sortB_perm _).length_eq]; show (if cx.data.toList = xb then tns G L else []).length = L; rw [if_pos (c := cx.data.toList = xb) rfl, tns_len]
              have HSL := hide hsl
              rw [r1, r2] at t1
              have T1 := hide t1
              have HFIT := hide hfit
              clear t1 r1 r2 q1 hmem hsl hfit
              go_wp2_with fail
              refine T1.out.mono ?_
              rintro e w2 ⟨rfl, ⟨X2, -, h⟩, hf⟩
              have F2 := hide (HF1.out.trans (hf.mono (S' := fun k => w.heap.size ≤ k) (fun _ _ h => h.1)) (fun _ _ h => h))
              have H2 := hide h
              have t1 := holdersD w2 _ _ tb _ h 20 HFIT.out (by omega) cx (by decide)
              rw [HSL.out] at t1
              have T1 := hide t1
              clear h hf t1
              go_wp2_with fail
              refine T1.out.mono ?_
              rintro e w3 ⟨v3, rfl, ho, hf⟩
              obtain ⟨x3, c3, rfl⟩ := own_shape ho
              have F3 := hide (F2.out.trans hf (fun _ _ h => h.elim))
              have t1 := takeL w3 _ _ tb _ (H2.out.fr0 hf) 20 HFIT.out (by omega) F3.out.size (tn (N - 1)) (show (2 : Nat) ≤ maxLen by decide) [(cx, true)] (by decide) (by decide)
              rw [Q1.out, HU.out] at t1
              have T1 := hide t1
              clear ho hf t1 H2
              go_wp2_with fail
              refine T1.out.mono ?_
              rintro e w4 ⟨rfl, -, hf⟩
              have F4 := hide (F3.out.trans (hf.mono (S' := fun k => w.heap.size ≤ k) (fun _ _ h => h.1)) (fun _ _ h => h))
              clear hf
              go_wp2_with fail
              refine (known_any w4).mono ?_
              rintro e w5 ⟨rfl, hf⟩
              have F5 := hide (F4.out.trans hf (fun _ _ h => h.elim))
              clear hf
              go_wp2_with fail
              go_ret
              exact ⟨rfl, F5.out.toBelow (Nat.le_refl _) (fun k hk hn => by omega)⟩
end Go.Proofs.Ytkboipnfpcngcaa.LocksReaders
