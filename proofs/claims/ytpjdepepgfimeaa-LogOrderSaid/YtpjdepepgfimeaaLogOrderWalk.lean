/- LogOrder's walk. -/
import Derived.Test.YtpjdepepgfimeaaKnownLog
import Derived.Test.YtpjdepepgfimeaaWithin
import Derived.Test.YtpjdepepgfimeaaOpen
namespace Go.Proofs.Ytpjdepepgfimeaa.LogOrder
open Go.RowKit Go.Maps Go.Cv

def chr (s : Int) : ByteArray := Utf8.encode (65 + s)
def chs (t : Nat) : List Value := (List.range t).map fun (i : Nat) => .string (chr i)

def KF (N : Int) (f : Int → Option ByteArray) : Prop := ∀ s u, f s = some u → 0 ≤ s ∧ s < N ∧ u = chr s
def Known (f : Int → Option ByteArray) (t : Nat) : Prop := ∀ s : Int, 0 ≤ s → s < t → ∃ u, f s = some u

theorem KF.put {N : Int} {f : Int → Option ByteArray} (h : KF N f) {s : Int} (h0 : 0 ≤ s) (h1 : s < N) : KF N (fput f s (chr s)) := by
  intro i u hu
  unfold fput at hu
  split at hu
  · rename_i e; subst e; cases hu; exact ⟨h0, h1, rfl⟩
  · exact h i u hu
theorem Known.put {f : Int → Option ByteArray} {t : Nat} (h : Known f t) (s : Int) (v : ByteArray) : Known (fput f s v) t := by
  intro i h0 h1
  unfold fput
  split
  · exact ⟨_, rfl⟩
  · exact h i h0 h1

theorem next_ex {N : Int} {f : Int → Option ByteArray} (hk : KF N f) : ∀ (d t : Nat), N - t ≤ d → (t : Int) ≤ N → Known f t → ∃ R : Nat, IsNext f 0 ((t : Int) + (R : Nat)) ∧ (t : Int) + (R : Nat) ≤ N := by
  intro d
  induction d with
  | zero =>
    intro t h1 h2 h3
    refine ⟨0, ⟨by omega, fun s a b => h3 s a (by omega), ?_⟩, by omega⟩
    cases hf : f (t + (0 : Nat)) with
    | none => rfl
    | some u => have := (hk _ _ hf).2.1; omega
  | succ d ih =>
    intro t h1 h2 h3
    cases hf : f t with
    | none => exact ⟨0, ⟨by omega, fun s a b => h3 s a (by omega), by simpa using hf⟩, by omega⟩
    | some u =>
      have := (hk _ _ hf).2.1
      obtain ⟨R, a, b⟩ := ih (t + 1) (by omega) (by omega) (fun s a b => by
        by_cases e : s = t
        · subst e; exact ⟨u, hf⟩
        · exact h3 s a (by omega))
      exact ⟨R + 1, by rw [show (t : Int) + ((R + 1 : Nat) : Int) = ((t + 1 : Nat) : Int) + (R : Nat) by omega]; exact a, by omega⟩

theorem chs_add (t R : Nat) : chs t ++ (List.range R).map (fun (i : Nat) => Value.string (chr ((t : Int) + (i : Int)))) = chs (t + R) := by
  unfold chs
  rw [List.range_add, List.map_append, List.map_map]
  refine congrArg (_ ++ ·) (List.map_congr_left (fun i _ => ?_))
  simp only [Function.comp_apply, Int.natCast_add]

theorem vals_chs {N : Int} {f : Int → Option ByteArray} (hk : KF N f) {t R : Nat} (hn : IsNext f 0 ((t : Int) + (R : Nat))) : chs t ++ vals f t R = chs (t + R) := by
  rw [← chs_add]
  unfold vals
  refine congrArg (chs t ++ ·) (List.map_congr_left (fun i hi => ?_))
  have hi := List.mem_range.1 hi
  obtain ⟨_, h3, _⟩ := hn
  have h4 : (0 : Int) ≤ (t : Int) + (i : Int) := by omega
  have h5 : (t : Int) + (i : Int) < (t : Int) + (R : Nat) := by omega
  obtain ⟨u, hu⟩ := h3 _ h4 h5
  have hc := (hk _ _ hu).2.2
  rw [hu, hc, Option.getD_some]

theorem Known.of_next {f : Int → Option ByteArray} {t R : Nat} (hn : IsNext f 0 ((t : Int) + (R : Nat))) : Known f (t + R) := fun s h0 h1 => hn.2.1 s h0 (by omega)

set_option maxRecDepth 100000 in
set_option maxHeartbeats 1000000 in
theorem walk (w : World) (v0 : Value) (zs : List Int) (h0 : Reads w v0 zs.length 1 (zs.flatMap fun z => [.int .i64 z])) (_ : ∀ x ∈ zs, (Lit.int .i64 x).wf = true) (_ : zs.length ≤ maxLen)
    (v1 : Value) (bs : List Bool) (h1 : Reads w v1 bs.length 1 (bs.flatMap fun b => [.bool b])) (_ : ∀ x ∈ bs, True) (_ : bs.length ≤ maxLen) (a2 : Int) (_ : (Lit.int .i64 a2).wf = true) :
    Calls Try.prog 3 #[v0, v1, .int .i64 a2] w fun e w' => e = .returned (.bool true) ∧ Below w.heap.size w w' := by
  rw [flat_one] at h0 h1
  obtain ⟨n0, hn0⟩ : ∃ n, zs.length = n := ⟨_, rfl⟩
  obtain ⟨n1, hn1⟩ : ∃ n, bs.length = n := ⟨_, rfl⟩
  rw [hn0] at h0
  rw [hn1] at h1
  obtain ⟨hz0, a0, c0, rfl, -, -, hc0⟩ := h0
  obtain ⟨hz1, a1, c1, rfl, -, -, hc1⟩ := h1
  rw [List.length_map] at hz0 hz1
  have HC0 := hide hc0
  have HC1 := hide hc1
  have HZ0 := hide hz0
  have HZ1 := hide hz1
  clear hc0 hc1 hz0 hz1 hn0 hn1
  obtain ⟨i0, hi0, hz0, hz1, hz2⟩ := info_parts info9
  go_enter Try.func3, Try.ntmps3
  go_wp2_with fail
  refine (within_ex _ a2 0 30 (by omega) (by omega) (by omega)).mono ?_
  rintro e w' ⟨r0, rfl, hr0, hr1, rfl⟩
  go_wp2_with fail
  refine (new_any _).mono ?_
  rintro e w1 ⟨lb, bm, rfl, hb1, hb2, hl1, hf1⟩
  go_wp2_with fail
  have hs1 : w.heap.size ≤ w1.heap.size := hf1.size
  have hlb := lt_of_block hl1.blk
  have hbm := hl1.map.lt
  have HF1 := hide hf1
  have HL1 := hide hl1
  clear hf1 hl1
  go_loopw [8, 9] (fun v i wr => ∃ (k t m : Nat) (f : Int → Option ByteArray), i = .int .i64 k ∧ k ≤ 120 ∧ m ≤ k ∧ (t : Int) ≤ 1 + r0 ∧ KF (1 + r0) f ∧ Known f t ∧ wr.ownsRow w1.heap.size 9 1 v t (chs t) ∧ Lg wr lb bm m f 0 t ∧ Fr (fun j => w.heap.size ≤ j) w wr ∧ w1.heap.size ≤ wr.heap.size)
    (fun _ i _ => 120 - (intOf i).toNat)
  case atStart =>
    refine ⟨0, 0, 0, _, rfl, by omega, by omega, by omega, ?_, ?_, World.ownsRow_nil _ _ _ _, HL1.out, HF1.out.mono (fun _ _ h => h.elim), Nat.le_refl _⟩
    · intro s u hu; cases hu
    · intro s h0 h1; omega
  case round =>
    obtain ⟨k, t, m, f, rfl, hk, hm, ht, hkf, hkn, hown, hl, hfr, hsz⟩ := hrel
    have HKF := hide hkf
    have HKN := hide hkn
    have HOWN := hide hown
    have HL := hide hl
    have HFR := hide hfr
    clear hkf hkn hown hl hfr
    by_cases hgo : k < n0 ∧ k < 120
    · obtain ⟨hlt, hlt2⟩ := hgo
      · obtain ⟨z, hz⟩ : ∃ z, zs[k]? = some z := ⟨_, List.getElem?_eq_getElem (by have := HZ0.out; omega)⟩
        obtain ⟨b0, o0, rfl, e0⟩ := HC0.out k (.int .i64 z) (by rw [List.getElem?_map, hz]; rfl)
        have hbl := World.block_lt_of_cell? w _ e0
        have e0' : wr.cell? ⟨b0, o0 + k, none⟩ = some (.int .i64 z) := by
          rw [World.cell?_of_block (w := w) (HFR.out.block b0 hbl (by simp at hbl ⊢; omega))]; exact e0
        clear e0
        have ik0 : (0 : Int) ≤ (k : Int) := by omega
        have ik1 : (k : Int) < (n0 : Int) := by omega
        clear hz
        go_wp2_with fail
        refine (within_ex _ z 0 _ (by omega) (by omega) (by omega)).mono ?_
        rintro e w' ⟨s, rfl, hs0, hs1, rfl⟩
        go_wp2_with fail
        have hlearn : Calls Try.prog 10 #[.pointer (some ⟨lb, 0, none⟩), .int .i64 s, .string (Utf8.encode (65 + s))] wr fun e w' => ∃ (m' : Nat) (f' : Int → Option ByteArray), e = .returned (.int .i64 0) ∧ m' ≤ k + 1 ∧ KF (1 + r0) f' ∧ Known f' t ∧ Lg w' lb bm m' f' 0 t ∧ Fr (fun j => j = bm) wr w' := by
          cases hfs : f s with
          | none => exact (learn_new _ lb bm m f 0 t HL.out (by unfold maxLen; omega) s _ (by omega) (by omega) (by omega) hfs).mono fun e w' ⟨h1, h2, h3⟩ => ⟨_, _, h1, by omega, HKF.out.put hs0 (by omega), HKN.out.put _ _, h2, h3⟩
          | some u => exact (learn_old _ lb bm m f 0 t HL.out s _ 0 (by omega) (by omega) (.inr (.inr ⟨by omega, by omega, by omega, u, hfs, .inl ⟨(HKF.out _ _ hfs).2.2, rfl⟩⟩))).mono fun e w' ⟨h1, h2⟩ => ⟨m, f, h1, by omega, HKF.out, HKN.out, h2 ▸ HL.out, h2 ▸ Fr.refl _ _⟩
        refine hlearn.mono ?_
        rintro e w2 ⟨m', f', rfl, hm', hkf', hkn', hl2, hf2⟩
        have HKF' := hide hkf'
        have HKN' := hide hkn'
        have HL2 := hide hl2
        have HF2 := hide hf2
        clear hkf' hkn' hl2 hf2 hlearn
        by_cases hlt3 : k < n1
        · obtain ⟨x, hx⟩ : ∃ x, bs[k]? = some x := ⟨_, List.getElem?_eq_getElem (by have := HZ1.out; omega)⟩
          obtain ⟨b1, o1, rfl, e1⟩ := HC1.out k (.bool x) (by rw [List.getElem?_map, hx]; rfl)
          have hbl1 := World.block_lt_of_cell? w _ e1
          have e1' : w2.cell? ⟨b1, o1 + k, none⟩ = some (.bool x) := by
            rw [World.cell?_of_block (w := wr) (HF2.out.block b1 (by have := HFR.out.size; simp at hbl1; omega) (by simp at hbl1 ⊢; omega)), World.cell?_of_block (w := w) (HFR.out.block b1 hbl1 (by simp at hbl1 ⊢; omega))]; exact e1
          have ik2 : (k : Int) < (n1 : Int) := by omega
          clear e1 hx
          cases x with
          | false =>
            go_wp2_with fail
            go_roundw
            case rel => exact ⟨k + 1, t, m', f', by go_num, by omega, hm', ht, HKF'.out, HKN'.out, ownsRow_fr HOWN.out HF2.out (fun j hj hj2 => by have := (HOWN.out.lt j hj).1; omega), HL2.out, HFR.out.trans HF2.out (fun j _ hj => by omega), by have := HF2.out.size; omega⟩
            case measure => simp [intOf]; omega
          | true =>
            obtain ⟨R, hR, hRN⟩ := next_ex HKF'.out 31 t (by omega) (by omega) HKN'.out
            go_wp2_with fail
            refine (take_any _ lb bm m' f' 0 t R HL2.out (by omega) (by omega) hR (by omega)).mono ?_
            rintro e w3 ⟨v3, rfl, ho3, hl3, hf3⟩
            have hown3 : w3.ownsRow w1.heap.size 9 1 u8 t (chs t) :=
              ownsRow_fr (ownsRow_fr HOWN.out HF2.out (fun j hj hj2 => by have := (HOWN.out.lt j hj).1; omega)) hf3 (fun j hj hj2 => by have := (HOWN.out.lt j hj).1; omega)
            have hr3 := Reads.of_own ho3
            have h13 : ∀ x ∈ vals f' t R, x.oneCell' = true := by
              intro x hx; unfold vals at hx; obtain ⟨i, _, rfl⟩ := List.mem_map.1 hx; rfl
            have hsz3 : w1.heap.size ≤ w3.heap.size := by have := HF2.out.size; have := hf3.size; omega
            have hnb : ∀ j, u8.ownBlock = some j → j ≠ lb ∧ j ≠ bm := fun j hj => by have := (HOWN.out.lt j hj).1; omega
            have HR3 := hide hr3
            have HF3 := hide hf3
            have HL3 := hide hl3
            have HOWN3 := hide hown3
            have HNB := hide hnb
            have HR := hide hR
            clear hr3 hf3 hl3 hown3 hnb ho3 hR
            go_wp2_with (at_builtin; go_must (refine wpList_append_reads _ rfl _ _ _ rfl w1.heap.size 9 i0 _ 1 16 Try.underlying27 hi0 hz0 hz1 hz2 rfl (by decide) u8 t (chs t) rfl HOWN3.out v3 R _ rfl HR3.out h13 ?c1 ?c2 hsz3 ?c3))
            case c1 => unfold maxLen; omega
            case c2 => omega
            case c3 =>
              intro v4 w4 ho4 hg4 hb4
              rw [vals_chs HKF'.out HR.out] at ho4
              have HO4 := hide ho4
              have HG4 := hide hg4
              clear ho4 hg4 hb4
              go_wp2_with fail
              go_roundw
              case rel =>
                exact ⟨k + 1, t + R, m', f', by go_num, by omega, hm', by omega, HKF'.out, Known.of_next HR.out, HO4.out, HL3.out.grew HG4.out HNB.out,
                  ((HFR.out.trans HF2.out (fun j _ hj => by omega)).trans HF3.out (fun j _ hj => by omega)).trans (Fr.grown (S := fun j => w1.heap.size ≤ j) HG4.out (fun j hj => (HOWN3.out.lt j hj).1)) (fun j _ hj => by omega), by have := HG4.out.size; omega⟩
              case measure => simp [intOf]; omega
        · go_wp2_with fail
          go_roundw
          case rel => exact ⟨k + 1, t, m', f', by go_num, by omega, hm', ht, HKF'.out, HKN'.out, ownsRow_fr HOWN.out HF2.out (fun j hj hj2 => by have := (HOWN.out.lt j hj).1; omega), HL2.out, HFR.out.trans HF2.out (fun j _ hj => by omega), by have := HF2.out.size; omega⟩
          case measure => simp [intOf]; omega
    · have hex : n0 ≤ k ∨ (k < n0 ∧ 120 ≤ k) := by omega
      obtain ⟨Nn, hNn⟩ : ∃ n : Nat, (n : Int) = 1 + r0 := ⟨(1 + r0).toNat, by omega⟩
      have HNn := hide hNn
      have hN1 : 1 ≤ Nn := by omega
      have hN2 : Nn ≤ 31 := by omega
      clear hgo hNn
      rcases hex with hx | ⟨hx, hx2⟩
      all_goals
        obtain ⟨wo, rfl⟩ : ∃ wo : World, wo = wr := ⟨_, rfl⟩
        go_wp2_with fail
        go_loopw [11] (fun i wr2 => ∃ (s : Int) (m2 : Nat) (f2 : Int → Option ByteArray), i = .int .i64 s ∧ -1 ≤ s ∧ s ≤ r0 ∧ m2 ≤ 120 + (r0 - s).toNat ∧ KF (1 + r0) f2 ∧ Known f2 t ∧ (∀ j, s < j → j < 1 + r0 → ∃ u, f2 j = some u) ∧ Lg wr2 lb bm m2 f2 0 t ∧ Fr (fun j => j = bm) wo wr2)
          (fun i _ => (intOf i + 1).toNat)
        case atStart => exact ⟨r0, m, f, by go_num, by omega, by omega, by omega, HKF.out, HKN.out, fun j h1 h2 => by omega, HL.out, Fr.refl _ _⟩
        case round =>
          obtain ⟨s, m2, f2, rfl, hs0, hs1, hm2, hkf2, hkn2, hall, hl2, hf2⟩ := hrel
          have HKF2 := hide hkf2
          have HKN2 := hide hkn2
          have HALL := hide hall
          have HL2 := hide hl2
          have HF2 := hide hf2
          clear hkf2 hkn2 hall hl2 hf2
          by_cases hs : 0 ≤ s
          · have hlearn : Calls Try.prog 10 #[.pointer (some ⟨lb, 0, none⟩), .int .i64 s, .string (Utf8.encode (65 + s))] wr fun e w' => ∃ (m' : Nat) (f' : Int → Option ByteArray), e = .returned (.int .i64 0) ∧ m' ≤ m2 + 1 ∧ KF (1 + r0) f' ∧ Known f' t ∧ (∀ j, s - 1 < j → j < 1 + r0 → ∃ u, f' j = some u) ∧ Lg w' lb bm m' f' 0 t ∧ Fr (fun j => j = bm) wr w' := by
              cases hfs : f2 s with
              | none =>
                refine (learn_new _ lb bm m2 f2 0 t HL2.out (by unfold maxLen; omega) s _ (by omega) (by omega) (by omega) hfs).mono fun e w' ⟨h1, h2, h3⟩ => ⟨_, _, h1, by omega, HKF2.out.put hs (by omega), HKN2.out.put _ _, fun j h4 h5 => ?_, h2, h3⟩
                unfold fput
                split
                · exact ⟨_, rfl⟩
                · exact HALL.out j (by omega) h5
              | some u =>
                exact (learn_old _ lb bm m2 f2 0 t HL2.out s _ 0 (by omega) (by omega) (.inr (.inr ⟨by omega, by omega, by omega, u, hfs, .inl ⟨(HKF2.out _ _ hfs).2.2, rfl⟩⟩))).mono fun e w' ⟨h1, h2⟩ => ⟨m2, f2, h1, by omega, HKF2.out, HKN2.out, fun j h4 h5 => by
                  by_cases e : j = s
                  · subst e; exact ⟨u, hfs⟩
                  · exact HALL.out j (by omega) h5, h2 ▸ HL2.out, h2 ▸ Fr.refl _ _⟩
            go_wp2_with fail
            refine hlearn.mono ?_
            rintro e w3 ⟨m', f', rfl, hm', hkf', hkn', hall', hl3, hf3⟩
            have HKF' := hide hkf'
            have HKN' := hide hkn'
            have HALL' := hide hall'
            have HL3 := hide hl3
            have HF3 := hide hf3
            clear hkf' hkn' hall' hl3 hf3 hlearn
            go_wp2_with fail
            go_roundw
            case rel => exact ⟨s - 1, m', f', rfl, by omega, by omega, by omega, HKF'.out, HKN'.out, HALL'.out, HL3.out, HF2.out.trans HF3.out (fun _ _ h => h)⟩
            case measure => simp [intOf]; omega
          · obtain rfl : s = -1 := by omega
            have hNn := HNn.out
            have hR : IsNext f2 0 ((t : Int) + ((Nn - t : Nat) : Int)) := by
              rw [show ((t : Int) + ((Nn - t : Nat) : Int)) = 1 + r0 by omega]
              refine ⟨by omega, fun j h1 h2 => HALL.out j (by omega) (by omega), ?_⟩
              cases hf : f2 (1 + r0) with
              | none => rfl
              | some u => have := (HKF2.out _ _ hf).2.1; omega
            have hR2 : (t : Int) + ((Nn - t : Nat) : Int) ≤ 512 := by omega
            have hR3 : t + (Nn - t) = Nn := by omega
            have HR := hide hR
            have HR3 := hide hR3
            clear hNn hR hR3
            go_wp2_with fail
            refine (take_any _ lb bm m2 f2 0 t (Nn - t) HL2.out (by omega) (by omega) HR.out hR2).mono ?_
            rintro e w3 ⟨v3, rfl, ho3, hl3, hf3⟩
            have hown3 : w3.ownsRow w1.heap.size 9 1 u8 t (chs t) :=
              ownsRow_fr (ownsRow_fr HOWN.out HF2.out (fun j hj hj2 => by have := (HOWN.out.lt j hj).1; omega)) hf3 (fun j hj hj2 => by have := (HOWN.out.lt j hj).1; omega)
            have hr3 := Reads.of_own ho3
            have h13 : ∀ x ∈ vals f2 t (Nn - t), x.oneCell' = true := by
              intro x hx; unfold vals at hx; obtain ⟨i, _, rfl⟩ := List.mem_map.1 hx; rfl
            have hsz3 : w1.heap.size ≤ w3.heap.size := by have := HF2.out.size; have := hf3.size; omega
            have hnb : ∀ j, u8.ownBlock = some j → j ≠ lb ∧ j ≠ bm := fun j hj => by have := (HOWN.out.lt j hj).1; omega
            have HR3' := hide hr3
            have HF3 := hide hf3
            have HL3 := hide hl3
            have HOWN3 := hide hown3
            have HNB := hide hnb
            clear hr3 hf3 hl3 hown3 hnb ho3
            go_wp2_with (at_builtin; refine wpList_append_reads _ rfl _ _ _ rfl w1.heap.size 9 i0 _ 1 16 Try.underlying27 hi0 hz0 hz1 hz2 rfl (by decide) u8 t (chs t) rfl HOWN3.out v3 (Nn - t) _ rfl HR3'.out h13 ?c1 ?c2 hsz3 ?c3)
            case c1 => unfold maxLen; omega
            case c2 => omega
            case c3 =>
              intro v4 w4 ho4 hg4 hb4
              rw [vals_chs HKF2.out HR.out, HR3.out] at ho4
              have hl4 := HL3.out.grew hg4 HNB.out
              have hf4 : Fr (fun j => w.heap.size ≤ j) w w4 := ((HFR.out.trans HF2.out (fun j _ hj => by omega)).trans HF3.out (fun j _ hj => by omega)).trans (Fr.grown (S := fun j => w1.heap.size ≤ j) hg4 (fun j hj => (HOWN3.out.lt j hj).1)) (fun j _ hj => by omega)
              have hrd := Reads.of_own ho4
              obtain ⟨g, cap, rfl, hg1, hg2⟩ := ho4.form (by omega)
              have HRD := hide hrd
              have HL4 := hide hl4
              have HF4 := hide hf4
              clear ho4 hg4 hb4 hl4 hf4 hrd
              go_wp2_with fail
              go_loop [12] (fun i => ∃ k2 : Nat, i = .int .i64 k2 ∧ k2 ≤ Nn) (fun i => Nn - (intOf i).toNat)
              case atStart => exact ⟨0, rfl, by omega⟩
              case round =>
                obtain ⟨k2, rfl, hk2⟩ := hrel
                by_cases hlt5 : k2 < Nn
                · have hcell : w4.cell? ⟨g, k2, none⟩ = some (.string (Utf8.encode (65 + k2))) := by
                    obtain ⟨_, a, c, e, _, _, hh⟩ := HRD.out
                    obtain ⟨b, off, e2, hc⟩ := hh k2 (.string (chr k2)) (by unfold chs; rw [List.getElem?_map, List.getElem?_range hlt5]; rfl)
                    cases e; cases e2; simpa [chr] using hc
                  have ik0 : (0 : Int) ≤ (k2 : Int) := by omega
                  have ik1 : (k2 : Int) < (Nn : Int) := by omega
                  go_wp2_with fail
                  go_round
                  case rel => exact ⟨k2 + 1, by go_num, by omega⟩
                  case measure => simp [intOf]; omega
                · obtain rfl : k2 = Nn := by omega
                  have heq : ((k2 : Int) == 1 + r0) = true := by rw [beq_iff_eq]; exact HNn.out
                  go_wp2_with fail
                  have hnx : IsNext f2 0 (1 + r0) := by
                    have := HR.out
                    rwa [show ((t : Int) + ((k2 - t : Nat) : Int)) = 1 + r0 by have := HNn.out; omega] at this
                  have hnx2 : IsNext f2 0 ((t : Int) + ((k2 - t : Nat) : Int) + ((0 : Nat) : Int)) := by
                    have := HR.out
                    simpa using this
                  have HX := hide hnx
                  have HX2 := hide hnx2
                  clear hnx hnx2
                  refine (next_any _ lb bm m2 f2 0 _ (1 + r0) HL4.out (by omega) HX.out (by omega)).mono ?_
                  rintro e w' ⟨rfl, rfl⟩
                  go_wp2_with fail
                  refine (take_any _ lb bm m2 f2 0 _ 0 HL4.out (by omega) (by omega) HX2.out (by omega)).mono ?_
                  rintro e w5 ⟨v5, rfl, ho5, -, hf5⟩
                  obtain ⟨-, a5, c5, rfl, -, -, -⟩ := Reads.of_own ho5
                  clear ho5
                  have HF5 := hide hf5
                  clear hf5
                  go_wp2_with fail
                  refine (known_any _).mono ?_
                  rintro e w6 ⟨rfl, hf6⟩
                  go_wp2_with fail
                  go_ret
                  exact ⟨rfl, ((HF4.out.trans HF5.out (fun j _ hj => by omega)).trans hf6 (fun j _ hj => hj.elim)).toBelow (Nat.le_refl _) (fun j hj => by omega)⟩
end Go.Proofs.Ytpjdepepgfimeaa.LogOrder
