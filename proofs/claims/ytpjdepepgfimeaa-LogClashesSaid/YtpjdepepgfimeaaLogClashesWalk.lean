/- LogClashes's walk. -/
import Derived.Test.YtpjdepepgfimeaaKnownLog
import Derived.Test.YtpjdepepgfimeaaLogMore
import Derived.Test.YtpjdepepgfimeaaWithin
import Derived.Test.YtpjdepepgfimeaaOpen
namespace Go.Proofs.Ytpjdepepgfimeaa.LogClashes
open Go.RowKit Go.Maps Go.Cv

abbrev cellsAsk (a : Int × Int × ByteArray) : List Value := [.int .i64 a.1, .int .i64 a.2.1, .string a.2.2]

set_option maxRecDepth 100000 in
set_option maxHeartbeats 1000000 in
theorem walk (w : World) (v0 : Value) (l : List (Int × Int × ByteArray)) (h0 : Reads w v0 l.length 3 (l.flatMap cellsAsk)) (_ : ∀ x ∈ l, (Lit.int .i64 x.1).wf = true ∧ (Lit.int .i64 x.2.1).wf = true ∧ x.2.2.size ≤ maxLen) (_ : l.length ≤ maxLen) :
    Calls Try.prog 4 #[v0] w fun e w' => e = .returned (.bool true) ∧ Below w.heap.size w w' := by
  obtain ⟨n0, hn0⟩ : ∃ n, l.length = n := ⟨_, rfl⟩
  rw [hn0] at h0
  obtain ⟨-, a0, c0, rfl, -, -, hc0⟩ := h0
  have HC0 := hide hc0
  have HN0 := hide hn0
  clear hc0 hn0
  go_enter Try.func4, Try.ntmps4
  go_wp2_with fail
  refine (new_any _).mono ?_
  rintro e w1 ⟨lb, bm, rfl, hb1, hb2, hl1, hf1⟩
  have hs1 : w.heap.size ≤ w1.heap.size := hf1.size
  have hlb := lt_of_block hl1.blk
  have hbm := hl1.map.lt
  have HF1 := hide hf1
  have HL1 := hide hl1
  clear hf1 hl1
  go_wp2_with fail
  obtain ⟨w3, hw3⟩ : ∃ w3, ((w1.alloc (.cells #[.string ⟨#[]⟩, .string ⟨#[]⟩, .string ⟨#[]⟩, .string ⟨#[]⟩, .string ⟨#[]⟩, .string ⟨#[]⟩, .string ⟨#[]⟩, .string ⟨#[]⟩] 35)).alloc (.cells #[.bool false, .bool false, .bool false, .bool false, .bool false, .bool false, .bool false, .bool false] 36)) = w3 := ⟨_, rfl⟩
  rw [hw3]
  have hf3 : Fr (fun _ => False) w1 w3 := hw3 ▸ (Fr.alloc _ _ _).trans (Fr.alloc (fun _ => False) _ _) (fun _ _ h => h)
  have hv : Arr w3 w1.heap.size 35 8 (fun _ => .string ⟨#[]⟩) := by
    subst hw3
    refine ⟨_, (Below.heap_alloc _ _ _ (by simp)).trans (block_alloc w1 _), rfl, fun i hi => ?_⟩
    match i, hi with
    | 0, _ | 1, _ | 2, _ | 3, _ | 4, _ | 5, _ | 6, _ | 7, _ => rfl
  have hi : Arr w3 (w1.heap.size + 1) 36 8 (fun _ => .bool false) := by
    subst hw3
    refine ⟨_, by simpa using block_alloc (w1.alloc (.cells #[.string ⟨#[]⟩, .string ⟨#[]⟩, .string ⟨#[]⟩, .string ⟨#[]⟩, .string ⟨#[]⟩, .string ⟨#[]⟩, .string ⟨#[]⟩, .string ⟨#[]⟩] 35)) (.cells #[.bool false, .bool false, .bool false, .bool false, .bool false, .bool false, .bool false, .bool false] 36), rfl, fun i hi => ?_⟩
    match i, hi with
    | 0, _ | 1, _ | 2, _ | 3, _ | 4, _ | 5, _ | 6, _ | 7, _ => rfl
  clear hw3
  generalize hvb : w1.heap.size = vb at *
  have HF3 := hide hf3
  have HV := hide hv
  have HI := hide hi
  clear hf3 hv hi hvb
  go_loopw [6] (fun i wr => ∃ (k m : Nat) (f : Int → Option ByteArray), i = .int .i64 k ∧ k ≤ 60 ∧ m ≤ k ∧ Lg wr lb bm m f 0 0 ∧ Arr wr vb 35 8 (fun i => .string ((f i).getD ⟨#[]⟩)) ∧ Arr wr (vb + 1) 36 8 (fun i => .bool (f i).isSome) ∧ Fr (fun j => w.heap.size ≤ j) w wr)
    (fun i _ => 60 - (intOf i).toNat)
  case atStart => exact ⟨0, 0, _, rfl, by omega, by omega, HL1.out.fr HF3.out id id, HV.out.congr (fun _ _ => rfl), HI.out.congr (fun _ _ => rfl), (HF1.out.trans HF3.out (fun _ _ h => h)).mono (fun _ _ h => h.elim)⟩
  case round =>
    obtain ⟨k, m, f, rfl, hk, hm, hl, hv, hi, hfr⟩ := hrel
    have HL := hide hl
    have HV' := hide hv
    have HI' := hide hi
    have HF := hide hfr
    clear hl hv hi hfr
    by_cases hgo : k < n0 ∧ k < 60
    · obtain ⟨hg1, hg2⟩ := hgo
      obtain ⟨x, hx⟩ : ∃ x, l[k]? = some x := ⟨_, List.getElem?_eq_getElem (by have := HN0.out; omega)⟩
      have hcell : ∀ j u, (cellsAsk x)[j]? = some u → j < 3 → ∃ b off, a0 = some ⟨b, off, none⟩ ∧ w.cell? ⟨b, off + (k * 3 + j), none⟩ = some u := fun j u hu hj =>
        HC0.out (k * 3 + j) u (by rw [flat_get cellsAsk 3 (fun _ => rfl) l k j x hx hj]; exact hu)
      obtain ⟨kind, z, s⟩ := x
      obtain ⟨b0, o0, rfl, e1⟩ := hcell 1 (.int .i64 z) rfl (by omega)
      obtain ⟨b1, o1, e, e2⟩ := hcell 2 (.string s) rfl (by omega)
      cases e
      have hbl := World.block_lt_of_cell? w _ e1
      have old : ∀ (wx : World), Fr (fun j => w.heap.size ≤ j) w wx → ∀ o, wx.cell? ⟨b0, o, none⟩ = w.cell? ⟨b0, o, none⟩ := fun wx hfx o => World.cell?_of_block (w := w) (hfx.block b0 hbl (by simp at hbl ⊢; omega))
      have e1' : wr.cell? ⟨b0, o0 + k * 3 + 1, none⟩ = some (.int .i64 z) := by rw [old wr HF.out, Nat.add_assoc]; exact e1
      have e2' : wr.cell? ⟨b0, o0 + k * 3 + 2, none⟩ = some (.string s) := by rw [old wr HF.out, Nat.add_assoc]; exact e2
      have ik0 : (0 : Int) ≤ (k : Int) := by omega
      have ik1 : (k : Int) < (n0 : Int) := by omega
      have OLD := hide old
      have E2 := hide e2
      clear hx hcell e1 e2 old
      go_wp2_with fail
      refine (within_ex _ z 0 7 (by omega) (by omega) (by omega)).mono ?_
      rintro e w' ⟨si, rfl, hs0, hs7, rfl⟩
      obtain ⟨sn, rfl⟩ : ∃ n : Nat, si = n := ⟨si.toNat, by omega⟩
      have hsn : sn < 8 := by omega
      have is1 : (sn : Int) < 8 := by omega
      cases hfs : f sn with
      | none =>
        go_wp2_with fail
        refine (learn_new _ lb bm m f 0 0 HL.out (by unfold maxLen; omega) sn s (by omega) (by omega) (by omega) hfs).mono ?_
        rintro e w2 ⟨rfl, hl2, hf2⟩
        have HL2 := hide hl2
        have HF2 := hide hf2
        clear hl2 hf2
        have ci : w2.cell? ⟨vb + 1, sn, none⟩ = some (.bool false) := by
          rw [(HI'.out.fr HF2.out (by omega)).cell hsn, hfs]; rfl
        have fi : w2.frozen? ⟨vb + 1, sn, none⟩ = false := (HI'.out.fr HF2.out (by omega)).free _
        have hA : Fr (fun j => w.heap.size ≤ j) w w2 := HF.out.trans HF2.out (fun j _ hj => by omega)
        have hf3 : Fr (fun j => w.heap.size ≤ j) w (w2.setCell ⟨vb + 1, sn, none⟩ (.bool true)) := hA.trans (Fr.setCell (S := fun j => j = vb + 1) _ _ _ rfl) (fun j _ hj => by omega)
        have c3 : (w2.setCell ⟨vb + 1, sn, none⟩ (.bool true)).cell? ⟨b0, o0 + k * 3 + 2, none⟩ = some (.string s) := by rw [OLD.out _ hf3, Nat.add_assoc]; exact E2.out
        have hv3 : Arr (w2.setCell ⟨vb + 1, sn, none⟩ (.bool true)) vb 35 8 (fun i => .string ((f i).getD ⟨#[]⟩)) := (HV'.out.fr HF2.out (by omega)).fr (Fr.setCell (S := fun j => j = vb + 1) _ _ _ rfl) (by omega)
        have cv : (w2.setCell ⟨vb + 1, sn, none⟩ (.bool true)).cell? ⟨vb, sn, none⟩ = some (.string ((f sn).getD ⟨#[]⟩)) := hv3.cell hsn
        have fv : (w2.setCell ⟨vb + 1, sn, none⟩ (.bool true)).frozen? ⟨vb, sn, none⟩ = false := hv3.free _
        rw [hfs] at cv
        have HV3 := hide hv3
        have HF3' := hide hf3
        clear hv3 hf3 hA
        go_wp2_with fail
        have hl4 : Lg ((w2.setCell ⟨vb + 1, sn, none⟩ (.bool true)).setCell ⟨vb, sn, none⟩ (.string s)) lb bm (m + 1) (fput f sn s) 0 0 :=
          (HL2.out.fr (Fr.setCell (S := fun j => j = vb + 1) _ _ _ rfl) (by omega) (by omega)).fr (Fr.setCell (S := fun j => j = vb) _ _ _ rfl) (by omega) (by omega)
        have hv4 : Arr ((w2.setCell ⟨vb + 1, sn, none⟩ (.bool true)).setCell ⟨vb, sn, none⟩ (.string s)) vb 35 8 (fun i => .string ((fput f sn s i).getD ⟨#[]⟩)) :=
          (HV3.out.set sn (.string s)).congr (fun i _ => by
            unfold fput
            by_cases e : (i : Int) = sn
            · have e2 : i = sn := by omega
              rw [if_pos e, if_pos e2]; rfl
            · have e2 : ¬ i = sn := by omega
              rw [if_neg e, if_neg e2])
        have hi4 : Arr ((w2.setCell ⟨vb + 1, sn, none⟩ (.bool true)).setCell ⟨vb, sn, none⟩ (.string s)) (vb + 1) 36 8 (fun i => .bool (fput f sn s i).isSome) :=
          (((HI'.out.fr HF2.out (by omega)).set sn (.bool true)).fr (Fr.setCell (S := fun j => j = vb) _ _ _ rfl) (by omega)).congr (fun i _ => by
            unfold fput
            by_cases e : (i : Int) = sn
            · have e2 : i = sn := by omega
              rw [if_pos e, if_pos e2]; rfl
            · have e2 : ¬ i = sn := by omega
              rw [if_neg e, if_neg e2])
        have hf4 : Fr (fun j => w.heap.size ≤ j) w ((w2.setCell ⟨vb + 1, sn, none⟩ (.bool true)).setCell ⟨vb, sn, none⟩ (.string s)) :=
          HF3'.out.trans (Fr.setCell (S := fun j => j = vb) _ _ _ rfl) (fun j _ hj => by omega)
        generalize (w2.setCell ⟨vb + 1, sn, none⟩ (.bool true)).setCell ⟨vb, sn, none⟩ (.string s) = w4 at *
        have c4 : w4.cell? ⟨vb, sn, none⟩ = some (.string s) := by
          rw [hv4.cell hsn]; simp [fput]
        have hget := get_any _ lb bm _ _ 0 0 hl4 sn (by omega) (by omega)
        rw [show fput f sn s sn = some s from by simp [fput]] at hget
        have HGET := hide hget
        have HL4 := hide hl4
        have HV4 := hide hv4
        have HI4 := hide hi4
        have HF4 := hide hf4
        clear hget hl4 hv4 hi4 hf4 c3 cv fv ci fi
        refine HGET.out.mono ?_
        rintro e w' ⟨rfl, rfl⟩
        go_wp2_with fail
        go_roundw
        case rel => exact ⟨k + 1, m + 1, _, by go_num, by omega, by omega, HL4.out, HV4.out, HI4.out, HF4.out⟩
        case measure => simp [intOf]; omega
      | some u =>
        have ci : wr.cell? ⟨vb + 1, sn, none⟩ = some (.bool true) := by
          rw [HI'.out.cell hsn, hfs]; rfl
        have cv : wr.cell? ⟨vb, sn, none⟩ = some (.string u) := by
          rw [HV'.out.cell hsn, hfs]; rfl
        have hget : ∀ nq, Calls Try.prog 14 #[.pointer (some ⟨lb, 0, none⟩), .int .i64 sn] (wr.drewN nq) fun e w' => e = .returned (.tuple #[.string u, .bool true]) ∧ (wr.drewN nq) = w' := fun nq => by
          have := get_any (wr.drewN nq) lb bm _ _ 0 0 (HL.out.heap rfl rfl) sn (by omega) (by omega)
          rw [hfs] at this
          exact this
        have HGET := hide hget
        clear hget
        by_cases hus : u = s
        · have hlearn := learn_old _ lb bm m f 0 0 HL.out sn s 0 (by omega) (by omega) (.inr (.inr ⟨by omega, by omega, by omega, u, hfs, .inl ⟨hus, rfl⟩⟩))
          have HLEARN := hide hlearn
          clear hlearn hfs
          subst hus
          go_wp2_with fail
          refine HLEARN.out.mono ?_
          rintro e w' ⟨rfl, rfl⟩
          go_wp2_with fail
          go_quiet (fail)
          go_wp2_with fail
          refine (HGET.out _).mono ?_
          rintro e w' ⟨rfl, rfl⟩
          have cv' : (wr.drewN nq).cell? ⟨vb, sn, none⟩ = some (.string u) := cv
          go_wp2_with fail
          go_roundw
          case rel => exact ⟨k + 1, m, f, by go_num, by omega, by omega, HL.out.heap rfl rfl, HV'.out.heap rfl, HI'.out.heap rfl, HF.out.drewN _⟩
          case measure => simp [intOf]; omega
        · have hlearn := learn_old _ lb bm m f 0 0 HL.out sn s 37 (by omega) (by omega) (.inr (.inr ⟨by omega, by omega, by omega, u, hfs, .inr ⟨hus, rfl⟩⟩))
          have HLEARN := hide hlearn
          have hub := bytes_beq hus
          clear hlearn hfs
          go_wp2_with fail
          refine HLEARN.out.mono ?_
          rintro e w' ⟨rfl, rfl⟩
          go_wp2_with fail
          go_quiet (fail)
          go_wp2_with fail
          refine (HGET.out _).mono ?_
          rintro e w' ⟨rfl, rfl⟩
          have cv' : (wr.drewN nq).cell? ⟨vb, sn, none⟩ = some (.string u) := cv
          go_wp2_with fail
          go_roundw
          case rel => exact ⟨k + 1, m, f, by go_num, by omega, by omega, HL.out.heap rfl rfl, HV'.out.heap rfl, HI'.out.heap rfl, HF.out.drewN _⟩
          case measure => simp [intOf]; omega
    · have hex : n0 ≤ k ∨ (k < n0 ∧ 60 ≤ k) := by omega
      clear hgo
      rcases hex with hx | ⟨hx, hx2⟩
      all_goals
        go_wp2_with fail
        refine (known_any _).mono ?_
        rintro e w10 ⟨rfl, hf10⟩
        go_wp2_with fail
        go_ret
        exact ⟨rfl, (HF.out.trans hf10 (fun j _ hj => hj.elim)).toBelow (Nat.le_refl _) (fun j hj h => by omega)⟩
end Go.Proofs.Ytpjdepepgfimeaa.LogClashes
