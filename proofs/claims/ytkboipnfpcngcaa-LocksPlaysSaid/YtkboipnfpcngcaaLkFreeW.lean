/- Free of a table of locks. -/
import Derived.Test.YtkboipnfpcngcaaLkFree
namespace Go.Proofs.Ytkboipnfpcngcaa
open Go.RowKit Go.Maps Go.Cv
set_option linter.unusedVariables false

set_option maxHeartbeats 3200000 in
theorem free_any (w : World) (X : Nat → Prop) (b0 tb ob : Nat) (mb : Bs → Nat) (T : LkT) (h : Lk w X b0 tb ob mb T) (ok : LkOk T) (tx : ByteArray) (htx : tx.size ≤ maxLen) (hl : T.names.length ≤ 1000000) :
    Calls Try.prog 10 #[.pointer (some ⟨tb, 0, none⟩), .string tx] w fun e w' => e = .returned (.bool (decide (0 < (heldT T tx.data.toList).length))) ∧ Lk w' X b0 tb ob mb (freeT T tx.data.toList) ∧ LkOk (freeT T tx.data.toList) ∧ Fr (Own X b0) w w' := by
  have q1 := h.c
  have hh := held_any w X b0 tb ob mb T h ok tx htx hl
  have hnd := held_nodup ok tx.data.toList
  have hmem := fun s (hs : s ∈ heldT T tx.data.toList) => mem_held hs
  have hfr : freeT T tx.data.toList = (heldT T tx.data.toList).foldl (free1 tx.data.toList) T := rfl
  have hlen : (heldT T tx.data.toList).length ≤ 1000000 := by unfold heldT; exact Nat.le_trans (List.length_filter_le _ _) (by rw [(sortB_perm _).length_eq]; exact hl)
  obtain ⟨hs, hhs⟩ : ∃ hs, heldT T tx.data.toList = hs := ⟨_, rfl⟩
  rw [hhs] at hh hnd hmem hlen hfr
  rw [hhs, hfr]
  obtain ⟨n, hn⟩ : ∃ n, hs.length = n := ⟨_, rfl⟩
  rw [hn] at hh hlen
  rw [hn]
  have hn9 : (n : Int) ≤ 1000000 := by omega
  have HH := hide hh
  have HND := hide hnd
  have HMEM := hide hmem
  have HN := hide hn
  have HL := hide h
  have HOK := hide ok
  clear h ok hl hn hh hnd hmem hhs hfr
  go_enter Try.func10, Try.ntmps10
  go_wp2_with fail
  refine HH.out.mono ?_
  rintro e w1 ⟨v, rfl, ho, hf⟩
  have hrd := Reads.of_own ho
  obtain ⟨-, a, cp, rfl, -, -, hcell⟩ := hrd
  have HF := hide hf
  have HO := hide ho
  have HCELL := hide hcell
  have HL1 := hide (HL.out.fr0 hf)
  have hsep : ∀ b, w.heap.size ≤ b → ¬ (b = ob ∨ ∃ s ∈ T.names, b = mb s) := by
    rintro b hb (rfl | ⟨s, hs, rfl⟩)
    · exact absurd HL.out.out.lt (by omega)
    · exact absurd (HL.out.inn s hs).lt (by omega)
  have HSEP := hide hsep
  clear ho hf hcell hsep
  go_wp2_with fail
  go_loopw [13] (fun ii wr => ∃ k : Nat, ii = .int .i64 k ∧ k ≤ n ∧ Hid (Lk wr X b0 tb ob mb ((hs.take k).foldl (free1 tx.data.toList) T)) ∧ Fr (fun q => q = ob ∨ ∃ s ∈ T.names, q = mb s) w1 wr) (fun ii _ => n - (intOf ii).toNat)
  case atStart => exact ⟨0, rfl, Nat.zero_le _, HL1.out, Fr.refl _ _⟩
  case round =>
    obtain ⟨k, rfl, hk, HK, hf⟩ := hrel
    have HFk := hide hf
    clear hf
    by_cases hlt : k < n
    · have ik0 : (0 : Int) ≤ (k : Int) := by omega
      have ik1 : (k : Int) < (n : Int) := by omega
      obtain ⟨u, hu⟩ : ∃ u, hs[k]? = some u := ⟨_, List.getElem?_eq_getElem (by rw [HN.out]; exact hlt)⟩
      have hns := HSEP.out
      have ho2 := ownsRow_fr HO.out HFk.out (fun b hb => hns b (HO.out.lt b hb).1)
      have hrd := Reads.of_own ho2
      obtain ⟨-, a', cp', e', -, -, hcell⟩ := hrd
      cases e'
      obtain ⟨bs, os, rfl, e0⟩ := hcell k (encStr u) (by rw [List.getElem?_map, hu]; rfl)
      have e0 : wr.cell? ⟨bs, os + k, none⟩ = some (.string ⟨u.toArray⟩) := e0
      clear hcell ho2 hns
      obtain ⟨Tk, hTk⟩ : ∃ Tk, (hs.take k).foldl (free1 tx.data.toList) T = Tk := ⟨_, rfl⟩
      rw [hTk] at HK
      have hsub : ∀ s ∈ hs.take k, s ∈ hs := fun s h => List.mem_of_mem_take h
      have hmem := List.mem_of_getElem? hu
      have hnot : u ∉ hs.take k := fun hin => by
        obtain ⟨j, hj⟩ := List.mem_iff_getElem?.1 hin
        have hjk : j < k := by have := (List.getElem?_eq_some_iff.1 hj).1; simp at this; omega
        rw [List.getElem?_take_of_lt hjk] at hj
        have := (List.getElem?_inj (by have := HN.out; omega) HND.out).1 (hj.trans hu.symm)
        omega
      obtain ⟨o1, o2, o3⟩ := free_other (u := tx.data.toList) (x := u) (hs.take k) (T := T) hnot
      have hok := free_ok (u := tx.data.toList) (hs.take k) HOK.out (HND.out.sublist (List.take_sublist _ _)) (fun s h => (HMEM.out s (hsub s h)).1)
      rw [hTk] at o1 o2 o3 hok
      have hun : u ∈ Tk.names := o2.2 (HMEM.out u hmem).1
      have hut : tx.data.toList ∈ Tk.whos u := by rw [hok.hw, o3]; have := (HMEM.out u hmem).2; omega
      have hun0 : u ∈ T.names := (HMEM.out u hmem).1
      have hus := HOK.out.ns u hun0
      have q1 := HK.out.c
      have hlk := HK.out.look ⟨u.toArray⟩ hus
      rw [encStr_data, if_pos hun] at hlk
      obtain ⟨w2, hrun, hm2, ht2⟩ := (HK.out.inn u hun).drop lawS Try.underlying55 (keyS tx htx) 0
      have hL2 := HK.out.unheld hun (hok.wn u) hut hm2 ht2
      have q2 := hL2.c
      have hlk2 := hL2.look ⟨u.toArray⟩ hus
      rw [encStr_data, if_pos (show u ∈ (unholdT Tk u tx.data.toList).names from hun)] at hlk2
      have hin2 := hL2.inn u hun
      have hfl : (unholdT Tk u tx.data.toList).whos u = (Tk.whos u).filter (ne tx.data.toList) := if_pos rfl
      have hf2 : Fr (fun q => q = ob ∨ ∃ s ∈ T.names, q = mb s) w1 w2 := HFk.out.trans (Fr.turned ht2 (S := fun q => q = mb u) rfl) (fun q _ h => .inr ⟨u, hun0, h⟩)
      have hT1 : (hs.take (k + 1)).foldl (free1 tx.data.toList) T = free1 tx.data.toList Tk u := by
        rw [List.take_add_one, hu, List.foldl_append, hTk]; rfl
      have HT1 := hide hT1
      have HF2 := hide hf2
      have HL2 := hide hL2
      have HFL := hide hfl
      have HOK2 := hide hok
      have HUN := hide hun
      obtain ⟨m, hm⟩ : ∃ m, ((unholdT Tk u tx.data.toList).whos u).length = m := ⟨_, rfl⟩
      rw [hm] at hin2
      have HIN2 := hide hin2
      have HM := hide hm
      have HUS := hide hus
      clear hT1 hf2 hL2 hfl hok hun hin2 hm hsub hmem hnot o1 o2 o3 hut hus hun0 ht2 hm2 hTk hu
      have hlenr := HIN2.out.len Try.underlying55 3
      by_cases hm0 : m = 0
      · have hmi : ((m : Int) == 0) = true := by simp [hm0]
        have hnil : (Tk.whos u).filter (ne tx.data.toList) = [] := by rw [← HFL.out]; exact List.length_eq_zero_iff.1 (HM.out.trans hm0)
        have hf1 : free1 tx.data.toList Tk u = unnameT (unholdT Tk u tx.data.toList) u := if_pos hnil
        obtain ⟨w3, hrun3, hm3, ht3⟩ := HL2.out.out.drop lawS Try.underlying51 (keyS ⟨u.toArray⟩ HUS.out) 0
        have hrun3 : (Builtin.delete_ #[51, 9] 0 #[.map (some ob), encStr u]).run Try.prog w2 = .ok (.tuple #[]) w3 := hrun3
        have hL3 := HL2.out.unnamed HUN.out HOK2.out.nn hm3 ht3
        rw [← hf1, ← HT1.out] at hL3
        have HL3 := hide hL3
        have HF3 := hide (HF2.out.trans (Fr.turned ht3 (S := fun q => q = ob) rfl) (fun q _ h => .inl h))
        clear hm3 ht3 hL3 hf1 hnil
        go_wp2_with (first
          | (at_delete; refine wpList_delete_run _ rfl _ _ _ _ rfl _ _ rfl rfl _ hrun ?_; clear q1 hlk hrun)
          | (at_delete; refine wpList_delete_run _ rfl _ _ _ _ rfl _ _ rfl rfl _ hrun3 ?_))
        go_roundw
        case rel => exact ⟨k + 1, by go_num, by omega, HL3, HF3.out⟩
        case measure => simp [intOf]; omega
      · have hnil : (Tk.whos u).filter (ne tx.data.toList) ≠ [] := fun e => hm0 (by rw [← HM.out, HFL.out, e]; rfl)
        have hf1 : free1 tx.data.toList Tk u = unholdT Tk u tx.data.toList := if_neg hnil
        have hL3 := HL2.out
        rw [← hf1, ← HT1.out] at hL3
        have HL3 := hide hL3
        have hmi : ((m : Int) == 0) = false := by simp [hm0]
        clear hL3 hf1 hnil
        go_wp2_with (at_delete; refine wpList_delete_run _ rfl _ _ _ _ rfl _ _ rfl rfl _ hrun ?_; clear q1 hlk hrun)
        go_roundw
        case rel => exact ⟨k + 1, by go_num, by omega, HL3, HF2.out⟩
        case measure => simp [intOf]; omega
    · have ik1 : ¬ (k : Int) < (n : Int) := by omega
      have hkn : k = n := by omega
      have HKN := hide hkn
      clear hkn
      go_wp2_with fail
      go_ret
      have h1 : hs.take k = hs := List.take_of_length_le (by have := HN.out; have := HKN.out; omega)
      have h2 := HK
      rw [h1] at h2
      refine ⟨by simp, h2.out, free_ok hs HOK.out HND.out (fun s h => (HMEM.out s h).1), ?_⟩
      refine (HF.out.mono (fun _ _ h => h.elim)).trans HFk.out (fun q _ h => ?_)
      rcases h with rfl | ⟨s, hs, rfl⟩
      · exact ⟨HL.out.o0, HL.out.xo⟩
      · exact ⟨HL.out.m0 s hs, HL.out.xm s hs⟩
end Go.Proofs.Ytkboipnfpcngcaa
