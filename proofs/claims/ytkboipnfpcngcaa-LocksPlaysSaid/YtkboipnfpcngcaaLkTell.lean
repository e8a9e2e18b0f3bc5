/- Holders, Writer, Held of a table of locks. -/
import Derived.Test.YtkboipnfpcngcaaLkTake
import Derived.Test.YtkboipnfpcngcaaBytes
import Derived.Test.YtkboipnfpcngcaaKeysWho
import Derived.Test.YtkboipnfpcngcaaKeysName
namespace Go.Proofs.Ytkboipnfpcngcaa
open Go.RowKit Go.Maps Go.Cv
set_option linter.unusedVariables false

def sortB (l : List Bs) : List Bs := l.mergeSort leB
theorem sortB_perm (l : List Bs) : (sortB l).Perm l := List.mergeSort_perm l leB
theorem mem_sortB {l : List Bs} {x : Bs} : x ∈ sortB l ↔ x ∈ l := (sortB_perm l).mem_iff
theorem leB_total (x y : Bs) : (leB x y || leB y x) = true := by
  simp only [leB, Bool.or_eq_true, decide_eq_true_eq]; exact List.le_total x y
theorem leB_trans (x y z : Bs) (h1 : leB x y = true) (h2 : leB y z = true) : leB x z = true := by
  simp only [leB, decide_eq_true_eq] at *; exact List.le_trans h1 h2
theorem sortB_st (l : List Bs) : (sortB l).Pairwise (fun x y => leB x y = true) := List.pairwise_mergeSort (le := leB) leB_trans leB_total l
theorem keys_who (T : LkT) (ok : LkOk T) (s : Bs) : KeysS (innF T s) (sortB (T.whos s)) :=
  ⟨sortB_st _, (sortB_perm _).nodup_iff.2 (ok.wn s), fun x => by
    rw [mem_sortB]
    show _ ↔ (if x ∈ T.whos s then some (Value.int .i64 (T.how s x)) else none).isSome = true
    by_cases h : x ∈ T.whos s <;> simp [h]⟩
theorem keys_name (T : LkT) (ok : LkOk T) (mb : Bs → Nat) : KeysS (outF T mb) (sortB T.names) :=
  ⟨sortB_st _, (sortB_perm _).nodup_iff.2 ok.nn, fun x => by
    rw [mem_sortB]
    show _ ↔ (if x ∈ T.names then some (Value.map (some (mb x))) else none).isSome = true
    by_cases h : x ∈ T.names <;> simp [h]⟩

set_option maxHeartbeats 1600000 in
theorem holders_any (w : World) (X : Nat → Prop) (b0 tb ob : Nat) (mb : Bs → Nat) (T : LkT) (h : Lk w X b0 tb ob mb T) (ok : LkOk T) (c : ByteArray) (hc : c.size ≤ maxLen) (hl : (T.whos c.data.toList).length ≤ 1000000) :
    Calls Try.prog 11 #[.pointer (some ⟨tb, 0, none⟩), .string c] w fun e w' => ∃ v, e = .returned v ∧ w'.ownsRow w.heap.size 9 1 v (sortB (T.whos c.data.toList)).length ((sortB (T.whos c.data.toList)).map encStr) ∧ Fr (fun _ => False) w w' := by
  have q1 := h.c
  have hlk := h.look c hc
  by_cases hm : c.data.toList ∈ T.names
  · rw [if_pos hm] at hlk
    have hs := Try.sortedAnyWho w _ _ _ (h.inn _ hm).toF hl _ (keys_who T ok _)
    have HS := hide hs
    clear h ok hl hm hs
    go_enter Try.func11, Try.ntmps11
    go_wp2_with fail
    refine (Try.keysAnyWho w _).mono ?_
    rintro e w1 ⟨rfl, rfl⟩
    go_wp2_with fail
    refine HS.out.mono ?_
    rintro e w2 ⟨v, rfl, ho, hf⟩
    have HO := hide ho
    have HF := hide hf
    clear ho hf
    go_wp2_with fail
    go_ret
    exact ⟨v, rfl, ownsRow_low HO.out (by omega), HF.out⟩
  · rw [if_neg hm] at hlk
    have hw : T.whos c.data.toList = [] := Classical.byContradiction (fun e => hm ((ok.ne _).2 e))
    have hs := Try.sortedNilWho w
    rw [hw]
    have HS := hide hs
    clear h ok hl hm hs hw
    go_enter Try.func11, Try.ntmps11
    go_wp2_with fail
    refine (Try.keysAnyWho w _).mono ?_
    rintro e w1 ⟨rfl, rfl⟩
    go_wp2_with fail
    refine HS.out.mono ?_
    rintro e w2 ⟨v, rfl, ho, hf⟩
    have HO := hide ho
    have HF := hide hf
    clear ho hf
    go_wp2_with fail
    go_ret
    exact ⟨v, rfl, by have := ownsRow_low HO.out (base' := w.heap.size) (by omega); simpa [sortB] using this, HF.out⟩

def writerT (T : LkT) (c : Bs) : Option Bs := (sortB (T.whos c)).find? (fun u => decide (T.how c u = 2))
def wrV : Option Bs → Value
  | some u => .tuple #[encStr u, .bool true]
  | none => .tuple #[.string ⟨#[]⟩, .bool false]
theorem encStr_data (u : Bs) : (⟨u.toArray⟩ : ByteArray).data.toList = u := rfl

set_option maxHeartbeats 3200000 in
theorem writer_any (w : World) (X : Nat → Prop) (b0 tb ob : Nat) (mb : Bs → Nat) (T : LkT) (h : Lk w X b0 tb ob mb T) (ok : LkOk T) (c : ByteArray) (hc : c.size ≤ maxLen) (hl : (T.whos c.data.toList).length ≤ 1000000) :
    Calls Try.prog 16 #[.pointer (some ⟨tb, 0, none⟩), .string c] w fun e w' => e = .returned (wrV (writerT T c.data.toList)) ∧ Fr (fun _ => False) w w' := by
  have hh := holders_any w X b0 tb ob mb T h ok c hc hl
  have HH := hide hh
  have HL := hide h
  have HOK := hide ok
  have hlen : (sortB (T.whos c.data.toList)).length ≤ 1000000 := by rw [(sortB_perm _).length_eq]; exact hl
  obtain ⟨ks, hks⟩ : ∃ ks, sortB (T.whos c.data.toList) = ks := ⟨_, rfl⟩
  obtain ⟨n, hn⟩ : ∃ n, ks.length = n := ⟨_, rfl⟩
  rw [hks, hn] at hlen
  have hn9 : (n : Int) ≤ 1000000 := by omega
  have HKS := hide hks
  have HN := hide hn
  rw [hks, hn] at HH
  clear h ok hh hl hks hn
  go_enter Try.func16, Try.ntmps16
  go_wp2_with fail
  refine HH.out.mono ?_
  rintro e w1 ⟨v, rfl, ho, hf⟩
  have hrd := Reads.of_own ho
  obtain ⟨-, a, cp, rfl, -, -, hcell⟩ := hrd
  have HF := hide hf
  have HCELL := hide hcell
  have HL1 := hide (HL.out.fr0 hf)
  clear ho hf hcell
  go_wp2_with fail
  go_loopw [12] (fun ii wr => ∃ k : Nat, ii = .int .i64 k ∧ k ≤ n ∧ wr = w1 ∧ Hid (∀ (j : Nat) u, j < k → ks[j]? = some u → T.how c.data.toList u ≠ 2)) (fun ii _ => n - (intOf ii).toNat)
  case atStart => exact ⟨0, rfl, Nat.zero_le _, rfl, fun j u hj => absurd hj (Nat.not_lt_zero _)⟩
  case round =>
    obtain ⟨k, rfl, hk, rfl, HB⟩ := hrel
    by_cases hlt : k < n
    · have ik0 : (0 : Int) ≤ (k : Int) := by omega
      have ik1 : (k : Int) < (n : Int) := by omega
      obtain ⟨u, hu⟩ : ∃ u, ks[k]? = some u := ⟨_, List.getElem?_eq_getElem (by rw [HN.out]; exact hlt)⟩
      obtain ⟨bs, os, rfl, e0⟩ := HCELL.out k (encStr u) (by rw [List.getElem?_map, hu]; rfl)
      have e0 : wr.cell? ⟨bs, os + k, none⟩ = some (.string ⟨u.toArray⟩) := e0
      have hum : u ∈ T.whos c.data.toList := by have := List.mem_of_getElem? hu; rw [← HKS.out] at this; exact mem_sortB.1 this
      have hm : c.data.toList ∈ T.names := (HOK.out.ne _).2 (fun e => by rw [e] at hum; cases hum)
      have hlk := HL1.out.look c hc
      rw [if_pos hm] at hlk
      have hil := HL1.out.ilook HOK.out.hw _ hm ⟨u.toArray⟩ (HOK.out.ws _ u hum)
      rw [encStr_data] at hil
      obtain ⟨hw, hhw⟩ : ∃ hw, T.how c.data.toList u = hw := ⟨_, rfl⟩
      rw [hhw] at hil
      have q1 := HL1.out.c
      have HU := hide hu
      have HHW := hide hhw
      clear hu hum hm hhw
      by_cases h2 : hw = 2
      · subst h2
        have hwr : writerT T c.data.toList = some u := by
          unfold writerT
          rw [HKS.out, List.find?_eq_some_iff_getElem]
          obtain ⟨hk2, hku⟩ := List.getElem?_eq_some_iff.1 HU.out
          refine ⟨by simpa using HHW.out, k, hk2, hku, fun j hj => ?_⟩
          have := HB.out j ks[j] hj (List.getElem?_eq_getElem (by omega))
          simpa using this
        have HWR := hide hwr
        clear hwr
        go_wp2_with fail
        go_ret2
        exact ⟨by rw [HWR.out]; rfl, HF.out⟩
      · have h2b : (hw == 2) = false := by simp [h2]
        go_wp2_with fail
        go_roundw
        case rel =>
          refine ⟨k + 1, by go_num, by omega, trivial, fun j v hj hv => ?_⟩
          by_cases e : j < k
          · exact HB.out j v e hv
          · have : j = k := by omega
            subst this
            rw [HU.out] at hv; cases hv
            rw [HHW.out]; exact h2
        case measure => simp [intOf]; omega
    · have ik1 : ¬ (k : Int) < (n : Int) := by omega
      have hwr : writerT T c.data.toList = none := by
        unfold writerT
        rw [HKS.out, List.find?_eq_none]
        intro u hu
        obtain ⟨j, hj⟩ := List.mem_iff_getElem?.1 hu
        have := (List.getElem?_eq_some_iff.1 hj).1
        have := HB.out j u (by have := HN.out; omega) hj
        simpa using this
      have HWR := hide hwr
      clear hwr
      go_wp2_with fail
      go_ret2
      exact ⟨by rw [HWR.out]; rfl, HF.out⟩

def heldT (T : LkT) (tx : Bs) : List Bs := (sortB T.names).filter (fun s => decide (0 < T.how s tx))
theorem infoStr : (Try.prog.info? 9).map (fun i => (i.zero, i.size, i.bytes)) = some (some (Value.string ⟨#[]⟩), 1, 16) := by kernel_rfl
theorem sizeStr : (Value.string ⟨#[]⟩ : Value).cells.size = 1 := by simp [Value.cells]
set_option maxHeartbeats 3200000 in
theorem held_any (w : World) (X : Nat → Prop) (b0 tb ob : Nat) (mb : Bs → Nat) (T : LkT) (h : Lk w X b0 tb ob mb T) (ok : LkOk T) (tx : ByteArray) (htx : tx.size ≤ maxLen) (hl : T.names.length ≤ 1000000) :
    Calls Try.prog 14 #[.pointer (some ⟨tb, 0, none⟩), .string tx] w fun e w' => ∃ v, e = .returned v ∧ w'.ownsRow w.heap.size 9 1 v (heldT T tx.data.toList).length ((heldT T tx.data.toList).map encStr) ∧ Fr (fun _ => False) w w' := by
  obtain ⟨i0, hi0, hz0, hz1, hz2⟩ := info_parts infoStr
  have q1 := h.c
  have hs := Try.sortedAnyName w ob _ _ h.out.toF hl _ (keys_name T ok mb)
  obtain ⟨ks, hks⟩ : ∃ ks, sortB T.names = ks := ⟨_, rfl⟩
  obtain ⟨n, hn⟩ : ∃ n, ks.length = n := ⟨_, rfl⟩
  have hlen : n ≤ 1000000 := by rw [← hn, ← hks, (sortB_perm _).length_eq]; exact hl
  rw [hks, hn] at hs
  obtain ⟨N, hN⟩ : ∃ N, w.heap.size = N := ⟨_, rfl⟩
  have hn9 : (n : Int) ≤ 1000000 := by omega
  have hfin : heldT T tx.data.toList = ks.filter (fun s => decide (0 < T.how s tx.data.toList)) := by unfold heldT; rw [hks]
  have HFIN := hide hfin
  have HKS := hide hks
  have HN := hide hn
  have HS := hide hs
  have HL := hide h
  have HOK := hide ok
  have HNN := hide hN
  clear h ok hs hl hks hn hN hfin
  go_enter Try.func14, Try.ntmps14
  go_wp2_with fail
  refine (Try.keysAnyName w _).mono ?_
  rintro e w1 ⟨rfl, rfl⟩
  go_wp2_with fail
  refine HS.out.mono ?_
  rintro e w1 ⟨v, rfl, ho, hf⟩
  have hrd := Reads.of_own ho
  obtain ⟨-, a, cp, rfl, -, -, hcell⟩ := hrd
  have HF := hide hf
  have HCELL := hide hcell
  have HL1 := hide (HL.out.fr0 hf)
  obtain ⟨N1, hN1⟩ : ∃ N1, w1.heap.size = N1 := ⟨_, rfl⟩
  have HN1 := hide hN1
  clear ho hf hcell q1 hN1
  go_wp2_with fail
  go_loopw [5, 15] (fun v5 ii wr => ∃ k : Nat, ii = .int .i64 k ∧ k ≤ n ∧ Fr (fun _ => False) w1 wr ∧ wr.ownsRow N1 9 1 v5 ((ks.take k).filter (fun s => decide (0 < T.how s tx.data.toList))).length (((ks.take k).filter (fun s => decide (0 < T.how s tx.data.toList))).map encStr)) (fun _ ii _ => n - (intOf ii).toNat)
  case atStart => exact ⟨0, rfl, Nat.zero_le _, Fr.refl _ _, World.ownsRow_nil _ _ _ _⟩
  case round =>
    obtain ⟨k, rfl, hk, hf, hown⟩ := hrel
    obtain ⟨F, hF⟩ : ∃ F, (ks.take k).filter (fun s => decide (0 < T.how s tx.data.toList)) = F := ⟨_, rfl⟩
    have hFl : F.length ≤ k := by rw [← hF]; exact Nat.le_trans (List.length_filter_le _ _) (List.length_take_le _ _)
    rw [hF] at hown
    obtain ⟨fl, hfl⟩ : ∃ fl, F.length = fl := ⟨_, rfl⟩
    rw [hfl] at hown hFl
    obtain ⟨a5, c5, rfl⟩ := own_shape hown
    have HO := hide hown
    have HFk := hide hf
    have HFF := hide hF
    have HFL := hide hfl
    clear hown hf hF hfl
    by_cases hlt : k < n
    · have ik0 : (0 : Int) ≤ (k : Int) := by omega
      have ik1 : (k : Int) < (n : Int) := by omega
      obtain ⟨u, hu⟩ : ∃ u, ks[k]? = some u := ⟨_, List.getElem?_eq_getElem (by rw [HN.out]; exact hlt)⟩
      obtain ⟨bs, os, rfl, e0⟩ := HCELL.out k (encStr u) (by rw [List.getElem?_map, hu]; rfl)
      have e0 : wr.cell? ⟨bs, os + k, none⟩ = some (.string ⟨u.toArray⟩) := cell_fr0 HFk.out e0
      have hum : u ∈ T.names := by have := List.mem_of_getElem? hu; rw [← HKS.out] at this; exact mem_sortB.1 this
      have hl2 := HL1.out.fr0 HFk.out
      have hlk := hl2.look ⟨u.toArray⟩ (HOK.out.ns _ hum)
      rw [encStr_data, if_pos hum] at hlk
      have hil := hl2.ilook HOK.out.hw _ hum tx htx
      have htk : (ks.take (k + 1)).filter (fun s => decide (0 < T.how s tx.data.toList)) = F ++ (if 0 < T.how u tx.data.toList then [u] else []) := by
        rw [List.take_add_one, hu, List.filter_append, HFF.out]
        show F ++ List.filter _ [u] = _
        by_cases hp : 0 < T.how u tx.data.toList <;> simp [hp]
      obtain ⟨hw, hhw⟩ : ∃ hw, T.how u tx.data.toList = hw := ⟨_, rfl⟩
      rw [hhw] at hil htk
      have q1 := hl2.c
      have HTK := hide htk
      clear hu hum hhw htk hl2
      by_cases h2 : 0 < hw
      · have b1 : fl + 1 ≤ maxLen := by unfold maxLen; omega
        have b2 : (fl + 1) * 16 ≤ 140737488355328 := by omega
        have hal : Fr (fun _ => False) wr (wr.alloc (.cells #[.string ⟨u.toArray⟩] 9)) := Fr.alloc _ _ _
        have HO3 := hide (ownsRow_fr HO.out hal (fun _ _ => id))
        have HR3 := hide (Reads.built wr [.string ⟨u.toArray⟩] 9 : Reads (wr.alloc (.cells #[.string ⟨u.toArray⟩] 9)) (.slice (some ⟨wr.heap.size, 0, none⟩) 1 1) 1 1 [.string ⟨u.toArray⟩])
        have b3 : N1 ≤ (wr.alloc (.cells #[.string ⟨u.toArray⟩] 9)).heap.size := by have := (HFk.out.trans hal (fun _ _ h => h)).size; have := HN1.out; omega
        clear hal
        go_wp2_with (at_builtin; refine wpList_append_reads _ rfl _ _ _ rfl N1 9 i0 _ 1 16 Try.underlying30 hi0 hz0 hz1 hz2 sizeStr (by decide) _ fl _ rfl HO3.out _ 1 [.string ⟨u.toArray⟩] rfl HR3.out (by intro u hu; simp at hu; subst hu; rfl) b1 b2 b3 ?_; intro v3 w3 hown3 hgrow hat; have HO4 := hide hown3; have HG4 := hide hgrow; clear hown3 hgrow hat)
        go_roundw
        case rel =>
          refine ⟨k + 1, by go_num, by omega, ?_, ?_⟩
          · exact (HFk.out.trans (Fr.alloc (fun _ => False) _ _) (fun _ _ h => h)).trans (Fr.grown (S := fun k => N1 ≤ k) HG4.out (fun b hb => (HO3.out.lt b hb).1)) (fun b hb hN => by have := HN1.out; omega)
          · rw [HTK.out, if_pos h2, List.length_append, HFL.out, List.map_append]; exact HO4.out
        case measure => simp [intOf]; omega
      · have h2' : hw ≤ 0 := by omega
        go_wp2_with fail
        go_roundw
        case rel =>
          refine ⟨k + 1, by go_num, by omega, HFk.out, ?_⟩
          rw [HTK.out, if_neg h2, List.append_nil, HFL.out]; exact HO.out
        case measure => simp [intOf]; omega
    · have ik1 : ¬ (k : Int) < (n : Int) := by omega
      have hfe : heldT T tx.data.toList = F := by rw [HFIN.out, ← HFF.out, List.take_of_length_le (by rw [HN.out]; omega)]
      have HFE := hide hfe
      clear hfe
      go_wp2_with fail
      go_ret
      exact ⟨_, rfl, by rw [HFE.out, HFL.out]; exact ownsRow_low HO.out (by have := HF.out.size; have := HN1.out; omega), HF.out.trans HFk.out (fun _ _ h => h)⟩
end Go.Proofs.Ytkboipnfpcngcaa
