/- Groups and Left of a transaction; slices.DeleteFunc over the shelf's contract. -/
import Derived.Test.YtehneddmamnmiaaTxGood
import Derived.Test.YtehneddmamnmiaaDelInt
namespace Go.Proofs.Ytehneddmamnmiaa
open Go.RowKit Go.Maps Go.Cv Go.Sort
set_option linter.unusedVariables false

theorem groups_any (w : World) (X : Nat → Prop) (b0 tb : Nat) (r : TxR) (h : TX w X b0 tb r) (hS : r.S.length ≤ 3) :
    Calls Try.prog 29 #[.pointer (some ⟨tb, 0, none⟩)] w fun e w' => ∃ v, e = .returned v ∧ w'.ownsRow w.heap.size 3 1 v (grp r).length (ints (grp r)) ∧ Fr (fun _ => False) w w' := by
  obtain ⟨B, vb, kb, vo, vp, vg, va, vs, vals, h⟩ := h
  have c4 : w.cell? ⟨tb, 4, none⟩ = some vg := h.c 4
  have hC := cloneInt_any w vg (grp r).length (ints (grp r)) h.groups (by intro u hu; obtain ⟨q, _, rfl⟩ := List.mem_map.1 hu; rfl) (by unfold grp; rw [List.length_map]; omega)
  have HC := hide hC
  clear h hC
  go_enter Try.func29, Try.ntmps29
  go_wp2_with fail
  refine HC.out.mono ?_
  rintro e w1 ⟨v, rfl, ho, hf⟩
  go_wp2_with fail
  go_ret
  exact ⟨v, rfl, ho, hf⟩

/-- Has a group acked? -/
def ackB (r : TxR) (g : Int) : Bool := decide (g ∈ r.K)
theorem left1_any (w : World) (bx : Nat) (X : Nat → Prop) (b0 tb : Nat) (r : TxR) (h : TX w X b0 tb r) (hb : w.cell? ⟨bx, 0, none⟩ = some (.pointer (some ⟨tb, 0, none⟩))) (g : Int) (hg : (Lit.int .i64 g).wf = true) :
    Calls Try.prog 44 #[.int .i64 g, .pointer (some ⟨bx, 0, none⟩)] w fun e w' => e = .returned (.bool (ackB r g)) ∧ ∃ q, w' = w.drewN q := by
  obtain ⟨B, vb, kb, vo, vp, vg, va, vs, vals, h⟩ := h
  have c7 : w.cell? ⟨tb, 7, none⟩ = some (.map (some kb)) := h.c 7
  have hkey : keyOf Try.prog 3 (.int .i64 g) = some (.int .i64 g) := keyOf_int_mk Try.underlying3 hg
  have hz : (zeroValue 3).run Try.prog w = .ok (.int .i64 0) w := by kernel_rfl
  have hlk := h.ak.toF.run law Try.underlying83 hz hkey
  clear h
  unfold ackB
  by_cases hm : g ∈ r.K
  · have e : (setF r.K (.int .i64 g)).getD (.int .i64 0) = .int .i64 1 := by simp [setF, hm]
    rw [e] at hlk
    rw [decide_eq_true hm]
    clear hm e hz
    go_enter Try.func44, Try.ntmps44
    go_wp2_with fail
    go_ret
    exact ⟨rfl, 0, rfl⟩
  · have e : (setF r.K (.int .i64 g)).getD (.int .i64 0) = .int .i64 0 := by simp [setF, hm]
    rw [e] at hlk
    rw [decide_eq_false hm]
    clear hm e hz
    go_enter Try.func44, Try.ntmps44
    go_wp2_with fail
    go_ret
    exact ⟨rfl, 0, rfl⟩

abbrev I64 := { x : Int // -9223372036854775808 ≤ x ∧ x ≤ 9223372036854775807 }
instance : Inhabited I64 := ⟨⟨0, by omega⟩⟩
def encI (x : I64) : Value := .int .i64 x.1
theorem wfI (x : I64) : (Lit.int .i64 x.1).wf = true := by
  have := x.2; simp [Lit.wf, IntKind.min, IntKind.max, IntKind.signed, IntKind.bits]; omega

theorem toI : ∀ (L : List Int), (∀ x ∈ L, -9223372036854775808 ≤ x ∧ x ≤ 9223372036854775807) → ∃ d : List I64, d.map (·.1) = L
  | [], _ => ⟨[], rfl⟩
  | x :: t, h => by
    obtain ⟨d, hd⟩ := toI t (fun y hy => h y (List.mem_cons_of_mem _ hy))
    exact ⟨⟨x, h x List.mem_cons_self⟩ :: d, by simp [hd]⟩

theorem fr_sort (w : World) (blk off n : Nat) (dk : Array I64) (os : Array Obj) : Fr (fun k => k = blk) w (sortWorld encI w blk off n dk os) := by
  unfold sortWorld
  refine ⟨rfl, rfl, rfl, ?_, fun k hk hne => ?_⟩
  · show w.heap.size ≤ ((putRow encI (Sort.ahead w n) blk off dk).heap ++ os).size
    rw [Array.size_append, size_putRow]; exact Nat.le_add_right _ _
  · rw [Sort.heap_grow_old _ os (by rw [size_putRow]; exact hk)]
    simp only [putRow, mapBlock, Array.getElem?_modify]
    rw [if_neg (fun e => hne e.symm)]; rfl

set_option maxRecDepth 100000 in
theorem delAny (w : World) (K : FuncId) (cv : Array Value) (eg : ∀ args w, (callFunc K args).run Try.prog w = .ok (.enter K args) w) (dec : Int → Bool) (blk : Nat) (hclos : ∀ (W : World) (x : I64), Fr (fun k => k = blk) w W → FnGives Try.prog K cv #[encI x] (.bool (dec x.1)) W)
    (base : Nat) (L : List Int) (hL : ∀ x ∈ L, -9223372036854775808 ≤ x ∧ x ≤ 9223372036854775807) (hl : L.length ≤ 1000000000) (cap : Nat) (hbase : blk < w.heap.size → base ≤ w.heap.size) (ho : w.ownsRow base 3 1 (.slice (some ⟨blk, 0, none⟩) L.length cap) L.length (L.map (Value.int .i64))) :
    Calls Try.prog 43 #[.slice (some ⟨blk, 0, none⟩) L.length cap, .func (.func K) #[] cv] w fun e w' => e = .returned (.slice (some ⟨blk, 0, none⟩) (L.filter fun x => !dec x).length cap) ∧ Reads w' (.slice (some ⟨blk, 0, none⟩) (L.filter fun x => !dec x).length cap) (L.filter fun x => !dec x).length 1 ((L.filter fun x => !dec x).map (.int .i64)) ∧ Fr (fun k => k = blk) w w' := by
  obtain ⟨dl, hdl⟩ := toI L hL
  have hlen : dl.length = L.length := by rw [← hdl]; simp
  have hbl := (ho.lt blk rfl)
  have hcapl : L.length ≤ cap := by
    rcases ho.2 with ⟨e, _⟩ | ⟨g, cap', cs, e, _, _, hnc, _⟩
    · cases e
    · cases e; exact hnc
  have hfz : ∀ j, w.frozen? ⟨blk, j, none⟩ = false := fun j => by
    rcases ho.2 with ⟨e, _⟩ | ⟨g, cap', cs, e, _, hg, _⟩
    · cases e
    · cases e; exact free_of_block hg
  have hH : Holds encI w blk 0 dl.toArray := fun j hj => by
    have hj' : j < dl.length := by simpa using hj
    refine ⟨?_, by rw [Nat.zero_add]; exact hfz j⟩
    have hc := ho.cells (g := blk) rfl j (.int .i64 (dl[j]).1) (by rw [← hdl]; simp [hj'])
    rw [addr_add] at hc
    rw [hc]
    simp [encI, hj']
  have hcon := AnyE.slices_DeleteFunc Try.delI encI (fun _ => rfl) (fun x : I64 => dec x.1) K cv eg default (fun w => Try.zeroValue3 w) blk 0 cap dl.toArray w
    (fun W x hbw => hclos W x ((Fr.below hbw).mono (fun k hk hge => by omega))) (fun q os dk x _ => hclos _ x (fr_sort w blk 0 q dk os)) hH (by simp; omega) (by simp; omega)
  have hsz : dl.toArray.size = L.length := by simpa using hlen
  rw [hsz] at hcon
  change Calls Try.prog 43 _ _ _ at hcon
  refine hcon.mono ?_
  rintro e w' ⟨rfl, q, rfl⟩
  have hfl : (dl.filter fun x => !dec x.1).length = (L.filter fun x => !dec x).length := by rw [← hdl, List.filter_map, List.length_map]; rfl
  have hfl2 : (dl.filter fun x => !dec x.1).map (fun x : I64 => x.1) = L.filter fun x => !dec x := by rw [← hdl, List.filter_map]; rfl
  have hle : (dl.filter fun x => !dec x.1).length ≤ dl.length := List.length_filter_le _ _
  refine ⟨by simp only [hfl], ⟨by simp, _, _, rfl, (by intro h; cases h), by have := List.length_filter_le (fun x => !dec x) L; omega, fun i u hu => ⟨blk, 0, rfl, ?_⟩⟩, ?_⟩
  · rw [← hfl2] at hu
    simp only [List.getElem?_map, Option.map_eq_some_iff] at hu
    obtain ⟨y, ⟨z, hz, rfl⟩, rfl⟩ := hu
    have hi : i < (dl.filter fun x => !dec x.1).length := (List.getElem?_eq_some_iff.1 hz).1
    have hc := cell?_putRow encI (Sort.ahead w q) blk 0 dl.toArray (List.append (dl.filter fun x : I64 => !dec x.1) (List.replicate (dl.length - (dl.filter fun x : I64 => !dec x.1).length) (default : I64))).toArray (holds_ahead encI w q blk 0 _ hH) (by simp; omega) i (by simp; omega)
    have hd : dl.toArray.toList = dl := rfl
    rw [hd]
    have he : (List.append (dl.filter fun x : I64 => !dec x.1) (List.replicate (dl.length - (dl.filter fun x : I64 => !dec x.1).length) (default : I64))).toArray[i]! = z := by
      rw [getElem!_pos _ _ (by simp; omega)]
      have := (List.getElem?_eq_some_iff.1 hz).2
      simp only [List.getElem_toArray, List.append_eq]
      rw [List.getElem_append_left hi]; exact this
    rw [he] at hc
    rw [← hlen]
    exact hc
  refine ⟨rfl, rfl, rfl, by rw [size_putRow]; exact Nat.le_refl _, fun k hk hne2 => ?_⟩
  simp only [putRow, mapBlock, Array.getElem?_modify]
  rw [if_neg (fun e => hne2 e.symm)]; rfl

theorem ixNil (w : World) (f : Value) : Calls Try.prog 70 #[.slice none 0 0, f] w fun e w' => e = .returned (.int .i64 (-1)) ∧ w' = w := by
  go_enter Try.func70, Try.ntmps70
  go_wp2_with fail
  go_loopw [8] (fun i wr => i = .int .i64 0 ∧ wr = w) (fun _ _ => 0)
  case atStart => exact ⟨rfl, rfl⟩
  case round =>
    obtain ⟨rfl, rfl⟩ := hrel
    go_wp2_with fail
    go_ret
    exact ⟨rfl, rfl⟩
theorem delNil (w : World) (f : Value) : Calls Try.prog 43 #[.slice none 0 0, f] w fun e w' => e = .returned (.slice none 0 0) ∧ w' = w := by
  go_enter Try.func43, Try.ntmps43
  go_wp2_with fail
  refine (ixNil w f).mono ?_
  rintro e w' ⟨rfl, rfl⟩
  go_wp2_with fail
  go_ret
  exact ⟨rfl, rfl⟩

def leftL (r : TxR) : List Int := (grp r).filter (fun x => !ackB r x)
set_option maxRecDepth 100000 in
theorem left_any (w : World) (X : Nat → Prop) (b0 tb : Nat) (r : TxR) (h : TX w X b0 tb r) (hg : Good r) :
    Calls Try.prog 21 #[.pointer (some ⟨tb, 0, none⟩)] w fun e w' => ∃ v, e = .returned v ∧ Reads w' v (leftL r).length 1 (ints (leftL r)) ∧ Fr (fun _ => False) w w' ∧ ∀ b, foot v = some b → w.heap.size ≤ b ∧ b < w'.heap.size := by
  obtain ⟨bx, hbx⟩ : ∃ bx, w.heap.size = bx := ⟨_, rfl⟩
  obtain ⟨w1, hw1⟩ : ∃ w1, w.alloc (.cells #[.pointer (some ⟨tb, 0, none⟩)] 34) = w1 := ⟨_, rfl⟩
  have hf1 : Fr (fun _ => False) w w1 := by rw [← hw1]; exact Fr.alloc _ _ _
  have hb1 : w1.heap[bx]? = some (.cells #[.pointer (some ⟨tb, 0, none⟩)] 34 (0, 0)) := by rw [← hw1, ← hbx]; exact block_alloc _ _
  have c0 : w1.cell? ⟨bx, 0, none⟩ = some (.pointer (some ⟨tb, 0, none⟩)) := by rw [cell_of_block hb1]; rfl
  have hG := groups_any w1 X b0 tb r (h.fr0 hf1) hg.sl
  have HG := hide hG
  have HH := hide h
  have HF1 := hide hf1
  have HW1 := hide hw1
  have HB1 := hide hb1
  have HBX := hide hbx
  have HGOOD := hide hg
  clear h hg hG hf1 hw1 hb1 hbx
  go_enter Try.func21, Try.ntmps21
  go_upto_region 1 with fail
  rw [HW1.out, HBX.out]
  go_wp2_with fail
  refine HG.out.mono ?_
  rintro e w2 ⟨v, rfl, ho, hf2⟩
  have HF2 := hide hf2
  have HO := hide ho
  have hnil : v = .slice none 0 0 ∧ grp (r) = [] ∨ ∃ blk cap, v = .slice (some ⟨blk, 0, none⟩) (grp r).length cap := by
    rcases ho.2 with ⟨e1, e2⟩ | ⟨g, cap, cs, e, _⟩
    · exact .inl ⟨e1, List.eq_nil_of_length_eq_zero e2⟩
    · exact .inr ⟨g, cap, e⟩
  clear ho hf2 c0
  rcases hnil with ⟨rfl, hn⟩ | ⟨blk, cap, rfl⟩
  · have hl : leftL r = [] := by unfold leftL; rw [hn]; rfl
    have HL := hide hl
    clear hl hn
    go_wp2_with fail
    refine (delNil w2 _).mono ?_
    rintro e w3 ⟨rfl, rfl⟩
    go_wp2_with fail
    go_ret
    exact ⟨_, rfl, by rw [HL.out]; exact Reads.nil _ _, HF1.out.trans HF2.out (fun _ _ h => h), by intro b hb; cases hb⟩
  · have hlt := HO.out.lt blk rfl
    have hbl1 := lt_of_block HB1.out
    have hdel := delAny w2 44 #[.pointer (some ⟨bx, 0, none⟩)] (enters_of Try.func44 (by kernel_rfl) rfl) (ackB r) blk (fun W x hf => by
        have hfw : Fr (fun k => ¬ k < w.heap.size) w W := ((HF1.out.trans HF2.out (fun _ _ h => h)).mono (S' := fun k => ¬ k < w.heap.size) (fun _ _ h => h.elim)).trans hf (fun k hk e => by have := HF1.out.size; omega)
        have ht : TX W X b0 tb r := HH.out.fr hfw (fun k hk h => absurd hk h)
        have hcx : W.cell? ⟨bx, 0, none⟩ = some (.pointer (some ⟨tb, 0, none⟩)) := by
          rw [cell_of_block ((hf.block bx (Nat.lt_of_lt_of_le hbl1 HF2.out.size) (by omega)).trans ((HF2.out.block bx hbl1 id).trans HB1.out))]; rfl
        exact left1_any W bx X b0 tb r ht hcx x.1 (wfI x)) w1.heap.size (grp r) (fun x hx => by have := HGOOD.out.gr x hx; omega) (by have := HGOOD.out.sl; unfold grp; rw [List.length_map]; omega) cap (fun _ => HF2.out.size) HO.out
    have HDEL := hide hdel
    clear hdel
    generalize (grp r).length = Ln at *
    go_wp2_with fail
    refine HDEL.out.mono ?_
    rintro e w3 ⟨rfl, hr3, hf3⟩
    go_wp2_with fail
    go_ret
    exact ⟨_, rfl, hr3, (HF1.out.trans HF2.out (fun _ _ h => h)).trans hf3 (fun k hk e => by have := HF1.out.size; omega), fun b hb => by cases hb; exact ⟨Nat.le_trans HF1.out.size hlt.1, Nat.lt_of_lt_of_le hlt.2 hf3.size⟩⟩
end Go.Proofs.Ytehneddmamnmiaa
