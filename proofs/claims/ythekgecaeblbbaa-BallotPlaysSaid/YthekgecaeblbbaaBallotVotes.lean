/- Votes and Prepare of ballot. -/
import Derived.Test.YthekgecaeblbbaaBallot
import Derived.Test.YthekgecaeblbbaaKeysVote
namespace Go.Proofs.Ythekgecaeblbbaa
open Go.RowKit Go.Maps Go.Cv
set_option linter.unusedVariables false

def fromV (l : List Vt) (s : Int) : List Vt := l.filter (fun x => decide (s ≤ x.1))
theorem vcells_len (x : Vt) : (vcells x).length = 4 := rfl
def rowV (l : List Vt) : List Value := l.flatMap vcells
theorem rowV_len (l : List Vt) : (rowV l).length = l.length * 4 := flat_len vcells 4 vcells_len l
theorem vone (x : Vt) : ∀ u ∈ vcells x, u.oneCell' = true := by
  intro u hu
  simp only [vcells, List.mem_cons, List.not_mem_nil, or_false] at hu
  rcases hu with rfl | rfl | rfl | rfl <;> rfl
theorem infoVote : (Try.prog.info? 40).map (fun i => (i.zero, i.size, i.bytes)) = some (some (.agg #[.int .i64 0, .int .i64 0, .int .i64 0, .string ⟨#[]⟩]), 4, 40) := by kernel_rfl
theorem voteZero_size : (Value.agg #[.int .i64 0, .int .i64 0, .int .i64 0, .string ⟨#[]⟩]).cells.size = 4 := by simp [Value.cells]
theorem zeroV (w : World) : (zeroValue 40).run Try.prog w = .ok (.agg #[.int .i64 0, .int .i64 0, .int .i64 0, .string ⟨#[]⟩]) w := by kernel_rfl

theorem at_of_mem {l : List Vt} (h : Sorted l) {k : Nat} {x : Vt} (hx : l[k]? = some x) : at_ l x.1 = some x := by
  unfold at_
  induction l generalizing k with
  | nil => simp at hx
  | cons y t ih =>
    rw [List.find?_cons]
    cases k with
    | zero => simp at hx; subst hx; simp
    | succ k =>
      have h1 := List.pairwise_cons.1 h
      have hm : x ∈ t := List.mem_of_getElem? (by simpa using hx)
      have := h1.1 x hm
      have e : decide (y.1 = x.1) = false := by simp; omega
      rw [e]; exact ih h1.2 (by simpa using hx)
theorem keys_of {l : List Vt} (h : Sorted l) : KeysI (vm l) (l.map (·.1)) where
  st := List.pairwise_map.2 h
  mem x := by
    simp only [vm, Option.isSome_map, List.mem_map]
    constructor
    · rintro ⟨y, hy, rfl⟩
      obtain ⟨k, hk⟩ := List.mem_iff_getElem?.1 hy
      rw [at_of_mem h hk]; rfl
    · intro hs
      obtain ⟨y, hy⟩ := Option.isSome_iff_exists.1 hs
      unfold at_ at hy
      have := List.find?_some hy
      exact ⟨y, List.mem_of_find?_eq_some hy, by simpa using this⟩

set_option maxRecDepth 100000 in
set_option maxHeartbeats 1600000 in
theorem votes_any (w : World) (ab mb n : Nat) (p : Bt) (l : List Vt) (h : Ac w ab mb n p l) (hn : n ≤ 1000000) (s : Int) :
    Calls Try.prog 14 #[.pointer (some ⟨ab, 0, none⟩), .int .i64 s] w fun e w' => ∃ v', e = .returned v' ∧ w'.ownsRow w.heap.size 40 4 v' (fromV l s).length (rowV (fromV l s)) ∧ Fr (fun _ => False) w w' := by
  obtain ⟨i0, hi0, hz0, hz1, hz2⟩ := info_parts infoVote
  have hab := lt_of_block h.blk
  have hmb := h.map.lt
  have hcl : ∀ wx, Fr (fun _ => False) w wx → wx.cell? ⟨ab, 2, none⟩ = some (.map (some mb)) := fun wx hf => by rw [cell_of_block (h.fr0 hf).blk]; rfl
  have c2 := hcl w (Fr.refl _ _)
  have hS := Try.sortedAnyVote w mb n (vm l) h.map hn (l.map (·.1)) (keys_of h.st)
  rw [List.length_map] at hS
  obtain ⟨m, hm⟩ : ∃ m, l.length = m := ⟨_, rfl⟩
  rw [hm] at hS
  have hm5 : m ≤ 512 := by
    have h1 : ∀ l : List Vt, ∀ b : Int, Sorted l → (∀ x ∈ l, b ≤ x.1 ∧ x.1 < 512) → (l.length : Int) ≤ max (512 - b) 0 := by
      intro l
      induction l with
      | nil => intro b _ _; simp; omega
      | cons y t ih =>
        intro b hs hb
        have h2 := List.pairwise_cons.1 hs
        have h3 := hb y List.mem_cons_self
        have h4 := ih (y.1 + 1) h2.2 (fun x hx => ⟨by have := h2.1 x hx; omega, (hb x (List.mem_cons_of_mem _ hx)).2⟩)
        simp only [List.length_cons]; omega
    have := h1 l 0 h.st h.sl
    omega
  have HS := hide hS
  have HCL := hide hcl
  have HA := hide h
  have HM := hide hm
  have HK := hide (fun w mb => Try.keysAnyVote w mb)
  clear hS hcl h hm
  go_enter Try.func14, Try.ntmps14
  go_wp2_with fail
  refine (HK.out w (some mb)).mono ?_
  rintro e w1 ⟨rfl, rfl⟩
  go_wp2_with fail
  refine HS.out.mono ?_
  rintro e w2 ⟨v, rfl, ho, hf⟩
  have hr := Reads.of_own ho
  obtain ⟨a, cp, rfl⟩ := own_shape ho
  have e2 := HCL.out w2 hf
  have hs2 := hf.size
  have HR := hide hr
  have HF := hide hf
  clear hr ho hf
  go_wp2_with fail
  go_loopw [5, 15] (fun o i wr => ∃ (k q c' : Nat) (a' : Option Addr), i = .int .i64 k ∧ k ≤ m ∧ o = .slice a' q c' ∧ q = (fromV (l.take k) s).length ∧ q ≤ k ∧ wr.ownsRow w2.heap.size 40 4 (.slice a' q c') q (rowV (fromV (l.take k) s)) ∧ Fr (fun j => w2.heap.size ≤ j) w2 wr)
    (fun _ i _ => m - (intOf i).toNat)
  case atStart => exact ⟨0, 0, 0, none, rfl, by omega, rfl, rfl, by omega, World.ownsRow_nil _ _ _ _, Fr.refl _ _⟩
  case round =>
    obtain ⟨k, q, c', a', rfl, hk, rfl, hq, hqk, ho, hf⟩ := hrel
    have HQ := hide hq
    have HO := hide ho
    have HG := hide hf
    clear hq ho hf
    by_cases hlt : k < m
    · obtain ⟨x, hx⟩ : ∃ x, l[k]? = some x := ⟨_, List.getElem?_eq_getElem (by have := HM.out; omega)⟩
      obtain ⟨_, a4, c4, e4, _, _, hc4⟩ := HR.out
      cases e4
      obtain ⟨b5, o5, rfl, e5⟩ := hc4 k (.int .i64 x.1) (by rw [List.getElem?_map, List.getElem?_map, hx]; rfl)
      have hb5 := World.block_lt_of_cell? w2 _ e5
      have e6 : wr.cell? ⟨b5, o5 + k, none⟩ = some (.int .i64 x.1) := by
        rw [World.cell?_of_block (w := w2) (HG.out.block b5 hb5 (by simp at hb5 ⊢; omega))]; exact e5
      have hfw : Fr (fun _ => False) w wr := (HF.out.trans HG.out (fun k hk h => by omega)).mono (fun k hk h => by omega)
      have e7 := HCL.out wr hfw
      have hkx := HA.out.sl x (List.mem_of_getElem? hx)
      have hkey : keyOf Try.prog 3 (.int .i64 x.1) = some (.int .i64 x.1) := keyOf_int_mk Try.underlying3 (WalkArith.wf_i64 (by omega))
      have hlook : (Instr.lookup 57 (.map (some mb)) (.int .i64 x.1) false).run Try.prog wr = .ok (vval x) wr := by
        have := ((HA.out.fr0 hfw).map).run law Try.underlying57 (zeroV wr) hkey
        rw [this]; simp [vm, at_of_mem HA.out.st hx]
      have hts : l.take (k + 1) = l.take k ++ [x] := by rw [List.take_add_one, hx]; rfl
      have hf1 : fromV (l.take (k + 1)) s = fromV (l.take k) s ++ (if s ≤ x.1 then [x] else []) := by
        rw [hts, fromV, List.filter_append]; congr 1
        by_cases h : s ≤ x.1 <;> simp [h]
      have HF1 := hide hf1
      have ik1 : (k : Int) < (m : Int) := by omega
      obtain ⟨x1, ⟨x2, x3⟩, x4⟩ := x
      have hlook' : (Instr.lookup 57 (.map (some mb)) (.int .i64 x1) false).run Try.prog wr = .ok (.agg #[.int .i64 x1, .int .i64 x2, .int .i64 x3, .string x4]) wr := hlook
      simp only at e6
      clear hc4 e5 hkey hlook hts hf1 hx
      by_cases hs : s ≤ x1
      · have ho2 : (wr.alloc (.cells #[.int .i64 x1, .int .i64 x2, .int .i64 x3, .string x4] 40)).ownsRow w2.heap.size 40 4 (.slice a' q c') q (rowV (fromV (l.take k) s)) := HO.out.alloc _
        have hr2 : Reads (wr.alloc (.cells #[.int .i64 x1, .int .i64 x2, .int .i64 x3, .string x4] 40)) (.slice (some ⟨wr.heap.size, 0, none⟩) 1 1) 1 4 (vcells (x1, (x2, x3), x4)) :=
          ⟨rfl, _, _, rfl, (by intro h; cases h), Nat.le_refl _, fun i u hu => ⟨_, _, rfl, by rw [cell_of_block (block_alloc wr _)]; simpa [vcells] using hu⟩⟩
        have hone := vone (x1, (x2, x3), x4)
        have hM : q + 1 ≤ maxLen := by unfold maxLen; omega
        have hM2 : (q + 1) * 40 ≤ 140737488355328 := by omega
        have hM3 : w2.heap.size ≤ (wr.alloc (.cells #[.int .i64 x1, .int .i64 x2, .int .i64 x3, .string x4] 40)).heap.size := by have := HG.out.size; simp; omega
        have HO2 := hide ho2
        have HR2 := hide hr2
        have HONE := hide hone
        have HM2 := hide hM2
        have HM3 := hide hM3
        clear ho2 hr2 hone hM2 hM3
        go_wp2_with (at_builtin; refine wpList_append_reads _ rfl _ _ _ rfl w2.heap.size 40 i0 _ 4 40 Try.underlying34 hi0 hz0 hz1 hz2 voteZero_size (by decide) _ q _ rfl HO2.out _ 1 (vcells (x1, (x2, x3), x4)) rfl HR2.out HONE.out hM HM2.out HM3.out ?_; intro v3 w4 hown3 hgrow hat; obtain ⟨a3, k3, rfl⟩ := own_shape hown3; have HO3 := hide hown3; have HG3 := hide hgrow; clear hown3 hgrow hat)
        go_roundw
        case rel =>
          have e9 := HF1.out
          rw [if_pos hs] at e9
          refine ⟨k + 1, q + 1, k3, a3, by go_num, by omega, rfl, ?_, by omega, ?_, ?_⟩
          · rw [e9, List.length_append, ← HQ.out]; rfl
          · rw [e9]; have := HO3.out; simpa [rowV] using this
          · exact HG.out.trans ((Fr.alloc (fun j => w2.heap.size ≤ j) _ _).trans (Fr.grown (S := fun j => w2.heap.size ≤ j) HG3.out (fun j hj => (HO.out.lt j hj).1)) (fun _ _ h => h)) (fun _ _ h => h)
        case measure => simp [intOf]; omega
      · go_wp2_with fail
        go_roundw
        case rel =>
          have e9 := HF1.out
          rw [if_neg hs, List.append_nil] at e9
          exact ⟨k + 1, q, c', a', by go_num, by omega, rfl, by rw [e9]; exact HQ.out, by omega, by rw [e9]; exact HO.out, HG.out⟩
        case measure => simp [intOf]; omega
    · have ik1 : ¬ (k : Int) < (m : Int) := by omega
      have hkn : l.take k = l := List.take_of_length_le (by have := HM.out; omega)
      go_wp2_with fail
      go_ret
      have ho := HO.out
      rw [hkn] at ho
      refine ⟨_, rfl, ?_, (HF.out.trans HG.out (fun k hk h => by omega)).mono (fun k hk h => by omega)⟩
      have hq := HQ.out
      rw [hkn] at hq
      rw [← hq]; exact own_base ho hs2
end Go.Proofs.Ythekgecaeblbbaa
