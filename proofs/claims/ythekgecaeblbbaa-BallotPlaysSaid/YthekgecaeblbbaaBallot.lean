/- The acceptor of ballot: what it is, New, Promised, Accept. -/
import Derived.Test.YthekgecaeblbbaaLess
import Derived.Deep.AppendLies
import Derived.Deep.RegionLaw
import Derived.Deep.RegionWith
import Derived.Deep.RegionHeld
import Derived.Test.YthekgecaeblbbaaStepMap
import Derived.Test.YthekgecaeblbbaaCells2
namespace Go.Proofs.Ythekgecaeblbbaa
open Go.RowKit Go.Maps Go.Cv
set_option linter.unusedVariables false

/-- A vote: slot, ballot, value. -/
abbrev Vt := Int × Bt × ByteArray
def vcells (x : Vt) : List Value := [.int .i64 x.1, .int .i64 x.2.1.1, .int .i64 x.2.1.2, .string x.2.2]
def vval (x : Vt) : Value := .agg (vcells x).toArray
/-- The vote at a slot. -/
def at_ (l : List Vt) (s : Int) : Option Vt := l.find? (fun x => decide (x.1 = s))
def vm (l : List Vt) : Lit → Option Value
  | .int .i64 i => (at_ l i).map vval
  | _ => none
/-- With a vote laid at its slot. -/
def putV (l : List Vt) (x : Vt) : List Vt := l.filter (fun y => decide (y.1 < x.1)) ++ [x] ++ l.filter (fun y => decide (x.1 < y.1))
def Sorted (l : List Vt) : Prop := l.Pairwise (fun x y => x.1 < y.1)

theorem at_put_same (l : List Vt) (x : Vt) : at_ (putV l x) x.1 = some x := by
  unfold at_ putV
  have h1 : (l.filter (fun y => decide (y.1 < x.1))).find? (fun y => decide (y.1 = x.1)) = none := by
    rw [List.find?_eq_none]; intro y hy; simp at hy ⊢; omega
  rw [List.append_assoc, List.find?_append, h1]; simp
theorem at_put_other (l : List Vt) (x : Vt) (s : Int) (h : s ≠ x.1) : at_ (putV l x) s = at_ l s := by
  unfold at_ putV
  have h1 : ∀ l : List Vt, ((l.filter (fun y => decide (y.1 < x.1))).find? (fun y => decide (y.1 = s)) <|> (l.filter (fun y => decide (x.1 < y.1))).find? (fun y => decide (y.1 = s))) = l.find? (fun y => decide (y.1 = s)) := by
    intro l
    by_cases hs : s < x.1
    · have h2 : (l.filter (fun y => decide (x.1 < y.1))).find? (fun y => decide (y.1 = s)) = none := by
        rw [List.find?_eq_none]; intro y hy; simp at hy ⊢; omega
      rw [h2]
      have h3 : (l.filter (fun y => decide (y.1 < x.1))).find? (fun y => decide (y.1 = s)) = l.find? (fun y => decide (y.1 = s)) := by
        rw [List.find?_filter]; congr 1; funext y; by_cases e : y.1 = s <;> simp [e, hs]
      rw [h3]; simp
    · have hs2 : x.1 < s := by omega
      have h2 : (l.filter (fun y => decide (y.1 < x.1))).find? (fun y => decide (y.1 = s)) = none := by
        rw [List.find?_eq_none]; intro y hy; simp at hy ⊢; omega
      rw [h2]
      have h3 : (l.filter (fun y => decide (x.1 < y.1))).find? (fun y => decide (y.1 = s)) = l.find? (fun y => decide (y.1 = s)) := by
        rw [List.find?_filter]; congr 1; funext y; by_cases e : y.1 = s <;> simp [e, hs2]
      rw [h3]; simp
  rw [← h1 l, List.append_assoc, List.find?_append, List.singleton_append, List.find?_cons]
  have : decide (x.1 = s) = false := by simp; exact fun e => h e.symm
  rw [this]
  cases (l.filter (fun y => decide (y.1 < x.1))).find? (fun y => decide (y.1 = s)) <;> simp

theorem vm_put (l : List Vt) (x : Vt) (k : Lit) : vm (putV l x) k = put (vm l) (.int .i64 x.1) (vval x) k := by
  unfold put
  split
  · rename_i h; subst h; simp only [vm, at_put_same]; rfl
  · rename_i h
    match k, h with
    | .int .i64 i, h =>
      have : i ≠ x.1 := fun e => h (by rw [e])
      simp only [vm, at_put_other l x i this]
    | .int .i8 _, _ | .int .i16 _, _ | .int .i32 _, _ | .int .u8 _, _ | .int .u16 _, _ | .int .u32 _, _ | .int .u64 _, _ => rfl
    | .bool _, _ | .float _ _, _ | .string _, _ | .nil, _ => rfl
theorem sorted_put {l : List Vt} (h : Sorted l) (x : Vt) : Sorted (putV l x) := by
  unfold Sorted putV
  rw [List.append_assoc]
  refine List.pairwise_append.2 ⟨h.filter _, ?_, ?_⟩
  · rw [List.singleton_append]
    refine List.pairwise_cons.2 ⟨?_, h.filter _⟩
    intro y hy; simp at hy; exact hy.2
  · intro y hy z hz
    simp at hy
    rcases List.mem_append.1 hz with hz | hz
    · simp at hz; subst hz; exact hy.2
    · simp at hz; omega

/-- Block ab is an acceptor: what it promised, its votes in the map of block mb (of at most n entries). -/
structure Ac (w : World) (ab mb n : Nat) (p : Bt) (l : List Vt) : Prop where
  blk : w.heap[ab]? = some (.cells #[.int .i64 p.1, .int .i64 p.2, .map (some mb)] 59 (0, 0))
  map : mapF w Try.prog 3 mb n (vm l)
  ne : ab ≠ mb
  st : Sorted l
  sl : ∀ x ∈ l, 0 ≤ x.1 ∧ x.1 < 512

theorem Ac.heap {w w' : World} {ab mb n : Nat} {p : Bt} {l : List Vt} (h : Ac w ab mb n p l) (h1 : w'.heap[ab]? = w.heap[ab]?) (h2 : w'.heap[mb]? = w.heap[mb]?) : Ac w' ab mb n p l :=
  ⟨h1.trans h.blk, h.map.of_block h2, h.ne, h.st, h.sl⟩
theorem Ac.fr {w w' : World} {ab mb n : Nat} {p : Bt} {l : List Vt} (h : Ac w ab mb n p l) {S : Nat → Prop} (g : Fr S w w') (h1 : ¬ S ab) (h2 : ¬ S mb) : Ac w' ab mb n p l :=
  h.heap (g.block _ (lt_of_block h.blk) h1) (g.block _ h.map.lt h2)
theorem Ac.fr0 {w w' : World} {ab mb n : Nat} {p : Bt} {l : List Vt} (h : Ac w ab mb n p l) (g : Fr (fun _ => False) w w') : Ac w' ab mb n p l := h.fr g id id

theorem law : Keyed Try.prog 3 := int_keyed Try.underlying3

theorem newAc_any (w : World) :
    Calls Try.prog 11 #[] w fun e w' => ∃ ab mb, e = .returned (.pointer (some ⟨ab, 0, none⟩)) ∧ w.heap.size ≤ ab ∧ w.heap.size ≤ mb ∧ Ac w' ab mb 0 (0, 0) [] ∧ Fr (fun _ => False) w w' := by
  have hmm := @run_makeMap Try.prog
  go_enter Try.func11, Try.ntmps11
  go_wp2
  go_ret
  refine ⟨_, _, rfl, Nat.le_succ _, Nat.le_refl _, ⟨?_, ?_, ?_, ?_, ?_⟩, ?_⟩
  · simpa using block_alloc (w.alloc (.map #[] 0)) (.cells #[.int .i64 0, .int .i64 0, .map (some w.heap.size)] 59 (0, 0))
  · exact ((mapF_made w Try.prog 3).of_block (Below.heap_alloc _ _ _ (by simp))).congr (fun l => by unfold vm; split <;> rfl)
  · omega
  · exact List.Pairwise.nil
  · intro x hx; cases hx
  · exact ((Fr.alloc _ w _).trans (Fr.alloc (fun _ => False) _ _) (fun _ _ h => h))

theorem promised_any (w : World) (ab mb n : Nat) (p : Bt) (l : List Vt) (h : Ac w ab mb n p l) :
    Calls Try.prog 13 #[.pointer (some ⟨ab, 0, none⟩)] w fun e w' => e = .returned (.agg (bcells p)) ∧ Fr (fun _ => False) w w' := by
  obtain ⟨p1, p2⟩ := p
  have hb := lt_of_block h.blk
  have c0 : w.cell? ⟨ab, 0, none⟩ = some (.int .i64 p1) := by rw [cell_of_block h.blk]; rfl
  have c1 : w.cell? ⟨ab, 1, none⟩ = some (.int .i64 p2) := by rw [cell_of_block h.blk]; rfl
  have H := hide h
  clear h
  show Calls _ _ _ w fun e w' => e = .returned (.agg #[.int .i64 p1, .int .i64 p2]) ∧ _
  go_enter Try.func13, Try.ntmps13
  go_wp2
  exact bodyPost_ret (v := .agg #[.int .i64 p1, .int .i64 p2]) (by simp [results, Try.results13, go_sem]) rfl ⟨rfl, Fr.alloc _ _ _⟩

/-- Is a vote taken? -/
def acceptB (p b : Bt) (s : Int) : Bool := !less b p && decide (b ≠ (0, 0)) && decide (0 ≤ s) && decide (s < 512)

set_option maxRecDepth 100000 in
set_option maxHeartbeats 1600000 in
theorem accept_yes (w : World) (ab mb n : Nat) (p : Bt) (l : List Vt) (h : Ac w ab mb n p l) (hn : n < maxLen) (b : Bt) (s : Int) (v : ByteArray) (hb : less b p = false) (hz : b ≠ (0, 0)) (h0 : 0 ≤ s) (h1 : s < 512) :
    Calls Try.prog 16 #[.pointer (some ⟨ab, 0, none⟩), .agg (bcells b), .int .i64 s, .string v] w fun e w' => e = .returned (.bool true) ∧ Ac w' ab mb (n + 1) b (putV l (s, b, v)) ∧ Fr (fun k => k = ab ∨ k = mb) w w' := by
  obtain ⟨p1, p2⟩ := p
  obtain ⟨b1, b2⟩ := b
  have hL : ∀ w, Calls Try.prog 9 #[.agg #[.int .i64 b1, .int .i64 b2], .agg #[.int .i64 p1, .int .i64 p2]] w fun e w' => e = .returned (.bool false) ∧ Fr (fun _ => False) w w' := fun w => by
    have := less_any w (b1, b2) (p1, p2)
    rwa [hb] at this
  have hbe : (b1 == 0 && b2 == 0) = false := by
    rw [Bool.and_eq_false_iff]
    by_cases e : b1 = 0
    · right; rw [beq_eq_false_iff_ne]; intro e2; exact hz (by rw [e, e2])
    · left; rw [beq_eq_false_iff_ne]; exact e
  have hd0 : decide (s < 0) = false := by simpa using h0
  have hd1 : decide (512 ≤ s) = false := by simpa using h1
  have hEq : ∀ w, (binOp .eql 23 (.agg #[.int .i64 b1, .int .i64 b2]) (.agg #[.int .i64 0, .int .i64 0])).run Try.prog w = .ok (.bool false) w := fun w => by rw [run_eqB, hbe]
  have hmap := h.map
  have hab := lt_of_block h.blk
  have hmb := h.map.lt
  obtain ⟨w0, hw0⟩ : ∃ w0, w.alloc (.cells #[.int .i64 b1, .int .i64 b2] 23) = w0 := ⟨_, rfl⟩
  have hF : Fr (fun _ => False) w w0 := by rw [← hw0]; exact Fr.alloc _ _ _
  have hxb : w0.heap[w.heap.size]? = some (.cells #[.int .i64 b1, .int .i64 b2] 23 (0, 0)) := by rw [← hw0]; exact block_alloc _ _
  have hA0 := h.fr0 hF
  have hC : ∀ wx, Fr (fun _ => False) w0 wx → wx.cell? ⟨ab, 0, none⟩ = some (.int .i64 p1) ∧ wx.cell? ⟨ab, 1, none⟩ = some (.int .i64 p2) ∧ wx.cell? ⟨w.heap.size, 0, none⟩ = some (.int .i64 b1) ∧ wx.cell? ⟨w.heap.size, 1, none⟩ = some (.int .i64 b2) ∧ wx.frozen? ⟨ab, 0, none⟩ = false ∧ wx.frozen? ⟨ab, 1, none⟩ = false := fun wx hf => by
    have e1 := (hA0.fr0 hf).blk
    have e2 := (hf.block _ (lt_of_block hxb) id).trans hxb
    exact ⟨by rw [cell_of_block e1]; rfl, by rw [cell_of_block e1]; rfl, by rw [cell_of_block e2]; rfl, by rw [cell_of_block e2]; rfl, free_of_block e1, free_of_block e1⟩
  obtain ⟨k0, k1, k2, k3, k4, k5⟩ := hC w0 (Fr.refl _ _)
  have HC := hide hC
  have HW0 := hide hw0
  have HF := hide hF
  have HL := hide hL
  have HA := hide hA0
  have HXB := hide hxb
  have hs0 : w.heap.size < w0.heap.size := lt_of_block hxb
  clear hC hw0 hF hL hA0 hmap h hb hz hxb hbe
  show Calls _ _ #[.pointer (some ⟨ab, 0, none⟩), .agg #[.int .i64 b1, .int .i64 b2], .int .i64 s, .string v] w _
  go_enter Try.func16, Try.ntmps16
  go_wp2_with fail
  rw [HW0.out]
  go_region_held3 (fun w' => w'.cell? ⟨ab, 0, none⟩ = some (.int .i64 p1) ∧ w'.cell? ⟨ab, 1, none⟩ = some (.int .i64 p2) ∧ w'.cell? ⟨w.heap.size, 0, none⟩ = some (.int .i64 b1) ∧ w'.cell? ⟨w.heap.size, 1, none⟩ = some (.int .i64 b2))
    (go_keep)
    ((go_at_call 9; refine (HL.out _).mono ?_; rintro e w1 ⟨rfl, hf1⟩; have hf2 := (Fr.refl (fun _ => False) w0).drew.trans hf1 (fun _ _ h => h); obtain ⟨g0, g1, g2, g3, g4, g5⟩ := HC.out w1 hf2; have HF2 := hide hf2; clear hf1 hf2))
  all_goals
    have HA1 := hide (HA.out.fr0 HF2.out)
    obtain ⟨w2, hw2⟩ : ∃ w2, (w1.setCell ⟨ab, 0, none⟩ (.int .i64 b1)).setCell ⟨ab, 1, none⟩ (.int .i64 b2) = w2 := ⟨_, rfl⟩
    have hf3 : Fr (fun k => k = ab) w1 w2 := by rw [← hw2]; exact (Fr.setCell (S := fun k => k = ab) _ _ _ rfl).trans (Fr.setCell (S := fun k => k = ab) _ _ _ rfl) (fun _ _ h => h)
    have hblk : w2.heap[ab]? = some (.cells #[.int .i64 b1, .int .i64 b2, .map (some mb)] 59 (0, 0)) := by
      rw [← hw2, block_setCell (block_setCell HA1.out.blk _)]; rfl
    have hmap2 : mapF w2 Try.prog 3 mb n (vm l) := HA1.out.map.of_block (hf3.block mb HA1.out.map.lt (fun e => HA1.out.ne e.symm))
    have hxb2 := (hf3.block w.heap.size (lt_of_block ((HF2.out.block _ (lt_of_block HXB.out) id).trans HXB.out)) (by omega)).trans ((HF2.out.block _ (lt_of_block HXB.out) id).trans HXB.out)
    have x0 : w2.cell? ⟨w.heap.size, 0, none⟩ = some (.int .i64 b1) := by rw [cell_of_block hxb2]; rfl
    have x1 : w2.cell? ⟨w.heap.size, 1, none⟩ = some (.int .i64 b2) := by rw [cell_of_block hxb2]; rfl
    have x2 : w2.cell? ⟨ab, 2, none⟩ = some (.map (some mb)) := by rw [cell_of_block hblk]; rfl
    have hkey : keyOf Try.prog 3 (.int .i64 s) = some (.int .i64 s) := keyOf_int_mk Try.underlying3 (WalkArith.wf_i64 (by omega))
    have HW2 := hide hw2
    have HF3 := hide hf3
    have HB2 := hide hblk
    have HM2 := hide hmap2
    have HK := hide hkey
    clear hw2 hf3 hblk hmap2 hxb2 hkey k0 k1 k2 k3 k4 k5
    go_upto_region 4 with fail
    rw [HW2.out]
    clear g0 g1 g2 g3 g4 g5
    obtain ⟨w3, hrun, hm3, ht3⟩ := (HM2.out.of_block (w' := w2.drew) rfl).store law Try.underlying57 hn (.agg #[.int .i64 s, .int .i64 b1, .int .i64 b2, .string v]) HK.out
    have HM3 := hide hm3
    have HT3 := hide ht3
    clear hm3 ht3
    go_region_law (fail)
    all_goals
      go_wp2_with fail
      go_ret
      have hg := HT3.out.grown
      have hblk3 : w3.heap[ab]? = some (.cells #[.int .i64 b1, .int .i64 b2, .map (some mb)] 59 (0, 0)) := (hg.block ab (lt_of_block (w := w2.drew) HB2.out) (fun e => HA1.out.ne (by cases e; rfl))).trans HB2.out
      refine ⟨rfl, ⟨hblk3, HM3.out.congr (fun k => vm_put l (s, (b1, b2), v) k), HA1.out.ne, sorted_put HA1.out.st _, ?_⟩, ?_⟩
      · intro x hx
        simp only [putV, List.mem_append, List.mem_filter, List.mem_singleton] at hx
        rcases hx with (⟨hx, _⟩ | rfl) | ⟨hx, _⟩
        · exact HA1.out.sl x hx
        · exact ⟨h0, h1⟩
        · exact HA1.out.sl x hx
      · exact ((((HF.out.trans HF2.out (fun _ _ h => h)).mono (S' := fun k => k = ab ∨ k = mb) (fun _ _ h => h.elim)).trans (HF3.out.mono (S' := fun k => k = ab ∨ k = mb) (fun _ _ h => .inl h)) (fun _ _ h => h)).drew).trans (Fr.turned (S := fun k => k = ab ∨ k = mb) HT3.out (.inr rfl)) (fun _ _ h => h)

set_option maxRecDepth 100000 in
set_option maxHeartbeats 12800000 in
theorem accept_no (w : World) (ab mb n : Nat) (p : Bt) (l : List Vt) (h : Ac w ab mb n p l) (b : Bt) (s : Int) (v : ByteArray) (hno : less b p = true ∨ b = (0, 0) ∨ s < 0 ∨ 512 ≤ s) :
    Calls Try.prog 16 #[.pointer (some ⟨ab, 0, none⟩), .agg (bcells b), .int .i64 s, .string v] w fun e w' => e = .returned (.bool false) ∧ Fr (fun _ => False) w w' := by
  obtain ⟨p1, p2⟩ := p
  obtain ⟨b1, b2⟩ := b
  have hL : ∀ w, Calls Try.prog 9 #[.agg #[.int .i64 b1, .int .i64 b2], .agg #[.int .i64 p1, .int .i64 p2]] w fun e w' => e = .returned (.bool (less (b1, b2) (p1, p2))) ∧ Fr (fun _ => False) w w' := fun w => less_any w (b1, b2) (p1, p2)
  have hEq : ∀ w, (binOp .eql 23 (.agg #[.int .i64 b1, .int .i64 b2]) (.agg #[.int .i64 0, .int .i64 0])).run Try.prog w = .ok (.bool (b1 == 0 && b2 == 0)) w := fun w => run_eqB _ _ _ _ _
  have hcase : (less (b1, b2) (p1, p2) = true) ∨ (less (b1, b2) (p1, p2) = false ∧ (b1 == 0 && b2 == 0) = true) ∨ (less (b1, b2) (p1, p2) = false ∧ (b1 == 0 && b2 == 0) = false ∧ decide (s < 0) = true) ∨
      (less (b1, b2) (p1, p2) = false ∧ (b1 == 0 && b2 == 0) = false ∧ decide (s < 0) = false ∧ decide (512 ≤ s) = true) := by
    cases h1 : less (b1, b2) (p1, p2) with
    | true => exact .inl rfl
    | false =>
      right
      cases h2 : (b1 == 0 && b2 == 0) with
      | true => exact .inl ⟨rfl, rfl⟩
      | false =>
        right
        by_cases h3 : s < 0
        · exact .inl ⟨rfl, rfl, by simpa using h3⟩
        · refine .inr ⟨rfl, rfl, by simpa using h3, ?_⟩
          rcases hno with h | h | h | h
          · rw [h1] at h; cases h
          · simp at h; rw [h.1, h.2] at h2; simp at h2
          · exact absurd h h3
          · simpa using h
  generalize less (b1, b2) (p1, p2) = q at *
  generalize (b1 == 0 && b2 == 0) = z at *
  have hab := lt_of_block h.blk
  obtain ⟨w0, hw0⟩ : ∃ w0, w.alloc (.cells #[.int .i64 b1, .int .i64 b2] 23) = w0 := ⟨_, rfl⟩
  have hF : Fr (fun _ => False) w w0 := by rw [← hw0]; exact Fr.alloc _ _ _
  have hxb : w0.heap[w.heap.size]? = some (.cells #[.int .i64 b1, .int .i64 b2] 23 (0, 0)) := by rw [← hw0]; exact block_alloc _ _
  have hA0 := h.fr0 hF
  have hC : ∀ wx, Fr (fun _ => False) w0 wx → wx.cell? ⟨ab, 0, none⟩ = some (.int .i64 p1) ∧ wx.cell? ⟨ab, 1, none⟩ = some (.int .i64 p2) ∧ wx.cell? ⟨w.heap.size, 0, none⟩ = some (.int .i64 b1) ∧ wx.cell? ⟨w.heap.size, 1, none⟩ = some (.int .i64 b2) := fun wx hf => by
    have e1 := (hA0.fr0 hf).blk
    have e2 := (hf.block _ (lt_of_block hxb) id).trans hxb
    exact ⟨by rw [cell_of_block e1]; rfl, by rw [cell_of_block e1]; rfl, by rw [cell_of_block e2]; rfl, by rw [cell_of_block e2]; rfl⟩
  obtain ⟨k0, k1, k2, k3⟩ := hC w0 (Fr.refl _ _)
  have HC := hide hC
  have HW0 := hide hw0
  have HF := hide hF
  have HL := hide hL
  clear hC hw0 hF hL hA0 h hno hxb
  show Calls _ _ #[.pointer (some ⟨ab, 0, none⟩), .agg #[.int .i64 b1, .int .i64 b2], .int .i64 s, .string v] w _
  rcases hcase with rfl | ⟨rfl, rfl⟩ | ⟨rfl, rfl, hs⟩ | ⟨rfl, rfl, hs0, hs⟩
  · obtain ⟨d0, d1, d2, d3⟩ := HC.out w0.drew ((Fr.refl (fun _ => False) w0).drew)
    go_enter Try.func16, Try.ntmps16
    go_wp2_with fail
    rw [HW0.out]
    first
      | go_region_with ((go_at_call 9; refine (HL.out _).mono ?_; rintro e w1 ⟨rfl, hf1⟩; have hf2 := (Fr.refl (fun _ => False) w0).drew.trans hf1 (fun _ _ h => h); obtain ⟨g0, g1, g2, g3⟩ := HC.out w1 hf2; have HF2 := hide hf2; clear hf1 hf2))
      | fail
    all_goals
      go_wp2_with fail
      go_ret
      exact ⟨rfl, HF.out.trans HF2.out (fun _ _ h => h)⟩
  all_goals
    go_enter Try.func16, Try.ntmps16
    go_wp2_with fail
    rw [HW0.out]
    first
      | go_region_held (fun w' => w'.cell? ⟨ab, 0, none⟩ = some (.int .i64 p1) ∧ w'.cell? ⟨ab, 1, none⟩ = some (.int .i64 p2) ∧ w'.cell? ⟨w.heap.size, 0, none⟩ = some (.int .i64 b1) ∧ w'.cell? ⟨w.heap.size, 1, none⟩ = some (.int .i64 b2))
          (go_keep)
          ((go_at_call 9; refine (HL.out _).mono ?_; rintro e w1 ⟨rfl, hf1⟩; have hf2 := (Fr.refl (fun _ => False) w0).drew.trans hf1 (fun _ _ h => h); obtain ⟨g0, g1, g2, g3⟩ := HC.out w1 hf2; have HF2 := hide hf2; clear hf1 hf2))
      | fail
    all_goals
      go_wp2_with fail
      go_ret
      exact ⟨rfl, HF.out.trans HF2.out (fun _ _ h => h)⟩
end Go.Proofs.Ythekgecaeblbbaa
