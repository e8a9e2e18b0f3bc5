/- LocksNumbers's walk. -/
import Derived.Test.YtkboipnfpcngcaaKnownLocks
namespace Go.Proofs.Ytkboipnfpcngcaa.LocksNumbers
open Go.RowKit Go.Maps Go.Cv
set_option linter.unusedVariables false

def cy : ByteArray := ⟨#[121]⟩
def cz : ByteArray := ⟨#[122]⟩
def cn : ByteArray := ⟨#[110]⟩
def T1 : LkT := takeT emptyT ca.data.toList [(cx, false)]
def T2 : LkT := takeT T1 cb.data.toList [(cy, true), (cx, false)]
def T3 : LkT := takeT T2 cb.data.toList [(cy, false)]
theorem a0 : takeE emptyT [] [] = 1 := rfl
theorem a0s : takeS emptyT [] [] = emptyT := rfl
theorem a1 : takeE emptyT ca.data.toList [(cx, false)] = 0 := by decide
theorem a1s : takeS emptyT ca.data.toList [(cx, false)] = T1 := rfl
theorem a2 : takeE T1 cb.data.toList [(cy, true), (cx, false)] = 0 := by decide
theorem a2s : takeS T1 cb.data.toList [(cy, true), (cx, false)] = T2 := by unfold takeS; rw [a2]; rfl
theorem a3 : takeE T2 ca.data.toList [(cz, false), (cx, true)] = 35 := by decide
theorem a3s : takeS T2 ca.data.toList [(cz, false), (cx, true)] = T2 := by unfold takeS; rw [a3]; rfl
theorem a4 : takeE T2 cb.data.toList [(cy, false)] = 0 := by decide
theorem a4s : takeS T2 cb.data.toList [(cy, false)] = T3 := by unfold takeS; rw [a4]; rfl
theorem a5 : takeE T3 cn.data.toList [] = 0 := by decide
theorem a5s : takeS T3 cn.data.toList [] = T3 := by unfold takeS; rw [a5]; rfl
theorem a6 : sortB (T3.whos cx.data.toList) = [ca.data.toList, cb.data.toList] := by
  have : T3.whos cx.data.toList = [ca.data.toList, cb.data.toList] := by decide
  rw [this]; unfold sortB; exact List.mergeSort_of_pairwise (by decide)
theorem a7 : writerT T3 cy.data.toList = some cb.data.toList := by
  unfold writerT sortB
  have : T3.whos cy.data.toList = [cb.data.toList] := by decide
  rw [this, List.mergeSort_of_pairwise (by decide)]; decide
theorem a8 : writerT T3 cx.data.toList = none := by unfold writerT; rw [a6]; decide
theorem a9 : heldT T3 cb.data.toList = [cx.data.toList, cy.data.toList] := by rw [held_of (by decide)]; decide
theorem a10 : heldT T3 ca.data.toList = [cx.data.toList] := by rw [held_of (by decide)]; decide
theorem a11 : heldT T3 cn.data.toList = [] := by rw [held_of (by decide)]; decide
theorem a12 : freeT T3 cn.data.toList = T3 := by unfold freeT; rw [a11]; rfl
theorem a13 : sortB (T3.whos cz.data.toList) = [] := by
  have : T3.whos cz.data.toList = [] := by decide
  rw [this]; simp [sortB]
theorem isAll_eq {T : LkT} {l l' : List Bs} (h : IsAll T l) (h' : IsAll T l') : l = l' := by
  have hp : l.Perm l' := (List.perm_ext_iff_of_nodup h.nd h'.nd).2 (fun u => by rw [h.mem, h'.mem])
  have e := mergeSort_of_perm hp
  rw [List.mergeSort_of_pairwise h.st] at e
  rw [e, List.mergeSort_of_pairwise h'.st]
theorem a14 (ok : LkOk T3) : IsAll T3 [ca.data.toList, cb.data.toList] := ⟨by decide, by decide, fun u => by
  constructor
  · intro h
    refine ⟨cx.data.toList, ?_⟩
    have : T3.whos cx.data.toList = [ca.data.toList, cb.data.toList] := by decide
    rw [this]; exact h
  · rintro ⟨s, hs⟩
    have hn : s ∈ T3.names := (ok.ne s).2 (fun e => by rw [e] at hs; cases hs)
    have e : T3.names = [cx.data.toList, cy.data.toList] := by decide
    rw [e] at hn
    simp only [List.mem_cons, List.not_mem_nil, or_false] at hn
    rcases hn with rfl | rfl
    · have : T3.whos cx.data.toList = [ca.data.toList, cb.data.toList] := by decide
      rw [this] at hs; exact hs
    · have : T3.whos cy.data.toList = [cb.data.toList] := by decide
      rw [this] at hs; simp at hs ⊢; exact .inr hs⟩
theorem f1 : Fits T1 1 := fits_take _ _ fits0
theorem f2 : Fits T2 3 := fits_take _ _ f1
theorem f3 : Fits T3 4 := fits_take _ _ f2

def ofB (u : Bs) : ByteArray := ⟨u.toArray⟩
theorem textsL (w : World) (v : Value) (l : List Bs) (ho : Reads w v l.length 1 (l.map encStr)) (l2 : List ByteArray) (q : Bool) (hq : decide (l.map ofB = l2) = q) (hl : l.length ≤ 1000000) :
    Calls Try.prog 17 #[v, .slice (some ⟨w.heap.size, 0, none⟩) l2.length l2.length] (w.alloc (.cells (l2.map .string).toArray 9)) fun e w' => e = .returned (.bool q) ∧ Fr (fun _ => False) w w' := by
  have ha : Fr (fun _ => False) w (w.alloc (.cells (l2.map .string).toArray 9)) := Fr.alloc _ _ _
  have h1 : Reads (w.alloc (.cells (l2.map .string).toArray 9)) v (l.map ofB).length 1 ((l.map ofB).map .string) := by
    have := ho.fr ha (fun _ _ _ _ => id)
    rw [List.length_map, List.map_map]; exact this
  have h2 := Reads.built w (l2.map .string) 9
  rw [List.length_map] at h2
  refine (texts_any _ _ _ (l.map ofB) l2 h1 h2 (by rw [List.length_map]; omega)).mono ?_
  rintro e w' ⟨rfl, m, rfl⟩
  exact ⟨by rw [hq], ha.drewN m⟩

set_option maxRecDepth 100000 in
set_option maxHeartbeats 6400000 in
theorem walk (w : World) : Calls Try.prog 5 #[] w fun e w' => e = .returned (.bool true) ∧ Below w.heap.size w w' := by
  go_enter Try.func5, Try.ntmps5
  go_wp2_with fail
  refine (newD w).mono ?_
  rintro e w1 ⟨tb, rfl, h, hf⟩
  have F1 := hide (hf.mono (S' := fun k => w.heap.size ≤ k) (fun _ _ h => h.elim))
  have s1 := hf.size
  have t1 := takeD w1 _ _ tb _ h 0 fits0 (by decide) s1 ⟨#[]⟩ (by decide) _ [] (Reads.nil _ _) (fun b hb => by cases hb) (by decide) (by simp)
  have t1' : Calls _ _ #[.pointer (some ⟨tb, 0, none⟩), .string ⟨#[]⟩, .slice none 0 0] w1 fun e w' => e = .returned (.int .i64 1) ∧ Lkd w' (fun k => k < w.heap.size) w.heap.size tb emptyT ∧ Fr (Own (fun k => k < w.heap.size) w.heap.size) w1 w' := t1
  have T1' := hide t1'
  clear h hf t1 t1'
  go_wp2_with fail
  refine T1'.out.mono ?_
  rintro e w2 ⟨rfl, h, hf⟩
  have F2 := hide (F1.out.trans (hf.mono (S' := fun k => w.heap.size ≤ k) (fun _ _ h => h.1)) (fun _ _ h => h))
  have s2 := F2.out.size
  have t1 := takeL w2 _ _ tb _ h 0 fits0 (by decide) s2 ca (by decide) [(cx, false)] (by decide) (by decide)
  rw [a1, a1s] at t1
  have T1' := hide t1
  clear h hf t1
  go_wp2_with fail
  refine T1'.out.mono ?_
  rintro e w3 ⟨rfl, ⟨X3, -, h⟩, hf⟩
  have F3 := hide (F2.out.trans (hf.mono (S' := fun k => w.heap.size ≤ k) (fun _ _ h => h.1)) (fun _ _ h => h))
  have s3 := F3.out.size
  have t1 := takeL w3 _ _ tb _ h 1 f1 (by decide) s3 cb (by decide) [(cy, true), (cx, false)] (by decide) (by decide)
  rw [a2, a2s] at t1
  have T1' := hide t1
  clear h hf t1
  go_wp2_with fail
  refine T1'.out.mono ?_
  rintro e w4 ⟨rfl, ⟨X4, -, h⟩, hf⟩
  have F4 := hide (F3.out.trans (hf.mono (S' := fun k => w.heap.size ≤ k) (fun _ _ h => h.1)) (fun _ _ h => h))
  have s4 := F4.out.size
  have t1 := takeL w4 _ _ tb _ h 3 f2 (by decide) s4 ca (by decide) [(cz, false), (cx, true)] (by decide) (by decide)
  rw [a3, a3s] at t1
  have T1' := hide t1
  clear h hf t1
  go_wp2_with fail
  refine T1'.out.mono ?_
  rintro e w5 ⟨rfl, ⟨X5, -, h⟩, hf⟩
  have F5 := hide (F4.out.trans (hf.mono (S' := fun k => w.heap.size ≤ k) (fun _ _ h => h.1)) (fun _ _ h => h))
  have s5 := F5.out.size
  have t1 := takeL w5 _ _ tb _ h 3 f2 (by decide) s5 cb (by decide) [(cy, false)] (by decide) (by decide)
  rw [a4, a4s] at t1
  have T1' := hide t1
  clear h hf t1
  go_wp2_with fail
  refine T1'.out.mono ?_
  rintro e w6 ⟨rfl, ⟨X6, -, h⟩, hf⟩
  have F6 := hide (F5.out.trans (hf.mono (S' := fun k => w.heap.size ≤ k) (fun _ _ h => h.1)) (fun _ _ h => h))
  have t1 := writerD w6 _ _ tb _ h 4 f3 (by decide) cy (by decide)
  rw [a7] at t1
  have t1 : Calls _ _ _ w6 fun e w' => e = .returned (.tuple #[.string ⟨#[98]⟩, .bool true]) ∧ _ := t1
  have T1' := hide t1
  have H := hide h
  clear h hf t1
  go_wp2_with fail
  refine T1'.out.mono ?_
  rintro e w7 ⟨rfl, hf⟩
  have H7 := hide (H.out.fr0 hf)
  have F7 := hide (F6.out.trans hf (fun _ _ h => h.elim))
  have t1 := writerD w7 _ _ tb _ H7.out 4 f3 (by decide) cx (by decide)
  rw [a8] at t1
  have t1 : Calls _ _ _ w7 fun e w' => e = .returned (.tuple #[.string ⟨#[]⟩, .bool false]) ∧ _ := t1
  have T1' := hide t1
  clear hf t1 H
  go_wp2_with fail
  refine T1'.out.mono ?_
  rintro e w8 ⟨rfl, hf⟩
  have F8 := hide (F7.out.trans hf (fun _ _ h => h.elim))
  have s8 := F8.out.size
  have t1 := takeD w8 _ _ tb _ (H7.out.fr0 hf) 4 f3 (by decide) s8 cn (by decide) _ [] (Reads.nil _ _) (fun b hb => by cases hb) (by decide) (by simp)
  rw [a5, a5s] at t1
  have T1' := hide t1
  clear hf t1 H7
  go_wp2_with fail
  refine T1'.out.mono ?_
  rintro e w9 ⟨rfl, h, hf⟩
  have F9 := hide (F8.out.trans (hf.mono (S' := fun k => w.heap.size ≤ k) (fun _ _ h => h.1)) (fun _ _ h => h))
  have t1 := holdersD w9 _ _ tb _ h 4 f3 (by decide) cx (by decide)
  rw [a6] at t1
  have T1' := hide t1
  have H := hide h
  clear h hf t1
  go_wp2_with fail
  refine T1'.out.mono ?_
  rintro e w10 ⟨v10, rfl, ho, hf⟩
  obtain ⟨x10, c10, rfl⟩ := own_shape ho
  have H10 := hide (H.out.fr0 hf)
  have F10 := hide (F9.out.trans hf (fun _ _ h => h.elim))
  have HO := hide ho
  clear hf ho H
  go_wp2_with fail
  have t1 := textsL w10 _ _ (Reads.of_own HO.out) [ca, cb] true (by decide) (by decide)
  have T1' := hide t1
  clear t1 HO
  refine T1'.out.mono ?_
  rintro e w11 ⟨rfl, hf⟩
  have H11 := hide (H10.out.fr0 hf)
  have F11 := hide (F10.out.trans hf (fun _ _ h => h.elim))
  have t1 := heldD w11 _ _ tb _ H11.out 4 f3 (by decide) cb (by decide)
  rw [a9] at t1
  have T1' := hide t1
  clear hf t1 H10
  go_wp2_with fail
  refine T1'.out.mono ?_
  rintro e w12 ⟨v12, rfl, ho, hf⟩
  obtain ⟨x12, c12, rfl⟩ := own_shape ho
  have H12 := hide (H11.out.fr0 hf)
  have F12 := hide (F11.out.trans hf (fun _ _ h => h.elim))
  have t1 := textsL w12 _ _ (Reads.of_own ho) [cx, cy] true (by decide) (by decide)
  have T1' := hide t1
  clear hf ho H11 t1
  go_wp2_with fail
  refine T1'.out.mono ?_
  rintro e w13 ⟨rfl, hf⟩
  have H13 := hide (H12.out.fr0 hf)
  have F13 := hide (F12.out.trans hf (fun _ _ h => h.elim))
  have t1 := heldD w13 _ _ tb _ H13.out 4 f3 (by decide) ca (by decide)
  rw [a10] at t1
  have T1' := hide t1
  clear hf t1 H12
  go_wp2_with fail
  refine T1'.out.mono ?_
  rintro e w14 ⟨v14, rfl, ho, hf⟩
  obtain ⟨x14, c14, rfl⟩ := own_shape ho
  have H14 := hide (H13.out.fr0 hf)
  have F14 := hide (F13.out.trans hf (fun _ _ h => h.elim))
  have t1 := textsL w14 _ _ (Reads.of_own ho) [cx] true (by decide) (by decide)
  have T1' := hide t1
  clear hf ho H13 t1
  go_wp2_with fail
  refine T1'.out.mono ?_
  rintro e w15 ⟨rfl, hf⟩
  have H15 := hide (H14.out.fr0 hf)
  have F15 := hide (F14.out.trans hf (fun _ _ h => h.elim))
  have t1 := allD w15 _ _ tb _ H15.out 4 f3 (by decide)
  have T1' := hide t1
  clear hf t1 H14
  go_wp2_with fail
  refine T1'.out.mono ?_
  rintro e w16 ⟨v16, l16, rfl, hall, ho, hf⟩
  rw [isAll_eq hall (a14 H15.out.ok)] at ho
  obtain ⟨x16, c16, rfl⟩ := own_shape ho
  have H16 := hide (H15.out.fr0 hf)
  have F16 := hide (F15.out.trans hf (fun _ _ h => h.elim))
  have t1 := textsL w16 _ _ (Reads.of_own ho) [ca, cb] true (by decide) (by decide)
  have T1' := hide t1
  clear hf ho H15 t1 hall
  go_wp2_with fail
  refine T1'.out.mono ?_
  rintro e w17 ⟨rfl, hf⟩
  have F17 := hide (F16.out.trans hf (fun _ _ h => h.elim))
  have t1 := freeD w17 _ _ tb _ (H16.out.fr0 hf) 4 f3 (by decide) cn (by decide)
  rw [a11, a12] at t1
  have T1' := hide t1
  clear hf t1 H16
  go_wp2_with fail
  refine T1'.out.mono ?_
  rintro e w18 ⟨rfl, h, hf⟩
  have F18 := hide (F17.out.trans (hf.mono (S' := fun k => w.heap.size ≤ k) (fun _ _ h => h.1)) (fun _ _ h => h))
  have t1 := holdersD w18 _ _ tb _ h 4 f3 (by decide) cz (by decide)
  rw [a13] at t1
  have T1' := hide t1
  clear hf t1 h
  go_wp2_with fail
  refine T1'.out.mono ?_
  rintro e w19 ⟨v19, rfl, ho, hf⟩
  obtain ⟨x19, c19, rfl⟩ := own_shape ho
  have F19 := hide (F18.out.trans hf (fun _ _ h => h.elim))
  clear hf ho
  go_wp2_with fail
  refine (known_any w19).mono ?_
  rintro e w20 ⟨rfl, hf⟩
  have F20 := hide (F19.out.trans hf (fun _ _ h => h.elim))
  clear hf
  go_wp2_with fail
  go_ret
  exact ⟨rfl, F20.out.toBelow (Nat.le_refl _) (fun k hk hn => by omega)⟩
end Go.Proofs.Ytkboipnfpcngcaa.LocksNumbers
