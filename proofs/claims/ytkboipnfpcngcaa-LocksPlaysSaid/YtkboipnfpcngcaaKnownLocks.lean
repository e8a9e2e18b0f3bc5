/- known, of the statements on locks. -/
import Derived.Test.YtkboipnfpcngcaaLkD
namespace Go.Proofs.Ytkboipnfpcngcaa
open Go.RowKit Go.Maps Go.Cv
set_option linter.unusedVariables false

theorem readsW (w : World) (cs : List WantT) (n : Nat) (hn : cs.length = n) (t : TypeId) : Reads (w.alloc (.cells (cs.flatMap wcell).toArray t)) (.slice (some ⟨w.heap.size, 0, none⟩) n n) n 2 (cs.flatMap wcell) :=
  ⟨by subst hn; induction cs with
    | nil => rfl
    | cons x r ih => simp only [List.flatMap_cons, List.length_append, List.length_cons, wcell_len]; omega,
   _, _, rfl, (by intro h; cases h), Nat.le_refl _, fun i u hu => ⟨_, _, rfl, by rw [cell_of_block (block_alloc w _)]; simpa using hu⟩⟩

theorem takeL (w : World) (X : Nat → Prop) (b0 tb : Nat) (T : LkT) (h : Lkd w X b0 tb T) (m : Nat) (hm : Fits T m) (hm9 : m ≤ 1000000) (hb0 : b0 ≤ w.heap.size) (tx : ByteArray) (htx : tx.size ≤ maxLen) (l : List WantT) (hn : l.length ≤ 100000) (hsz : ∀ x ∈ l, x.1.size ≤ maxLen) :
    Calls Try.prog 9 #[.pointer (some ⟨tb, 0, none⟩), .string tx, .slice (some ⟨w.heap.size, 0, none⟩) l.length l.length] (w.alloc (.cells (l.flatMap wcell).toArray 27)) fun e w' => e = .returned (.int .i64 (takeE T tx.data.toList l)) ∧ (∃ X', (∀ k, X k → X' k) ∧ Lkd w' X' b0 tb (takeS T tx.data.toList l)) ∧ Fr (Own X b0) w w' := by
  have ha : Fr (fun _ => False) w (w.alloc (.cells (l.flatMap wcell).toArray 27)) := Fr.alloc _ _ _
  refine (takeD _ _ b0 tb T (h.also ha) m hm hm9 (Nat.le_trans hb0 ha.size) tx htx _ l (readsW w l _ rfl _) (fun b hb => ?_) hn hsz).mono ?_
  · injection hb with hb
    left; right
    subst hb
    exact ⟨Nat.le_refl _, lt_of_block (block_alloc w _)⟩
  · rintro e w' ⟨rfl, h1, h2⟩
    exact ⟨rfl, ⟨_, fun k hk => .inl hk, h1⟩, (ha.mono (fun _ _ h => h.elim)).trans h2 (fun k _ hk => ⟨hk.1, fun hx => hk.2 (.inl hx)⟩)⟩

theorem held_of {T : LkT} (h : T.names.Pairwise (fun x y => leB x y = true)) (tx : Bs) : heldT T tx = T.names.filter (fun s => decide (0 < T.how s tx)) := by
  unfold heldT sortB; rw [List.mergeSort_of_pairwise h]
def ca : ByteArray := ⟨#[97]⟩
def cb : ByteArray := ⟨#[98]⟩
def cx : ByteArray := ⟨#[120]⟩
def kT1 : LkT := takeT emptyT ca.data.toList [(cx, true)]
theorem k1 : takeS emptyT ca.data.toList [(cx, true)] = kT1 := rfl
theorem k2 : takeE emptyT ca.data.toList [(cx, true)] = 0 := rfl
theorem k3 : takeE kT1 cb.data.toList [(cx, false)] = 35 := by decide
theorem k4 : takeS kT1 cb.data.toList [(cx, false)] = kT1 := by unfold takeS; rw [k3]; rfl
theorem k5 : heldT kT1 ca.data.toList = [cx.data.toList] := by
  rw [held_of (by decide)]; decide
theorem k6 : takeE (freeT kT1 ca.data.toList) cb.data.toList [(cx, false)] = 0 := by
  unfold freeT; rw [k5]; decide
theorem fits0 : Fits emptyT 0 := ⟨Nat.le_refl _, fun _ => Nat.le_refl _⟩

set_option maxRecDepth 100000 in
set_option maxHeartbeats 3200000 in
theorem known_any (w : World) : Calls Try.prog 12 #[] w fun e w' => e = .returned (.bool true) ∧ Fr (fun _ => False) w w' := by
  go_enter Try.func12, Try.ntmps12
  go_wp2_with fail
  refine (newD w).mono ?_
  rintro e w1 ⟨tb, rfl, h, hf⟩
  have F1 := hide (hf.mono (S' := fun k => w.heap.size ≤ k) (fun _ _ h => h.elim))
  have s1 := hf.size
  have t1 := takeL w1 _ _ tb _ h 0 fits0 (by decide) s1 ca (by decide) [(cx, true)] (by decide) (by decide)
  rw [k2] at t1
  have T1 := hide t1
  clear h hf t1
  go_wp2_with fail
  refine T1.out.mono ?_
  rintro e w2 ⟨rfl, ⟨X2, -, h⟩, hf⟩
  rw [k1] at h
  have f2 : Fits kT1 1 := fits_take ca.data.toList [(cx, true)] fits0
  have F2 := hide (F1.out.trans (hf.mono (S' := fun k => w.heap.size ≤ k) (fun _ _ h => h.1)) (fun _ _ h => h))
  have s2 := F2.out.size
  have t1 := takeL w2 _ _ tb _ h 1 f2 (by decide) s2 cb (by decide) [(cx, false)] (by decide) (by decide)
  rw [k3, k4] at t1
  have T1 := hide t1
  clear h hf t1
  go_wp2_with fail
  refine T1.out.mono ?_
  rintro e w3 ⟨rfl, ⟨X3, -, h⟩, hf⟩
  have F3 := hide (F2.out.trans (hf.mono (S' := fun k => w.heap.size ≤ k) (fun _ _ h => h.1)) (fun _ _ h => h))
  have s3 := F3.out.size
  have t1 := freeD w3 _ _ tb _ h 1 f2 (by decide) ca (by decide)
  rw [k5] at t1
  have T1 := hide t1
  clear h hf t1
  go_wp2_with fail
  refine T1.out.mono ?_
  rintro e w4 ⟨rfl, h, hf⟩
  have F4 := hide (F3.out.trans (hf.mono (S' := fun k => w.heap.size ≤ k) (fun _ _ h => h.1)) (fun _ _ h => h))
  have s4 := F4.out.size
  have t1 := takeL w4 _ _ tb _ h 1 (fits_free f2 _) (by decide) s4 cb (by decide) [(cx, false)] (by decide) (by decide)
  rw [k6] at t1
  have T1 := hide t1
  clear h hf t1
  go_wp2_with fail
  refine T1.out.mono ?_
  rintro e w5 ⟨rfl, -, hf⟩
  have F5 := hide (F4.out.trans (hf.mono (S' := fun k => w.heap.size ≤ k) (fun _ _ h => h.1)) (fun _ _ h => h))
  clear hf
  go_wp2_with fail
  go_ret
  exact ⟨rfl, F5.out.fresh (fun _ h => h)⟩
end Go.Proofs.Ytkboipnfpcngcaa
