/- A table of locks, its blocks not named. -/
import Derived.Test.YtkboipnfpcngcaaLkFreeW
import Derived.Test.YtkboipnfpcngcaaLkAll
import Derived.Test.YtkboipnfpcngcaaTexts
namespace Go.Proofs.Ytkboipnfpcngcaa
open Go.RowKit Go.Maps Go.Cv
set_option linter.unusedVariables false

def Fits (T : LkT) (m : Nat) : Prop := T.names.length ≤ m ∧ ∀ s, (T.whos s).length ≤ m
theorem Fits.mono {T : LkT} {m m' : Nat} (h : Fits T m) (hm : m ≤ m') : Fits T m' := ⟨Nat.le_trans h.1 hm, fun s => Nat.le_trans (h.2 s) hm⟩
theorem addB_le (l : List Bs) (u : Bs) : (addB l u).length ≤ l.length + 1 := by unfold addB; split <;> simp
theorem fits_put {T : LkT} {m : Nat} (h : Fits T m) (tx : Bs) (x : WantT) : Fits (putW tx T x) (m + 1) := by
  refine ⟨Nat.le_trans (addB_le _ _) (Nat.succ_le_succ h.1), fun s => ?_⟩
  show (if s = x.1.data.toList then addB (T.whos x.1.data.toList) tx else T.whos s).length ≤ _
  split
  · exact Nat.le_trans (addB_le _ _) (Nat.succ_le_succ (h.2 _))
  · exact Nat.le_succ_of_le (h.2 s)
theorem fits_take (tx : Bs) : ∀ (l : List WantT) {T : LkT} {m : Nat}, Fits T m → Fits (takeT T tx l) (m + l.length)
  | [], T, m, h => h
  | x :: r, T, m, h => (fits_take tx r (fits_put h tx x)).mono (by simp; omega)
theorem fits_takeS {T : LkT} {m : Nat} (h : Fits T m) (tx : Bs) (l : List WantT) : Fits (takeS T tx l) (m + l.length) := by
  unfold takeS; split
  · exact fits_take tx l h
  · exact h.mono (Nat.le_add_right _ _)
theorem fits_free1 {T : LkT} {m : Nat} (h : Fits T m) (u s : Bs) : Fits (free1 u T s) m := by
  have h1 : Fits (unholdT T s u) m := ⟨h.1, fun x => by
    show (if x = s then (T.whos s).filter (ne u) else T.whos x).length ≤ m
    split
    · exact Nat.le_trans (List.length_filter_le _ _) (h.2 s)
    · exact h.2 x⟩
  unfold free1; split
  · exact ⟨Nat.le_trans (List.length_filter_le _ _) h1.1, h1.2⟩
  · exact h1
theorem fits_free {T : LkT} {m : Nat} (h : Fits T m) (u : Bs) : Fits (freeT T u) m := by
  unfold freeT
  generalize heldT T u = l
  induction l generalizing T with
  | nil => exact h
  | cons s r ih => exact ih (fits_free1 h u s)

def Lkd (w : World) (X : Nat → Prop) (b0 tb : Nat) (T : LkT) : Prop := ∃ ob mb, Lk w X b0 tb ob mb T ∧ LkOk T
section
variable {w w' : World} {X : Nat → Prop} {b0 tb : Nat} {T : LkT}
theorem Lkd.fr0 (h : Lkd w X b0 tb T) (g : Fr (fun _ => False) w w') : Lkd w' X b0 tb T := by obtain ⟨ob, mb, h1, h2⟩ := h; exact ⟨ob, mb, h1.fr0 g, h2⟩
theorem Lkd.also (h : Lkd w X b0 tb T) (g : Fr (fun _ => False) w w') : Lkd w' (fun k => X k ∨ (w.heap.size ≤ k ∧ k < w'.heap.size)) b0 tb T := by
  obtain ⟨ob, mb, h1, h2⟩ := h
  have h3 := h1.fr0 g
  refine ⟨ob, mb, ⟨h3.blk, h3.out, h3.inn, h3.t0, h3.o0, h3.m0, h3.d, h3.dt, h3.inj, ?_, ?_, fun s hs => ?_, ?_⟩, h2⟩
  · rintro (e | e)
    · exact h1.xt e
    · have := h1.lt; omega
  · rintro (e | e)
    · exact h1.xo e
    · have := h1.out.lt; omega
  · rintro (e | e)
    · exact h1.xm s hs e
    · have := (h1.inn s hs).lt; omega
  · rintro k (e | e)
    · exact h3.xl k e
    · exact e.2
theorem Lkd.ok (h : Lkd w X b0 tb T) : LkOk T := by obtain ⟨ob, mb, h1, h2⟩ := h; exact h2
end
theorem newD (w : World) : Calls Try.prog 8 #[] w fun e w' => ∃ tb, e = .returned (.pointer (some ⟨tb, 0, none⟩)) ∧ Lkd w' (fun k => k < w.heap.size) w.heap.size tb emptyT ∧ Fr (fun _ => False) w w' := by
  refine (newLk_any w).mono ?_
  rintro e w' ⟨tb, ob, rfl, h, hf⟩
  exact ⟨tb, rfl, ⟨ob, fun _ => 0, h _, ok_empty⟩, hf⟩
theorem takeD2 (w : World) (X : Nat → Prop) (b0 tb : Nat) (T : LkT) (h : Lkd w X b0 tb T) (m : Nat) (hm : Fits T m) (hm9 : m ≤ 1000000) (hb0 : b0 ≤ w.heap.size) (tx : ByteArray) (htx : tx.size ≤ maxLen) (v : Value) (l : List WantT) (hl : Reads w v l.length 2 (l.flatMap wcell)) (hla : 0 < l.length → ∀ b, foot v = some b → X b ∨ b < b0) (hn : l.length ≤ 100000) (hsz : ∀ x ∈ l, x.1.size ≤ maxLen) :
    Calls Try.prog 9 #[.pointer (some ⟨tb, 0, none⟩), .string tx, v] w fun e w' => e = .returned (.int .i64 (takeE T tx.data.toList l)) ∧ Lkd w' X b0 tb (takeS T tx.data.toList l) ∧ Fr (Own X b0) w w' := by
  obtain ⟨ob, mb, h1, ok⟩ := h
  have hl' := hl
  obtain ⟨-, a, cp, rfl, -, -, -⟩ := hl'
  refine (take_any w X b0 tb ob mb T h1 ok hb0 tx htx a l.length cp l hl (fun h0 b hb ho => ?_) rfl hn hsz (fun k hk => ?_)).mono ?_
  · rcases hla h0 b hb with e | e
    · exact ho.2 e
    · have := ho.1; omega
  · have h2 := fits_take tx.data.toList (l.take k) hm
    have h3 : (l.take k).length ≤ l.length := by rw [List.length_take]; exact Nat.min_le_right _ _
    refine ⟨by have := h2.1; unfold maxLen; omega, fun s => by have := h2.2 s; unfold maxLen; omega⟩
  · rintro e w' ⟨rfl, ⟨mb', h4⟩, h5⟩
    refine ⟨rfl, ⟨ob, mb', h4, ?_⟩, h5⟩
    unfold takeS; split
    · exact take_ok (by simpa using htx) l ok hsz
    · exact ok
theorem takeD (w : World) (X : Nat → Prop) (b0 tb : Nat) (T : LkT) (h : Lkd w X b0 tb T) (m : Nat) (hm : Fits T m) (hm9 : m ≤ 1000000) (hb0 : b0 ≤ w.heap.size) (tx : ByteArray) (htx : tx.size ≤ maxLen) (v : Value) (l : List WantT) (hl : Reads w v l.length 2 (l.flatMap wcell)) (hla : ∀ b, foot v = some b → X b ∨ b < b0) (hn : l.length ≤ 100000) (hsz : ∀ x ∈ l, x.1.size ≤ maxLen) :
    Calls Try.prog 9 #[.pointer (some ⟨tb, 0, none⟩), .string tx, v] w fun e w' => e = .returned (.int .i64 (takeE T tx.data.toList l)) ∧ Lkd w' X b0 tb (takeS T tx.data.toList l) ∧ Fr (Own X b0) w w' :=
  takeD2 w X b0 tb T h m hm hm9 hb0 tx htx v l hl (fun _ => hla) hn hsz
theorem freeD (w : World) (X : Nat → Prop) (b0 tb : Nat) (T : LkT) (h : Lkd w X b0 tb T) (m : Nat) (hm : Fits T m) (hm9 : m ≤ 1000000) (tx : ByteArray) (htx : tx.size ≤ maxLen) :
    Calls Try.prog 10 #[.pointer (some ⟨tb, 0, none⟩), .string tx] w fun e w' => e = .returned (.bool (decide (0 < (heldT T tx.data.toList).length))) ∧ Lkd w' X b0 tb (freeT T tx.data.toList) ∧ Fr (Own X b0) w w' := by
  obtain ⟨ob, mb, h1, ok⟩ := h
  refine (free_any w X b0 tb ob mb T h1 ok tx htx (Nat.le_trans hm.1 hm9)).mono ?_
  rintro e w' ⟨rfl, h2, h3, h4⟩
  exact ⟨rfl, ⟨ob, mb, h2, h3⟩, h4⟩
theorem holdersD (w : World) (X : Nat → Prop) (b0 tb : Nat) (T : LkT) (h : Lkd w X b0 tb T) (m : Nat) (hm : Fits T m) (hm9 : m ≤ 1000000) (c : ByteArray) (hc : c.size ≤ maxLen) :
    Calls Try.prog 11 #[.pointer (some ⟨tb, 0, none⟩), .string c] w fun e w' => ∃ v, e = .returned v ∧ w'.ownsRow w.heap.size 9 1 v (sortB (T.whos c.data.toList)).length ((sortB (T.whos c.data.toList)).map encStr) ∧ Fr (fun _ => False) w w' := by
  obtain ⟨ob, mb, h1, ok⟩ := h
  exact holders_any w X b0 tb ob mb T h1 ok c hc (Nat.le_trans (hm.2 _) hm9)
theorem writerD (w : World) (X : Nat → Prop) (b0 tb : Nat) (T : LkT) (h : Lkd w X b0 tb T) (m : Nat) (hm : Fits T m) (hm9 : m ≤ 1000000) (c : ByteArray) (hc : c.size ≤ maxLen) :
    Calls Try.prog 16 #[.pointer (some ⟨tb, 0, none⟩), .string c] w fun e w' => e = .returned (wrV (writerT T c.data.toList)) ∧ Fr (fun _ => False) w w' := by
  obtain ⟨ob, mb, h1, ok⟩ := h
  exact writer_any w X b0 tb ob mb T h1 ok c hc (Nat.le_trans (hm.2 _) hm9)
theorem heldD (w : World) (X : Nat → Prop) (b0 tb : Nat) (T : LkT) (h : Lkd w X b0 tb T) (m : Nat) (hm : Fits T m) (hm9 : m ≤ 1000000) (tx : ByteArray) (htx : tx.size ≤ maxLen) :
    Calls Try.prog 14 #[.pointer (some ⟨tb, 0, none⟩), .string tx] w fun e w' => ∃ v, e = .returned v ∧ w'.ownsRow w.heap.size 9 1 v (heldT T tx.data.toList).length ((heldT T tx.data.toList).map encStr) ∧ Fr (fun _ => False) w w' := by
  obtain ⟨ob, mb, h1, ok⟩ := h
  exact held_any w X b0 tb ob mb T h1 ok tx htx (Nat.le_trans hm.1 hm9)
theorem flat_len {f : Bs → List Bs} {m : Nat} (h : ∀ s, (f s).length ≤ m) : ∀ l : List Bs, (l.flatMap f).length ≤ l.length * m
  | [] => by simp
  | x :: r => by
    rw [List.flatMap_cons, List.length_append, List.length_cons, Nat.succ_mul]
    have := flat_len h r; have := h x; omega
theorem allD (w : World) (X : Nat → Prop) (b0 tb : Nat) (T : LkT) (h : Lkd w X b0 tb T) (m : Nat) (hm : Fits T m) (hm9 : m ≤ 1000) :
    Calls Try.prog 13 #[.pointer (some ⟨tb, 0, none⟩)] w fun e w' => ∃ v l, e = .returned v ∧ IsAll T l ∧ w'.ownsRow w.heap.size 9 1 v l.length (l.map encStr) ∧ Fr (fun _ => False) w w' := by
  obtain ⟨ob, mb, h1, ok⟩ := h
  refine all_any w X b0 tb ob mb T h1 ok (T.names.flatMap T.whos) (fun s u hu => List.mem_flatMap.2 ⟨s, (ok.ne s).2 (fun e => by rw [e] at hu; cases hu), hu⟩) ?_
  have h2 := flat_len hm.2 T.names
  have h3 : T.names.length * m ≤ 1000 * 1000 := Nat.mul_le_mul (Nat.le_trans hm.1 hm9) hm9
  omega
end Go.Proofs.Ytkboipnfpcngcaa
