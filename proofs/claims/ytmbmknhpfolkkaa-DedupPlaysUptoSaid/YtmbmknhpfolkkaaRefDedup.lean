/- The document's table of requests. -/
import Derived.Test.YtmbmknhpfolkkaaDedup4
import Derived.Deep.CutBlock
namespace Go.Proofs.Ytmbmknhpfolkkaa
open Go.RowKit Go.Maps Go.Cv Go.Shelf
set_option linter.unusedVariables false

def rc (x : L3) : List Value := [.string x.1, .string x.2.2, .int .i64 x.2.1]
theorem rc_len (x : L3) : (rc x).length = 3 := rfl
def rowR (l : List L3) : List Value := l.flatMap rc
theorem rowR_len (l : List L3) : (rowR l).length = l.length * 3 := flat_len rc 3 rc_len l
theorem rowR_append (l m : List L3) : rowR (l ++ m) = rowR l ++ rowR m := by simp [rowR]
theorem rowR_take : ∀ (l : List L3) (m : Nat), rowR (l.take m) = (rowR l).take (m * 3)
  | [], m => by simp [rowR]
  | x :: r, 0 => by simp [rowR]
  | x :: r, m + 1 => by
    rw [List.take_succ_cons, show rowR (x :: r) = rc x ++ rowR r by simp [rowR], show rowR (x :: r.take m) = rc x ++ rowR (r.take m) by simp [rowR], List.take_append, rc_len, show (m + 1) * 3 - 3 = m * 3 by omega, rowR_take r m, List.take_of_length_le (show (rc x).length ≤ (m + 1) * 3 by rw [rc_len]; omega)]
theorem rowR_drop : ∀ (l : List L3) (m : Nat), rowR (l.drop m) = (rowR l).drop (m * 3)
  | [], m => by simp [rowR]
  | x :: r, 0 => by simp [rowR]
  | x :: r, m + 1 => by
    rw [List.drop_succ_cons, show rowR (x :: r) = rc x ++ rowR r by simp [rowR], List.drop_append, rc_len, show (m + 1) * 3 - 3 = m * 3 by omega, rowR_drop r m, List.drop_eq_nil_of_le (show (rc x).length ≤ (m + 1) * 3 by rw [rc_len]; omega)]; rfl
theorem rowR_one (l : List L3) : ∀ u ∈ rowR l, u.oneCell' = true := by
  intro u hu
  simp only [rowR, List.mem_flatMap, rc, List.mem_cons, List.not_mem_nil, or_false] at hu
  obtain ⟨x, _, rfl | rfl | rfl⟩ := hu <;> rfl

/-- Block rb is the document's table. -/
structure Rt (w : World) (rb : Nat) (u : Value) (most : Int) (l : List L3) : Prop where
  blk : w.heap[rb]? = some (.cells #[.int .i64 most, u] 70 (0, 0))
  own : w.ownsRow (rb + 1) 72 3 u l.length (rowR l)
theorem Rt.fr {w w' : World} {rb : Nat} {u : Value} {most : Int} {l : List L3} (h : Rt w rb u most l) {S : Nat → Prop} (g : Fr S w w') (h1 : ¬ S rb) (h2 : ∀ k, u.ownBlock = some k → ¬ S k) : Rt w' rb u most l :=
  ⟨(g.block _ (lt_of_block h.blk) h1).trans h.blk, ownsRow_fr h.own g h2⟩
theorem Rt.fr0 {w w' : World} {rb : Nat} {u : Value} {most : Int} {l : List L3} (h : Rt w rb u most l) (g : Fr (fun _ => False) w w') : Rt w' rb u most l := h.fr g id (fun _ _ => id)
theorem Rt.c0 {w : World} {rb : Nat} {u : Value} {most : Int} {l : List L3} (h : Rt w rb u most l) : w.cell? ⟨rb, 0, none⟩ = some (.int .i64 most) := by rw [cell_of_block h.blk]; rfl
theorem Rt.c1 {w : World} {rb : Nat} {u : Value} {most : Int} {l : List L3} (h : Rt w rb u most l) : w.cell? ⟨rb, 1, none⟩ = some u := by rw [cell_of_block h.blk]; rfl

theorem rNew_any (w : World) (most : Int) :
    Calls Try.prog 16 #[.int .i64 most] w fun e w' => e = .returned (.pointer (some ⟨w.heap.size, 0, none⟩)) ∧ Rt w' w.heap.size (.slice none 0 0) most [] ∧ Fr (fun _ => False) w w' := by
  go_enter Try.func16, Try.ntmps16
  go_wp2
  go_ret
  exact ⟨rfl, ⟨block_alloc w _, World.ownsRow_nil _ _ _ _⟩, Fr.alloc _ _ _⟩

set_option maxRecDepth 100000 in
set_option maxHeartbeats 800000 in
theorem rFind_any (w : World) (rb : Nat) (u : Value) (most : Int) (l : List L3) (h : Rt w rb u most l) (hl : l.length ≤ 1000000) (c : ByteArray) (r : Int) (hr : Found l c r) :
    Calls Try.prog 33 #[.pointer (some ⟨rb, 0, none⟩), .string c] w fun e w' => e = .returned (.int .i64 r) ∧ w' = w := by
  obtain ⟨n, hn⟩ : ∃ n, l.length = n := ⟨_, rfl⟩
  have hrd := Reads.of_own h.own
  rw [hn] at hrd hl
  obtain ⟨-, a, cp, rfl, -, -, -⟩ := id hrd
  have c1 := h.c1
  have H := hide hrd
  have HN := hide hn
  have HR := hide hr
  have hn9 : (n : Int) ≤ 1000000 := by omega
  clear h hrd hn hr
  go_enter Try.func33, Try.ntmps33
  go_wp2
  go_loopw [5] (fun i wr => ∃ k : Nat, i = .int .i64 k ∧ k ≤ n ∧ wr = w ∧ Hid (∀ j y, j < k → l[j]? = some y → y.1 ≠ c)) (fun i _ => n - (intOf i).toNat)
  case atStart => exact ⟨0, rfl, Nat.zero_le _, rfl, fun j y hj => absurd hj (Nat.not_lt_zero _)⟩
  case round =>
    obtain ⟨k, rfl, hk, rfl, A⟩ := hrel
    by_cases hlt : k < n
    · obtain ⟨x, hx⟩ : ∃ x, l[k]? = some x := ⟨_, List.getElem?_eq_getElem (by have := HN.out; omega)⟩
      obtain ⟨b0, o0, rfl, hlt0, hcells⟩ := row_cells rc_len H.out hx (by decide)
      obtain ⟨c0, i0, r0⟩ := x
      have e0 := hcells 0 (.string c0) rfl wr rfl
      rw [Nat.add_zero] at e0
      have ik0 : (0 : Int) ≤ (k : Int) := by omega
      have ik1 : (k : Int) < (n : Int) := by omega
      have HX := hide hx
      clear hcells hx
      by_cases hs : c0 = c
      · subst hs
        have hres : r = k := by
          rcases HR.out with ⟨k', x', h1, h2, h3, rfl⟩ | ⟨h1, rfl⟩
          · rcases Nat.lt_trichotomy k k' with h | h | h
            · exact absurd rfl (h3 k _ h HX.out)
            · omega
            · exact absurd h2 (A.out k' x' h h1)
          · exact absurd rfl (h1 _ (List.mem_of_getElem? HX.out))
        subst hres
        have hsb : (c0.toList == c0.toList) = true := by simp
        go_wp2
        go_ret
        exact ⟨rfl, rfl⟩
      · have hsb := bytes_beq hs
        have HS := hide hs
        clear hs
        go_wp2
        go_roundw
        case rel =>
          refine ⟨k + 1, by go_num, by omega, trivial, fun j y hj hy => ?_⟩
          by_cases e : j < k
          · exact A.out j y e hy
          · have : j = k := by omega
            subst this
            rw [HX.out] at hy; cases hy; exact HS.out
        case measure => simp [intOf]; omega
    · have hres : r = -1 := by
        rcases HR.out with ⟨k', x', h1, h2, h3, rfl⟩ | ⟨h1, rfl⟩
        · have := (List.getElem?_eq_some_iff.1 h1).1
          rw [HN.out] at this
          exact absurd h2 (A.out k' x' (by omega) h1)
        · rfl
      subst hres
      have ik1 : ¬ (k : Int) < (n : Int) := by omega
      go_wp2
      go_ret
      exact ⟨rfl, rfl⟩

set_option maxRecDepth 100000 in
set_option maxHeartbeats 800000 in
theorem rAsk_any (w : World) (rb : Nat) (u : Value) (most : Int) (l : List L3) (h : Rt w rb u most l) (hl : l.length ≤ 1000000) (c : ByteArray) (j : Int) :
    Calls Try.prog 17 #[.pointer (some ⟨rb, 0, none⟩), .string c, .int .i64 j] w fun e w' => e = .returned (.tuple #[.int .i64 (askT l c j).1, .string (askT l c j).2]) ∧ Fr (fun _ => False) w w' := by
  obtain ⟨r, hr⟩ := found_ex l c
  have hfd := rFind_any w rb u most l h hl c r hr
  have HFD := hide hfd
  have c1 := h.c1
  obtain ⟨n, hn⟩ : ∃ n, l.length = n := ⟨_, rfl⟩
  have hrd := Reads.of_own h.own
  rw [hn] at hrd hl
  obtain ⟨-, a, cp, rfl, -, -, -⟩ := id hrd
  have hcase : (r = -1 ∧ askT l c j = (1, ⟨#[]⟩)) ∨ ∃ (k : Nat) (x : L3), r = k ∧ l[k]? = some x ∧ ((x.2.1 < j ∧ askT l c j = (1, ⟨#[]⟩)) ∨ (¬ x.2.1 < j ∧ (j == x.2.1) = true ∧ askT l c j = (2, x.2.2)) ∨ (¬ x.2.1 < j ∧ (j == x.2.1) = false ∧ askT l c j = (3, ⟨#[]⟩))) := by
    rcases found_is hr with ⟨h1, h2⟩ | ⟨k, x, h1, h2, h3, _⟩
    · left; exact ⟨h1, by unfold askT; rw [h2]⟩
    · right
      refine ⟨k, x, h1, h2, ?_⟩
      unfold askT; rw [h3]; simp only
      by_cases e1 : x.2.1 < j
      · left; exact ⟨e1, by rw [if_pos e1]⟩
      · right
        by_cases e2 : j = x.2.1
        · left; exact ⟨e1, by simp [e2], by rw [if_neg e1, if_pos (by omega)]⟩
        · right; exact ⟨e1, by simp [e2], by rw [if_neg e1, if_neg (by omega)]⟩
  rcases hcase with ⟨rfl, hA⟩ | ⟨k, x, rfl, hx, hc⟩
  · rw [hA]
    clear hA hrd hn h hr hfd
    go_enter Try.func17, Try.ntmps17
    go_wp2_with fail
    refine HFD.out.mono ?_
    rintro e w1 ⟨rfl, rfl⟩
    go_wp2_with fail
    go_ret2
    exact ⟨rfl, Fr.refl _ _⟩
  · obtain ⟨b0, o0, rfl, hlt0, hcells⟩ := row_cells rc_len hrd hx (by decide)
    have hkn := (List.getElem?_eq_some_iff.1 hx).1
    obtain ⟨c0, i0, r0⟩ := x
    have e1 := hcells 1 (.string r0) rfl w rfl
    have e2 := hcells 2 (.int .i64 i0) rfl w rfl
    have ik0 : (0 : Int) ≤ (k : Int) := by omega
    have ik1 : (k : Int) < (n : Int) := by omega
    have ik2 : ¬ (k : Int) < 0 := by omega
    simp only at hc
    clear hcells hx hrd hn h hr hfd
    rcases hc with ⟨h1, hA⟩ | ⟨h1, h2, hA⟩ | ⟨h1, h2, hA⟩
    · rw [hA]
      clear hA
      go_enter Try.func17, Try.ntmps17
      go_wp2_with fail
      refine HFD.out.mono ?_
      rintro e w1 ⟨rfl, rfl⟩
      go_wp2_with fail
      go_ret2
      exact ⟨rfl, Fr.refl _ _⟩
    · rw [hA]
      clear hA
      go_enter Try.func17, Try.ntmps17
      go_wp2_with fail
      refine HFD.out.mono ?_
      rintro e w1 ⟨rfl, rfl⟩
      go_wp2_with fail
      go_quiet (fail)
      go_wp2_with fail
      go_ret2
      exact ⟨rfl, (Fr.refl _ _).drewN _⟩
    · rw [hA]
      clear hA
      go_enter Try.func17, Try.ntmps17
      go_wp2_with fail
      refine HFD.out.mono ?_
      rintro e w1 ⟨rfl, rfl⟩
      go_wp2_with fail
      go_ret2
      exact ⟨rfl, Fr.refl _ _⟩

set_option maxRecDepth 100000 in
set_option maxHeartbeats 800000 in
theorem rClients_any (w : World) (rb : Nat) (u : Value) (most : Int) (l : List L3) (h : Rt w rb u most l) (hl : l.length ≤ 1000000) :
    Calls Try.prog 19 #[.pointer (some ⟨rb, 0, none⟩)] w fun e w' => ∃ v', e = .returned v' ∧ w'.ownsRow w.heap.size 9 1 v' l.length (sc (l.map (·.1))) ∧ Fr (fun _ => False) w w' := by
  obtain ⟨i0, hi0, hz0, hz1, hz2⟩ := info_parts infoStr
  obtain ⟨n, hn⟩ : ∃ n, l.length = n := ⟨_, rfl⟩
  have hrd := Reads.of_own h.own
  rw [hn] at hrd hl ⊢
  obtain ⟨-, a, cp, rfl, -, -, -⟩ := id hrd
  have hn9 : (n : Int) ≤ 1000000 := by omega
  have H := hide hrd
  have HN := hide hn
  have HB := hide h.blk
  clear h hrd hn
  go_enter Try.func19, Try.ntmps19
  go_wp2_with fail
  go_loopw [3, 4] (fun v i wr => ∃ k : Nat, i = .int .i64 k ∧ k ≤ n ∧ wr.ownsRow w.heap.size 9 1 v k (sc ((l.take k).map (·.1))) ∧ Fr (fun _ => False) w wr) (fun _ i _ => n - (intOf i).toNat)
  case atStart => exact ⟨0, rfl, Nat.zero_le _, World.ownsRow_nil _ _ _ _, Fr.refl _ _⟩
  case round =>
    obtain ⟨k, rfl, hk, hown, hf⟩ := hrel
    obtain ⟨a9, c9, rfl⟩ := own_shape hown
    have hblk := (hf.block rb (lt_of_block HB.out) id).trans HB.out
    have c1 : wr.cell? ⟨rb, 1, none⟩ = some (.slice a n cp) := by rw [cell_of_block hblk, ← HN.out]; rfl
    have HO := hide hown
    have HF := hide hf
    clear hown hf hblk
    by_cases hlt : k < n
    · obtain ⟨x, hx⟩ : ∃ x, l[k]? = some x := ⟨_, List.getElem?_eq_getElem (by have := HN.out; omega)⟩
      obtain ⟨b0, o0, rfl, hlt0, hcells⟩ := row_cells rc_len H.out hx (by decide)
      obtain ⟨x1, x2, x3⟩ := x
      have e0 := hcells 0 (.string x1) rfl wr (HF.out.block _ hlt0 id)
      rw [Nat.add_zero] at e0
      have ik0 : (0 : Int) ≤ (k : Int) := by omega
      have ik1 : (k : Int) < (n : Int) := by omega
      have hnx : sc ((l.take (k + 1)).map (·.1)) = sc ((l.take k).map (·.1)) ++ [.string x1] := by rw [List.take_add_one, hx]; simp [sc]
      have HNX := hide hnx
      have HOa := hide (HO.out.alloc (.cells #[.string x1] 9))
      have HRd := hide (Reads.built wr [.string x1] 9)
      have hM : k + 1 ≤ maxLen := by unfold maxLen; omega
      have HM2 : Hid ((k + 1) * 16 ≤ 140737488355328) := hide (by omega)
      have HM3 : Hid (w.heap.size ≤ (wr.alloc (.cells #[.string x1] 9)).heap.size) := hide (by have := HF.out.size; simp; omega)
      have HONE : Hid (∀ u ∈ [Value.string x1], u.oneCell' = true) := hide (by simp [Value.oneCell'])
      clear hcells hx hnx
      go_wp2_with (at_builtin; refine wpList_append_reads _ rfl _ _ _ rfl w.heap.size 9 i0 _ 1 16 Try.underlying32 hi0 hz0 hz1 hz2 str_size (by decide) (.slice a9 k c9) k (sc ((l.take k).map (·.1))) rfl HOa.out _ 1 [.string x1] rfl HRd.out HONE.out hM HM2.out HM3.out ?_; intro v2 w4 hown2 hgrow hat; obtain ⟨a2, k2, rfl⟩ := own_shape hown2; have HO2 := hide hown2; have HG2 := hide hgrow; clear hown2 hgrow hat)
      go_roundw
      case rel =>
        have hgr : Fr (fun j => w.heap.size ≤ j) wr w4 := ((Fr.alloc (fun _ => False) wr _).mono (fun _ _ h => h.elim)).trans (Fr.grown (S := fun j => w.heap.size ≤ j) HG2.out (fun j hj => (HO.out.lt j hj).1)) (fun _ _ h => h)
        exact ⟨k + 1, by go_num, by omega, by rw [HNX.out]; exact HO2.out, ((HF.out.mono (S' := fun j => w.heap.size ≤ j) (fun _ _ h => h.elim)).trans hgr (fun _ _ h => h)).fresh (fun _ h => h)⟩
      case measure => simp [intOf]; omega
    · have hkn : k = n := by omega
      subst hkn
      have ik1 : ¬ (k : Int) < (k : Int) := by omega
      have ho := HO.out
      rw [List.take_of_length_le (by have := HN.out; omega)] at ho
      have HO3 := hide ho
      clear ho
      go_wp2_with fail
      go_ret
      exact ⟨_, rfl, HO3.out, HF.out⟩
end Go.Proofs.Ytmbmknhpfolkkaa
