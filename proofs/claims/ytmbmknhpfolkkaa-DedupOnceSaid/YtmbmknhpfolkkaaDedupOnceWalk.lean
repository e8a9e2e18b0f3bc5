/- DedupOnce's walk. -/
import Derived.Test.YtmbmknhpfolkkaaKnownDedup
import Derived.Laws.Runes
import Derived.Deep.CutBlock
namespace Go.Proofs.Ytmbmknhpfolkkaa.DedupOnce
open Go.RowKit Go.Maps Go.Cv Go.Shelf
set_option linter.unusedVariables false

def cl : ByteArray := ⟨#[99, 108, 105, 101, 110, 116]⟩
/-- What the table holds when j requests are done. -/
def lst : Nat → List L3
  | 0 => []
  | j + 1 => [(cl, j, Utf8.encode (97 + (j : Int)))]
theorem lst_len (j : Nat) : (lst j).length ≤ 1 := by cases j <;> simp [lst]
theorem ask_new (j : Nat) : askT (lst j) cl j = (1, ⟨#[]⟩) := by
  cases j with
  | zero => rfl
  | succ j => 
    have e : (lst (j + 1)).find? (is cl) = some (cl, (j : Int), Utf8.encode (97 + (j : Int))) := by simp [lst, is]
    unfold askT; rw [e]; simp only [if_pos (show (j : Int) < ((j + 1 : Nat) : Int) by omega)]
theorem ask_again (j : Nat) : askT (lst (j + 1)) cl j = (2, Utf8.encode (97 + (j : Int))) := by
  have e : (lst (j + 1)).find? (is cl) = some (cl, (j : Int), Utf8.encode (97 + (j : Int))) := by simp [lst, is]
  unfold askT; rw [e]; simp
theorem ask_past (j : Nat) : (askT (lst (j + 2)) cl j).1 = 3 := by
  have e : (lst (j + 2)).find? (is cl) = some (cl, ((j + 1 : Nat) : Int), Utf8.encode (97 + ((j + 1 : Nat) : Int))) := by simp [lst, is]
  unfold askT; rw [e]; simp only [if_neg (show ¬ ((j + 1 : Nat) : Int) < (j : Int) by omega), if_neg (show ¬ (j : Int) = ((j + 1 : Nat) : Int) by omega)]
theorem done_new (j : Nat) : doneT 4 (lst j) cl j (Utf8.encode (97 + (j : Int))) = lst (j + 1) := by
  have e : (lst j).eraseP (is cl) = [] := by cases j <;> simp [lst, is]
  unfold doneT; rw [e]; simp [lose, lst]

set_option maxRecDepth 100000 in
set_option maxHeartbeats 1600000 in
theorem walk (w : World) (v0 : Value) (l : List Int) (h0 : Reads w v0 l.length 1 (l.flatMap fun z => [.int .i64 z])) (hwf : ∀ x ∈ l, (Lit.int .i64 x).wf = true) (hl : l.length ≤ maxLen) :
    Calls Try.prog 3 #[v0] w fun e w' => e = .returned (.bool true) ∧ Below w.heap.size w w' := by
  obtain ⟨n0, hn0⟩ : ∃ n, l.length = n := ⟨_, rfl⟩
  rw [hn0] at h0 hl
  unfold maxLen at hl
  obtain ⟨-, a0, c0, rfl, -, -, hc0⟩ := h0
  have HC0 := hide hc0
  have HN0 := hide hn0
  have HWF := hide hwf
  clear hc0 hn0 hwf
  go_enter Try.func3, Try.ntmps3
  go_wp2_with fail
  refine (new_ok w 4 (by omega) (by omega)).mono ?_
  rintro e w1 ⟨rfl, h1, hf1⟩
  have T1 := hide (tbl_new (B := w.heap.size) h1)
  have F1 := hide hf1
  clear h1 hf1
  go_wp2_with fail
  go_loopw [5, 6] (fun d i wr => ∃ j : Nat, i = .int .i64 j ∧ d = .int .i64 j ∧ j ≤ n0 ∧ j ≤ 30 ∧ Tbl wr w.heap.size w.heap.size 4 (lst j) ∧ Fr (fun x => w.heap.size ≤ x) w wr)
    (fun _ i _ => 30 - (intOf i).toNat)
  case atStart => exact ⟨0, rfl, rfl, Nat.zero_le _, by omega, T1.out, F1.out.mono (fun _ _ h => h.elim)⟩
  case round =>
    obtain ⟨j, rfl, rfl, hj, hj30, ht, hf⟩ := hrel
    have HT := hide ht
    have HF := hide hf
    clear ht hf
    by_cases hgo : j < n0 ∧ j < 30
    · obtain ⟨hg1, hg2⟩ := hgo
      obtain ⟨x, hx⟩ : ∃ x, l[j]? = some x := ⟨_, List.getElem?_eq_getElem (by have := HN0.out; omega)⟩
      have hwx := HWF.out x (List.mem_of_getElem? hx)
      obtain ⟨b0, o0, rfl, e1⟩ := HC0.out j (.int .i64 x) (by rw [flat_one, List.getElem?_map, hx]; rfl)
      have hbl := World.block_lt_of_cell? w _ e1
      have e1' : wr.cell? ⟨b0, o0 + j, none⟩ = some (.int .i64 x) := by rw [World.cell?_of_block (w := w) (HF.out.block b0 hbl (by simp at hbl ⊢; omega))]; exact e1
      have ik0 : (0 : Int) ≤ (j : Int) := by omega
      have ik1 : (j : Int) < (n0 : Int) := by omega
      have hx0 := wf_bounds hwx
      have hj1 := ask_new j
      have hj2 := ask_again j
      have hj3 := done_new j
      have J1 := hide hj1
      have J2 := hide hj2
      have J3 := hide hj3
      obtain ⟨hx1, hx2⟩ := hx0
      clear hx hwx e1 hj1 hj2 hj3
      by_cases hneg : x < 0
      case' pos =>
        have hm0 : 0 ≤ -(x + 1) := by omega
        have hm1 : -(x + 1) ≤ 9223372036854775807 := by omega
        go_upto_region 11 with fail
        generalize -(x + 1) = m at *
      case' neg =>
        have hm0 : 0 ≤ x := by omega
        have hm1 : x ≤ 9223372036854775807 := by omega
        go_upto_region 11 with fail
        generalize x = m at *
      all_goals
        go_wp2_with fail
        go_loopw [5, 8] (fun d i wx => ∃ k : Nat, i = .int .i64 k ∧ k ≤ 4 ∧ ((k = 0 ∧ d = .int .i64 j ∧ Tbl wx w.heap.size w.heap.size 4 (lst j)) ∨ (0 < k ∧ d = .int .i64 (j + 1) ∧ Tbl wx w.heap.size w.heap.size 4 (lst (j + 1)))) ∧ Fr (fun x => w.heap.size ≤ x) w wx)
          (fun _ i _ => 4 - (intOf i).toNat)
        case atStart => exact ⟨0, rfl, Nat.zero_le _, .inl ⟨rfl, rfl, HT.out⟩, HF.out⟩
        case round =>
          obtain ⟨k, rfl, hk4, hst, hf⟩ := hrel
          have HF2 := hide hf
          clear hf
          by_cases hkm : (k : Int) ≤ m % 4
          · rcases hst with ⟨rfl, rfl, ht⟩ | ⟨hk0, rfl, ht⟩
            · have hB := HF2.out.size
              have HT2 := hide ht
              clear ht
              have hkm0 : (0 : Int) ≤ m % 4 := by omega
              go_wp2_with fail
              refine (askTbl _ _ _ _ _ HT2.out (by have := lst_len j; unfold maxLen; omega) cl j).mono ?_
              rw [J1.out]
              rintro e w2 ⟨rfl, ht, hf⟩
              have HT3 := hide ht
              have HF3 := hide hf
              have hB3 := hf.size
              clear ht hf
              go_wp2_with fail
              refine (doneTbl _ _ _ _ _ HT3.out (by have := lst_len j; omega) (by omega) (Nat.le_refl _) cl j _ (by rw [J1.out])).mono ?_
              rw [J3.out]
              rintro e w3 ⟨rfl, ht, hf⟩
              have HT4 := hide ht
              have HF4 := hide hf
              clear ht hf
              go_wp2_with fail
              go_roundw
              case rel => exact ⟨1, by first | rfl | go_num, by omega, .inr ⟨by omega, by first | rfl | go_num, HT4.out⟩, (HF2.out.trans HF3.out (fun _ _ h => h.elim)).trans HF4.out (fun _ _ h => h)⟩
              case measure => simp [intOf]
            · have HT2 := hide ht
              clear ht
              have hkb : ((k : Int) == 0) = false := by rw [beq_eq_false_iff_ne]; omega
              have hk3 : (k : Int) ≤ 3 := by omega
              go_wp2_with fail
              refine (askTbl _ _ _ _ _ HT2.out (by have := lst_len (j + 1); unfold maxLen; omega) cl j).mono ?_
              rw [J2.out]
              rintro e w2 ⟨rfl, ht, hf⟩
              have HT3 := hide ht
              have HF3 := hide hf
              clear ht hf
              go_wp2_with fail
              go_roundw
              case rel => exact ⟨k + 1, by go_num, by omega, .inr ⟨by omega, rfl, HT3.out⟩, HF2.out.trans HF3.out (fun _ _ h => h.elim)⟩
              case measure => simp [intOf]; omega
          · have hst' : 0 < k ∧ u5 = .int .i64 (j + 1) ∧ Tbl wr w.heap.size w.heap.size 4 (lst (j + 1)) := by
              rcases hst with ⟨rfl, _, _⟩ | h
              · omega
              · exact h
            clear hst
            obtain ⟨_, rfl, ht⟩ := hst'
            have HT2 := hide ht
            clear ht
            cases j with
            | zero =>
              go_wp2_with fail
              go_roundw
              case rel => exact ⟨1, by first | rfl | go_num, by first | rfl | go_num, by omega, by omega, HT2.out, HF2.out⟩
              case measure => simp [intOf]
            | succ j =>
              have hp := ask_past j
              obtain ⟨u, hu⟩ : ∃ u, askT (lst (j + 1 + 1)) cl j = (3, u) := ⟨(askT (lst (j + 2)) cl j).2, by rw [← hp]⟩
              have HU := hide hu
              have hjp : (0 : Int) < ((j + 1 : Nat) : Int) := by omega
              have hjm : ((j + 1 : Nat) : Int) - 1 = (j : Int) := by omega
              clear hp hu
              go_wp2_with fail
              refine (askTbl _ _ _ _ _ HT2.out (by have := lst_len (j + 1 + 1); unfold maxLen; omega) cl j).mono ?_
              rw [HU.out]
              rintro e w2 ⟨rfl, ht, hf⟩
              have HT3 := hide ht
              have HF3 := hide hf
              clear ht hf
              go_wp2_with fail
              go_roundw
              case rel => exact ⟨j + 1 + 1, by go_num, by go_num, by omega, by omega, HT3.out, HF2.out.trans HF3.out (fun _ _ h => h.elim)⟩
              case measure => simp [intOf]; omega
    · have hex : n0 ≤ j ∨ (j < n0 ∧ 30 ≤ j) := by omega
      clear hgo
      rcases hex with hx | ⟨hx, hx2⟩
      · have hjn : j = n0 := by omega
        subst hjn
        go_wp2_with fail
        refine (known_any _).mono ?_
        rintro e w10 ⟨rfl, hf10⟩
        go_wp2_with fail
        go_ret
        exact ⟨rfl, (HF.out.trans hf10 (fun j _ hj => hj.elim)).toBelow (Nat.le_refl _) (fun j hj h => by omega)⟩
      · have hj3 : j = 30 := by omega
        subst hj3
        by_cases h30 : n0 = 30
        · omega
        · have hne : ((30 : Int) == (n0 : Int)) = false := by rw [beq_eq_false_iff_ne]; omega
          go_wp2_with fail
          refine (known_any _).mono ?_
          rintro e w10 ⟨rfl, hf10⟩
          go_wp2_with fail
          go_ret
          exact ⟨rfl, (HF.out.trans hf10 (fun j _ hj => hj.elim)).toBelow (Nat.le_refl _) (fun j hj h => by omega)⟩
end Go.Proofs.Ytmbmknhpfolkkaa.DedupOnce
