/- Clients of dedup; conclavekeep.Texts. -/
import Derived.Test.YtmbmknhpfolkkaaDedup3
namespace Go.Proofs.Ytmbmknhpfolkkaa
open Go.RowKit Go.Maps Go.Cv Go.Shelf
set_option linter.unusedVariables false

def sc (l : List ByteArray) : List Value := l.map fun s => .string s
theorem sc_len (l : List ByteArray) : (sc l).length = l.length := by simp [sc]
theorem sc_one (l : List ByteArray) : ∀ u ∈ sc l, u.oneCell' = true := by
  intro u hu; simp only [sc, List.mem_map] at hu; obtain ⟨b, _, rfl⟩ := hu; rfl
theorem str_size : (Value.string ⟨#[]⟩).cells.size = 1 := by simp [Value.cells]
theorem infoStr : (Try.prog.info? 9).map (fun i => (i.zero, i.size, i.bytes)) = some (some (.string ⟨#[]⟩), 1, 16) := by kernel_rfl

set_option maxRecDepth 100000 in
set_option maxHeartbeats 800000 in
theorem clients_any (w : World) (tb : Nat) (v : Value) (most : Int) (l : List L3) (h : Tb w tb v most l) (hl : l.length ≤ 1000000) :
    Calls Try.prog 13 #[.pointer (some ⟨tb, 0, none⟩)] w fun e w' => ∃ v', e = .returned v' ∧ w'.ownsRow w.heap.size 9 1 v' l.length (sc (l.map (·.1))) ∧ Fr (fun _ => False) w w' := by
  obtain ⟨i0, hi0, hz0, hz1, hz2⟩ := info_parts infoStr
  have c1 : w.cell? ⟨tb, 1, none⟩ = some v := by rw [cell_of_block h.blk]; rfl
  obtain ⟨n, hn⟩ : ∃ n, l.length = n := ⟨_, rfl⟩
  have hown := Reads.of_own h.own
  rw [hn] at hown hl
  obtain ⟨a, cp, rfl⟩ := own_shape h.own
  have hown2 := hown
  rw [hn] at c1
  have HR := hide hown
  have HN := hide hn
  clear hown hown2 h hn
  go_enter Try.func13, Try.ntmps13
  go_wp2_with fail
  go_loopw [3, 11] (fun o i wr => ∃ (k : Nat) (v' : Value), i = .int .i64 k ∧ k ≤ n ∧ o = v' ∧ wr.ownsRow w.heap.size 9 1 v' k (sc ((l.take k).map (·.1))) ∧ Fr (fun j => w.heap.size ≤ j) w wr)
    (fun _ i _ => n - (intOf i).toNat)
  case atStart => exact ⟨0, _, rfl, Nat.zero_le _, rfl, World.ownsRow_nil _ _ _ _, Fr.refl _ _⟩
  case round =>
    obtain ⟨k, v', rfl, hk, rfl, ho, hf⟩ := hrel
    obtain ⟨a', k', rfl⟩ := own_shape ho
    have HO := hide ho
    have HF := hide hf
    clear ho hf
    by_cases hlt : k < n
    · obtain ⟨x, hx⟩ : ∃ x, l[k]? = some x := ⟨_, List.getElem?_eq_getElem (by have := HN.out; omega)⟩
      obtain ⟨b0, o0, rfl, hlt0, hcells⟩ := row_cells lc_len (by have := HR.out; rw [HN.out] at this; exact this) hx (by decide)
      obtain ⟨c0, i1, r0⟩ := x
      have e0 := hcells 0 (.string c0) rfl wr (HF.out.block _ hlt0 (by omega))
      rw [Nat.add_zero] at e0
      have e1 := hcells 1 (.int .i64 i1) rfl wr (HF.out.block _ hlt0 (by omega))
      have e2 := hcells 2 (.string r0) rfl wr (HF.out.block _ hlt0 (by omega))
      have ik1 : (k : Int) < (n : Int) := by omega
      have HX := hide hx
      clear hcells hx
      have ho' : ((wr.alloc (.cells #[.string c0, .int .i64 i1, .string r0] 53)).alloc (.cells #[.string c0] 9)).ownsRow w.heap.size 9 1 (.slice a' k k') k (sc ((l.take k).map (·.1))) := (HO.out.alloc _).alloc _
      have HO' := hide ho'
      have hrr : Reads ((wr.alloc (.cells #[.string c0, .int .i64 i1, .string r0] 53)).alloc (.cells #[.string c0] 9)) (.slice (some ⟨wr.heap.size + 1, 0, none⟩) 1 1) 1 1 [.string c0] := by
        have := Reads.built (wr.alloc (.cells #[.string c0, .int .i64 i1, .string r0] 53)) [.string c0] 9
        simpa using this
      have HRR := hide hrr
      have hone : ∀ u ∈ [Value.string c0], u.oneCell' = true := by intro u hu; simp at hu; subst hu; rfl
      have HONE := hide hone
      have hM : k + 1 ≤ maxLen := by unfold maxLen; omega
      have hM2 : (k + 1) * 16 ≤ 140737488355328 := by omega
      have hM3 : w.heap.size ≤ ((wr.alloc (.cells #[.string c0, .int .i64 i1, .string r0] 53)).alloc (.cells #[.string c0] 9)).heap.size := by have := HF.out.size; simp; omega
      have HM2 := hide hM2
      have HM3 := hide hM3
      clear ho' hrr hone hM2 hM3
      go_wp2_with (at_builtin; refine wpList_append_reads _ rfl _ _ _ rfl w.heap.size 9 i0 _ 1 16 Try.underlying32 hi0 hz0 hz1 hz2 str_size (by decide) _ k _ rfl HO'.out _ 1 [.string c0] rfl HRR.out HONE.out hM HM2.out HM3.out ?_; intro v2 w4 hown2 hgrow hat; obtain ⟨a2, k2, rfl⟩ := own_shape hown2; have HO2 := hide hown2; have HG2 := hide hgrow; clear hown2 hgrow hat)
      go_roundw
      case rel =>
        refine ⟨k + 1, _, by go_num, by omega, rfl, ?_, ?_⟩
        · have h5 := HO2.out
          rw [List.take_add_one, HX.out]
          simpa [sc] using h5
        · refine HF.out.trans (((Fr.alloc (fun j => w.heap.size ≤ j) wr _).trans (Fr.alloc (fun j => w.heap.size ≤ j) _ _) (fun _ _ h => h)).trans (Fr.grown (S := fun j => w.heap.size ≤ j) HG2.out (fun j hj => (HO.out.lt j hj).1)) (fun _ _ h => h)) (fun _ _ h => h)
      case measure => simp [intOf]; omega
    · have ik1 : ¬ (k : Int) < (n : Int) := by omega
      have hkn : k = n := by omega
      subst hkn
      go_wp2_with fail
      go_ret
      refine ⟨_, rfl, ?_, HF.out.fresh (fun _ h => h)⟩
      have := HO.out
      rw [List.take_of_length_le (by have := HN.out; omega)] at this
      rw [HN.out]; exact this
end Go.Proofs.Ytmbmknhpfolkkaa
