/- slices.Delete at the table's rows; Ask, Done, Clients, New of dedup. -/
import Derived.Test.YtmbmknhpfolkkaaDedup
import Derived.Deep.RegionLaw
namespace Go.Proofs.Ytmbmknhpfolkkaa
open Go.RowKit Go.Maps Go.Cv Go.Shelf
set_option linter.unusedVariables false

theorem row_take : ∀ (l : List L3) (i : Nat), rowOf (l.take i) = (rowOf l).take (i * 3)
  | [], i => by simp [rowOf]
  | x :: r, 0 => by simp [rowOf]
  | x :: r, i + 1 => by
    have := row_take r i
    simp only [rowOf, List.take_succ_cons, List.flatMap_cons] at this ⊢
    rw [this, Nat.succ_mul, List.take_append, lc_len, List.take_of_length_le (l := lc x) (by rw [lc_len]; omega), Nat.add_sub_cancel]
theorem row_drop : ∀ (l : List L3) (i : Nat), rowOf (l.drop i) = (rowOf l).drop (i * 3)
  | [], i => by simp [rowOf]
  | x :: r, 0 => by simp [rowOf]
  | x :: r, i + 1 => by
    have := row_drop r i
    simp only [rowOf, List.drop_succ_cons, List.flatMap_cons] at this ⊢
    rw [this, Nat.succ_mul, List.drop_append, lc_len, List.drop_eq_nil_of_le («as» := lc x) (by rw [lc_len]; omega), Nat.add_sub_cancel, List.nil_append]
theorem row_append (l m : List L3) : rowOf (l ++ m) = rowOf l ++ rowOf m := by simp [rowOf]
theorem row_out_of (l : List L3) (i : Nat) : rowOf (l.eraseIdx i) = (rowOf l).take (i * 3) ++ (rowOf l).drop ((i + 1) * 3) := by
  rw [List.eraseIdx_eq_take_drop_succ, row_append, row_take, row_drop]
theorem row_one (l : List L3) : ∀ u ∈ rowOf l, u.oneCell' = true := by
  intro u hu
  simp only [rowOf, List.mem_flatMap] at hu
  obtain ⟨x, _, hu⟩ := hu
  simp only [lc, List.mem_cons, List.not_mem_nil, or_false] at hu
  rcases hu with rfl | rfl | rfl <;> rfl

theorem zero_cells : (Builtin.zeroCells (Value.agg #[.string ⟨#[]⟩, .int .i64 0, .string ⟨#[]⟩]).cells 1).toList = [.string ⟨#[]⟩, .int .i64 0, .string ⟨#[]⟩] := by
  have e : (Value.agg #[.string ⟨#[]⟩, .int .i64 0, .string ⟨#[]⟩]).cells = #[.string ⟨#[]⟩, .int .i64 0, .string ⟨#[]⟩] := by simp [Value.cells]
  rw [e]; simp [Builtin.zeroCells, List.range_succ]

theorem infoLast : (Try.prog.info? 53).map (fun i => (i.zero, i.size, i.bytes)) = some (some (.agg #[.string ⟨#[]⟩, .int .i64 0, .string ⟨#[]⟩]), 3, 40) := by kernel_rfl

set_option maxRecDepth 100000 in
set_option maxHeartbeats 800000 in
theorem delete_any (w : World) (base g cap : Nat) (l : List L3) (n : Nat) (hn : n = l.length) (h : w.ownsRow base 53 3 (.slice (some ⟨g, 0, none⟩) n cap) n (rowOf l)) (i : Nat) (hi : i < n) (x y : Int) (hx : x = i) (hy : y = (i : Int) + 1) :
    Calls Try.prog 21 #[.slice (some ⟨g, 0, none⟩) n cap, .int .i64 x, .int .i64 y] w fun e w' => e = .returned (.slice (some ⟨g, 0, none⟩) (n - 1) cap) ∧ w'.ownsRow base 53 3 (.slice (some ⟨g, 0, none⟩) (n - 1) cap) (n - 1) (rowOf (l.eraseIdx i)) ∧ Fr (fun k => k = g) w w' := by
  obtain ⟨i0, hi0, hz0, hz1, hz2⟩ := info_parts infoLast
  subst hx hy
  have hO := h
  rcases h.2 with ⟨e, _⟩ | ⟨g', cap', cs, e, hb, hg, hnc, hcm, hcs, htake⟩
  · cases e
  cases e
  obtain ⟨news, hnews⟩ : ∃ news, (rowOf l).drop ((i + 1) * 3) = news := ⟨_, rfl⟩
  have hlen : news.length = (n - (i + 1)) * 3 := by rw [← hnews, List.length_drop, rowOf_len, ← hn]; omega
  have hone : ∀ u ∈ news, u.oneCell' = true := fun u hu => row_one l u (List.mem_of_mem_drop (hnews ▸ hu))
  have hread : ∀ (wx : World), wx.heap[g]? = some (.cells cs 53 (0, 0)) → ∀ j u, (rowOf l)[j]? = some u → wx.cell? ⟨g, j, none⟩ = some u := fun wx hwx j u hu => by
    rw [cell_of_block hwx]
    rw [← htake, List.getElem?_take] at hu
    split at hu
    · simpa using hu
    · cases hu
  obtain ⟨A, hA, hsrc⟩ : ∃ A : Addr, (if cap = i + 1 then some (⟨g, 0, none⟩ : Addr) else some ⟨g, (i + 1) * 3, none⟩) = some A ∧ Hid (∀ t u, news[t]? = some u → w.drew.cell? (A.add t) = some u) := by
    by_cases h : cap = i + 1
    · refine ⟨⟨g, 0, none⟩, by simp [h], fun t u hu => ?_⟩
      have h0 : news.length = 0 := by rw [hlen]; omega
      rw [List.length_eq_zero_iff.1 h0] at hu
      simp at hu
    · refine ⟨⟨g, (i + 1) * 3, none⟩, by simp [h], fun t u hu => ?_⟩
      rw [addr_add]
      refine hread w.drew hg _ _ ?_
      rw [← hnews, List.getElem?_drop] at hu
      exact hu
  have s3 : Hid (∀ t, t < news.length → (w.drew.cell? ⟨g, 0 + i * 3 + t, none⟩).isSome = true ∧ w.drew.frozen? ⟨g, 0 + i * 3 + t, none⟩ = false) := by
    intro t ht
    refine ⟨?_, free_of_block (w := w.drew) hg⟩
    rw [cell_of_block (w := w.drew) hg, Array.getElem?_eq_getElem (by rw [hcs]; have := Nat.mul_le_mul_right 3 hnc; omega)]
    rfl
  obtain ⟨W1, hW1⟩ : ∃ W1, W1 = w.drew.setCells g (0 + i * 3) news := ⟨_, rfl⟩
  have hB1 : W1.heap[g]? = some (.cells (layA cs (i * 3) news) 53 (0, 0)) := by
    rw [hW1, Nat.zero_add]; exact block_setCells news (i * 3) w.drew g cs _ _ hg
  have hF1 : Fr (fun k => k = g) w W1 := by rw [hW1]; exact ((Fr.refl _ w).drew).trans (Fr.setCells (S := fun k => k = g) _ _ _ _ rfl) (fun _ _ h => h)
  have hsz : (layA cs (i * 3) news).size = cap * 3 := by rw [layA_size, hcs]
  have hcl : ∀ ty, (Builtin.clear_ #[48] ty #[.slice (some ⟨g, (i + (n - (i + 1))) * 3, none⟩) (n - (i + (n - (i + 1)))) (cap - (i + (n - (i + 1))))]).run Try.prog W1 = .ok (.tuple #[]) (W1.setCells g ((n - 1) * 3) [.string ⟨#[]⟩, .int .i64 0, .string ⟨#[]⟩]) := by
    intro ty
    rw [show i + (n - (i + 1)) = n - 1 by omega, show n - (n - 1) = 1 by omega]
    refine run_clear_rows W1 48 53 ty (.agg #[.string ⟨#[]⟩, .int .i64 0, .string ⟨#[]⟩]) Try.underlying48 Try.zeroValue53 g _ 1 _ (by decide) _ zero_cells (by simp [Value.oneCell']) (fun j hj => ?_) (fun j hj => free_of_block hB1)
    rw [cell_of_block hB1, Array.getElem?_eq_getElem (by rw [hsz]; have := Nat.mul_le_mul_right 3 hnc; simp at hj; omega)]
    rfl
  have hend : (layA (layA cs (i * 3) news) ((n - 1) * 3) [.string ⟨#[]⟩, .int .i64 0, .string ⟨#[]⟩]).toList.take ((n - 1) * 3) = rowOf (l.eraseIdx i) := by
    rw [row_out_of, ← hnews]
    exact row_out cs (rowOf l) n cap 3 i hcs htake hi hnc _ rfl
  have HW : Hid (W1 = w.drew.setCells g (0 + i * 3) news) := hW1
  have HB1 := hide hB1
  have HF1 := hide hF1
  have HLEN := hide hlen
  have HONE := hide hone
  have HCS := hide hcs
  have HEND := hide hend
  have HL : Hid (l.length = n) := hn.symm
  have hic : i ≤ cap := by omega
  have hjc : i + 1 ≤ cap := by omega
  have ik0 : (i : Int) + 1 ≤ (n : Int) := by omega
  have ik1 : ((i : Int) + 1).toNat = i + 1 := by omega
  have ik3 : (0 : Int) ≤ (i : Int) + 1 := by omega
  have ik2 : ¬ ((i : Int) = (i : Int) + 1) := by omega
  clear hread hnews hlen hone hg htake hcs hW1 hB1 hF1 hsz hend h hO hn
  go_enter Try.func21, Try.ntmps21
  go_wp2_with fail
  go_region_law (refine step_append_room rfl (.tmp 22) (.tmp 25) 48 rfl 53 i0 3 Try.underlying48 hi0 hz1 g 0 i cap (by simp [Act.eval, Act.put]) A (n - (i + 1)) (cap - (i + 1)) news (by simp [Act.eval, Act.put]) HLEN.out hsrc.out HONE.out (by omega) s3.out ?_; rw [← HW.out])
  go_wp2_with fail
  go_ret
  rw [show i + (n - (i + 1)) = n - 1 by omega]
  have hlen' : (rowOf (l.eraseIdx i)).length = (n - 1) * 3 := by
    rw [rowOf_len, List.length_eraseIdx, HL.out, if_pos hi]
  refine ⟨rfl, ⟨hlen', .inr ⟨g, cap, _, rfl, hb, block_setCells _ _ _ _ _ _ _ HB1.out, by omega, hcm, ?_, HEND.out⟩⟩, HF1.out.trans (Fr.setCells (S := fun k => k = g) _ _ _ _ rfl) (fun _ _ h => h)⟩
  rw [layA_size, layA_size]; exact HCS.out
end Go.Proofs.Ytmbmknhpfolkkaa
