/- slices.DeleteFunc of paxos's Open: over the shelf's contract. -/
import Derived.Test.YtkefffcfiedkeaaPaxosOpen
import Derived.Test.YtkefffcfiedkeaaDelInt
namespace Go.Proofs.Ytkefffcfiedkeaa
open Go.RowKit Go.Maps Go.Cv Go.Sort
set_option linter.unusedVariables false

abbrev I64 := { x : Int // -9223372036854775808 ≤ x ∧ x ≤ 9223372036854775807 }
instance : Inhabited I64 := ⟨⟨0, by omega⟩⟩
def encI (x : I64) : Value := .int .i64 x.1

theorem toI : ∀ (L : List Int), (∀ x ∈ L, -9223372036854775808 ≤ x ∧ x ≤ 9223372036854775807) → ∃ d : List I64, d.map (·.1) = L
  | [], _ => ⟨[], rfl⟩
  | x :: t, h => by
    obtain ⟨d, hd⟩ := toI t (fun y hy => h y (List.mem_cons_of_mem _ hy))
    exact ⟨⟨x, h x List.mem_cons_self⟩ :: d, by simp [hd]⟩

theorem fr_sort (w : World) (blk off n : Nat) (dk : Array I64) (os : Array Obj) : Fr (fun k => k = blk) w (sortWorld encI w blk off n dk os) := by
  unfold sortWorld
  refine ⟨rfl, rfl, rfl, ?_, fun k hk hne => ?_⟩
  · show w.heap.size ≤ ((putRow encI (Sort.ahead w n) blk off dk).heap ++ os).size
    rw [Array.size_append, size_putRow]; exact Nat.le_add_right _ _
  · rw [Sort.heap_grow_old _ os (by rw [size_putRow]; exact hk)]
    simp only [putRow, mapBlock, Array.getElem?_modify]
    rw [if_neg (fun e => hne e.symm)]; rfl

set_option maxRecDepth 100000 in
theorem delAny (w : World) (bx pb : Nat) (mo : Mo) (n : Nat) (s : PS) (h : Pr w pb mo n s) (hb : w.cell? ⟨bx, 0, none⟩ = some (.pointer (some ⟨pb, 0, none⟩))) (base : Nat) (L : List Int) (hL : ∀ x ∈ L, -9223372036854775808 ≤ x ∧ x ≤ 9223372036854775807) (hl : L.length ≤ 1000000000)
    (blk cap : Nat) (ho : w.ownsRow base 3 1 (.slice (some ⟨blk, 0, none⟩) L.length cap) L.length (L.map (Value.int .i64))) (hB : ∀ k ∈ blocks pb mo s.ks, k < base) (hx : bx < base) :
    Calls Try.prog 30 #[.slice (some ⟨blk, 0, none⟩) L.length cap, .func (.func 32) #[] #[.pointer (some ⟨bx, 0, none⟩)]] w fun e w' => e = .returned (.slice (some ⟨blk, 0, none⟩) (L.filter fun x => !decB s x).length cap) ∧ Reads w' (.slice (some ⟨blk, 0, none⟩) (L.filter fun x => !decB s x).length cap) (L.filter fun x => !decB s x).length 1 ((L.filter fun x => !decB s x).map (Value.int .i64)) ∧ Fr (fun k => base ≤ k) w w' := by
  obtain ⟨dl, hdl⟩ := toI L hL
  have hlen : dl.length = L.length := by rw [← hdl]; simp
  have hbl := (ho.lt blk rfl)
  have hne : bx ≠ blk := by omega
  have hcapl : L.length ≤ cap := by
    rcases ho.2 with ⟨e, _⟩ | ⟨g, cap', cs, e, _, _, hnc, _⟩
    · cases e
    · cases e; exact hnc
  have hfz : ∀ j, w.frozen? ⟨blk, j, none⟩ = false := fun j => by
    rcases ho.2 with ⟨e, _⟩ | ⟨g, cap', cs, e, _, hg, _⟩
    · cases e
    · cases e; exact free_of_block hg
  have hH : Holds encI w blk 0 dl.toArray := fun j hj => by
    have hj' : j < dl.length := by simpa using hj
    refine ⟨?_, by rw [Nat.zero_add]; exact hfz j⟩
    have hc := ho.cells (g := blk) rfl j (.int .i64 (dl[j]).1) (by rw [← hdl]; simp [hj'])
    rw [addr_add] at hc
    rw [hc]
    simp [encI, hj']
  have hclos : ∀ (W : World) (x : I64), Fr (fun k => k = blk) w W → FnGives Try.prog 32 #[.pointer (some ⟨bx, 0, none⟩)] #[encI x] (.bool (decB s x.1)) W := fun W x hf => by
    have hp := h.fr hf (fun k hk e => by have := hB k hk; subst e; omega)
    have hcx : W.cell? ⟨bx, 0, none⟩ = some (.pointer (some ⟨pb, 0, none⟩)) := by
      rw [World.cell?_of_block (w := w) (hf.block bx (World.block_lt_of_cell? w _ hb) hne)]; exact hb
    exact open1_any W bx pb mo n s hp hcx x.1 x.2
  have eg : ∀ args w, (callFunc 32 args).run Try.prog w = .ok (.enter 32 args) w := enters_of Try.func32 (by kernel_rfl) rfl
  have hcon := AnyE.slices_DeleteFunc Try.delI encI (fun _ => rfl) (fun x : I64 => decB s x.1) 32 #[.pointer (some ⟨bx, 0, none⟩)] eg default (fun w => Try.zeroValue3 w) blk 0 cap dl.toArray w
    (fun W x hbw => hclos W x ((Fr.below hbw).mono (fun k hk hge => by omega))) (fun q os dk x _ => hclos _ x (fr_sort w blk 0 q dk os)) hH (by simp; omega) (by simp; omega)
  have hsz : dl.toArray.size = L.length := by simpa using hlen
  rw [hsz] at hcon
  change Calls Try.prog 30 _ _ _ at hcon
  refine hcon.mono ?_
  rintro e w' ⟨rfl, q, rfl⟩
  have hfl : (dl.filter fun x => !decB s x.1).length = (L.filter fun x => !decB s x).length := by rw [← hdl, List.filter_map, List.length_map]; rfl
  have hfl2 : (dl.filter fun x => !decB s x.1).map (fun x : I64 => x.1) = L.filter fun x => !decB s x := by rw [← hdl, List.filter_map]; rfl
  have hle : (dl.filter fun x => !decB s x.1).length ≤ dl.length := List.length_filter_le _ _
  refine ⟨by simp only [hfl], ⟨by simp, _, _, rfl, (by intro h; cases h), by have := List.length_filter_le (fun x => !decB s x) L; omega, fun i u hu => ⟨blk, 0, rfl, ?_⟩⟩, ?_⟩
  · rw [← hfl2] at hu
    simp only [List.getElem?_map, Option.map_eq_some_iff] at hu
    obtain ⟨y, ⟨z, hz, rfl⟩, rfl⟩ := hu
    have hi : i < (dl.filter fun x => !decB s x.1).length := (List.getElem?_eq_some_iff.1 hz).1
    have hc := cell?_putRow encI (Sort.ahead w q) blk 0 dl.toArray (List.append (dl.filter fun x : I64 => !decB s x.1) (List.replicate (dl.length - (dl.filter fun x : I64 => !decB s x.1).length) (default : I64))).toArray (holds_ahead encI w q blk 0 _ hH) (by simp; omega) i (by simp; omega)
    have hd : dl.toArray.toList = dl := rfl
    rw [hd]
    have he : (List.append (dl.filter fun x : I64 => !decB s x.1) (List.replicate (dl.length - (dl.filter fun x : I64 => !decB s x.1).length) (default : I64))).toArray[i]! = z := by
      rw [getElem!_pos _ _ (by simp; omega)]
      have := (List.getElem?_eq_some_iff.1 hz).2
      simp only [List.getElem_toArray, List.append_eq]
      rw [List.getElem_append_left hi]; exact this
    rw [he] at hc
    rw [← hlen]
    exact hc
  refine Fr.mono (S := fun k => k = blk) ⟨rfl, rfl, rfl, by rw [size_putRow]; exact Nat.le_refl _, fun k hk hne2 => ?_⟩ (fun k _ hk => by subst hk; exact hbl.1)
  simp only [putRow, mapBlock, Array.getElem?_modify]
  rw [if_neg (fun e => hne2 e.symm)]; rfl

theorem ixNil (w : World) (bx : Nat) : Calls Try.prog 37 #[.slice none 0 0, .func (.func 32) #[] #[.pointer (some ⟨bx, 0, none⟩)]] w fun e w' => e = .returned (.int .i64 (-1)) ∧ w' = w := by
  go_enter Try.func37, Try.ntmps37
  go_wp2_with fail
  go_loopw [8] (fun i wr => i = .int .i64 0 ∧ wr = w) (fun _ _ => 0)
  case atStart => exact ⟨rfl, rfl⟩
  case round =>
    obtain ⟨rfl, rfl⟩ := hrel
    go_wp2_with fail
    go_ret
    exact ⟨rfl, rfl⟩
theorem delNil (w : World) (bx : Nat) : Calls Try.prog 30 #[.slice none 0 0, .func (.func 32) #[] #[.pointer (some ⟨bx, 0, none⟩)]] w fun e w' => e = .returned (.slice none 0 0) ∧ w' = w := by
  go_enter Try.func30, Try.ntmps30
  go_wp2_with fail
  refine (ixNil w bx).mono ?_
  rintro e w' ⟨rfl, rfl⟩
  go_wp2_with fail
  go_ret
  exact ⟨rfl, rfl⟩
end Go.Proofs.Ytkefffcfiedkeaa
