/- Forget of ballot. The walk of maps.DeleteFunc is a worked proof's, turned to this translation. -/
import Derived.Test.YthekgecaeblbbaaBallotD
import Derived.Lib.SlMapFilter
import Derived.Laws.IdiomRangeMap
import Derived.Deep.LoopGhost
namespace Go.Proofs.Ythekgecaeblbbaa
open Go.RowKit Go.Maps Go.Cv
set_option linter.unusedVariables false

def below (lo : Int) (kl : Lit) (_ : DataW Value) : Bool := match kl with | .int _ v => decide (v < lo) | _ => false

theorem closure_any (w : World) (s lo : Int) (val : Value) (x : Vt) (hval : val = vval x) (bx : Nat) (hx : w.cell? ⟨bx, 0, none⟩ = some (.int .i64 lo)) :
    Calls Try.prog 30 #[.int .i64 s, val, .pointer (some ⟨bx, 0, none⟩)] w fun e w' => e = .returned (.bool (decide (s < lo))) ∧ Fr (fun _ => False) w w' := by
  subst hval
  obtain ⟨x1, ⟨x2, x3⟩, x4⟩ := x
  have hv : vval (x1, (x2, x3), x4) = .agg #[.int .i64 x1, .int .i64 x2, .int .i64 x3, .string x4] := rfl
  rw [hv]
  have h1 := (Fr.alloc (fun _ => False) w (.cells #[.int .i64 x1, .int .i64 x2, .int .i64 x3, .string x4] 40))
  have h2 : (w.alloc (.cells #[.int .i64 x1, .int .i64 x2, .int .i64 x3, .string x4] 40)).cell? ⟨bx, 0, none⟩ = some (.int .i64 lo) := by
    have hb := World.block_lt_of_cell? w _ hx
    rw [World.cell?_of_block (w := w) (h1.block bx hb id)]; exact hx
  have H1 := hide h1
  clear h1 hv
  go_enter Try.func30, Try.ntmps30
  go_wp2_with fail
  go_ret
  exact ⟨rfl, H1.out⟩

theorem find_filter_del {lo : Int} {l : Lit} (es : List (Lit × DataW Value)) : (es.filter fun p => !below lo p.1 p.2).find? (fun p => p.1.sameKey l) = if below lo l .nil then none else es.find? (fun p => p.1.sameKey l) := by
  have key : ∀ p : Lit × DataW Value, p.1.sameKey l = true → below lo p.1 p.2 = below lo l .nil := fun p h => by rw [WideAt.sameKey_eq h]; rfl
  split
  · rename_i h
    rw [List.find?_eq_none]
    intro p hp hk
    have h2 := (List.mem_filter.1 hp).2
    rw [key p hk, h] at h2
    cases h2
  · rename_i h
    refine Maps.find_filter_keep (fun p hp => ?_) es
    rw [key p hp]
    simpa using h

theorem at_from (l : List Vt) (lo i : Int) : at_ (fromV l lo) i = if i < lo then none else at_ l i := by
  unfold at_ fromV
  rw [List.find?_filter]
  by_cases h : i < lo
  · rw [if_pos h, List.find?_eq_none]; intro y hy; simp; omega
  · rw [if_neg h]; congr 1; funext y; by_cases e : y.1 = i <;> simp [e]; omega
theorem vm_del (l : List Vt) (lo : Int) (k : Lit) : vm (fromV l lo) k = if below lo k .nil then none else vm l k := by
  match k with
  | .int .i64 i => simp only [vm, below, at_from]; by_cases h : i < lo <;> simp [h]
  | .int .i8 _ | .int .i16 _ | .int .i32 _ | .int .u8 _ | .int .u16 _ | .int .u32 _ | .int .u64 _ => simp [vm]
  | .bool _ | .float _ _ | .string _ | .nil => simp [vm]
theorem atKey_find (es' : List (Lit × DataW Value)) (l : Lit) (z : DataW Value) : (DataW.map es').atKey l z = ((es'.find? fun p => p.1.sameKey l).map (·.2)).getD z := by
  unfold DataW.atKey
  simp only
  cases es'.find? (fun p => p.1.sameKey l) <;> rfl
theorem shape {es0 : List (Lit × DataW Value)} {pd : Lit → DataW Value → Bool} {left : Lit → Bool} {f : Lit → Option Value} (hap : es0.Pairwise (fun p q => p.1 ≠ q.1)) {kl : Lit} (hk : WideAt.IsKeyLit kl)
    {c : Value} (hat : ∀ zd, (Fk pd es0 left).atKey kl zd = .held c) (hD : ∀ l z, (DataW.map es0).atKey l z = match f l with | some v => .held v | none => z) : f kl = some c := by
  have h1 := hat .nil
  unfold Fk at h1
  rw [atKey_find] at h1
  cases h2 : (es0.filter fun p => !pd p.1 p.2 || left p.1).find? (fun p => p.1.sameKey kl) with
  | none => rw [h2] at h1; cases h1
  | some p =>
    rw [h2] at h1
    have hm := (List.mem_filter.1 (List.mem_of_find?_eq_some h2)).1
    have hs := List.find?_some h2
    have e1 : p.1 = kl := WideAt.sameKey_eq hs
    have e2 : p.2 = .held c := h1
    have h3 := WideAt.atKey_mem .nil hk hap (show (kl, DataW.held c) ∈ es0 by rw [← e1, ← e2]; exact hm)
    rw [hD] at h3
    cases h4 : f kl with
    | none => rw [h4] at h3; cases h3
    | some v => rw [h4] at h3; simp only at h3; rw [held_inj rfl h3]

theorem ranges_fr {w w' : World} {P : Program} {k : TypeId} {R : Value → Option (DataW Value × List MemPlace)} {b r n : Nat} {D : DataW Value} {left : Lit → Bool} {cnt : Nat} (h : w.ranges P k R b r n D left cnt) (g : Fr (fun _ => False) w w') : w'.ranges P k R b r n D left cnt := by
  obtain ⟨es, clock, since, seen, c0, h1, h2, h3, h4, h5, h6⟩ := h
  exact ⟨es, clock, since, seen, c0, (g.block _ (lt_of_block h1) id).trans h1, h2, h3, h4, (g.block _ (lt_of_block h5) id).trans h5, h6⟩

set_option maxHeartbeats 4000000 in
set_option maxRecDepth 100000 in
theorem delfunc_any (bm n bx : Nat) (l : List Vt) (lo : Int) (w : World) (hmap : mapF w Try.prog 3 bm n (vm l)) (hx : w.cell? ⟨bx, 0, none⟩ = some (.int .i64 lo)) (hne : bx ≠ bm) :
    Calls Try.prog 29 #[.map (some bm), .func (.func 30) #[] #[.pointer (some ⟨bx, 0, none⟩)]] w fun e w' => e = .returned (.tuple #[]) ∧ mapF w' Try.prog 3 bm n (vm (fromV l lo)) ∧ Fr (fun k => k = bm) w w' := by
  obtain ⟨D, hown, hD⟩ := hmap
  suffices H : Calls Try.prog 29 #[.map (some bm), .func (.func 30) #[] #[.pointer (some ⟨bx, 0, none⟩)]] w fun e w' => e = .returned (.tuple #[]) ∧ w'.ownsMap Try.prog 3 hv bm n (Lib.deleteFuncD (below lo) D) ∧ Fr (fun k => k = bm) w w' by
    refine H.mono fun e w' ⟨h1, h2, h3⟩ => ⟨h1, ⟨_, h2, fun k z => ?_⟩, h3⟩
    obtain ⟨es, rfl⟩ := hown.isMap
    have h4 := hD k z
    rw [atKey_find] at h4
    unfold Lib.deleteFuncD
    rw [atKey_find, find_filter_del, vm_del]
    split
    · rfl
    · exact h4
  obtain ⟨es0, rfl, hap, hkeys⟩ := hown.entries law
  have hbx := World.block_lt_of_cell? w _ hx
  have hmb := hown.lt
  have HX := hide hx
  have HBX := hide hbx
  have HMB := hide hmb
  have HD := hide hD
  clear hx hbx hD hmb
  go_enter Try.func29, Try.ntmps29
  go_wp2_with (first
    | (at_range; go_must (refine wpList_range_own _ rfl _ 57 rfl 3 40 law Try.underlying57 hv bm n _ rfl hown ?_); intro w0 hrg0 hg0 hs0)
    | go_in)
  go_loopw [8] (fun _ wr => ∃ (left : Lit → Bool) (cnt : Nat), wr.ranges Try.prog 3 hv bm w.heap.size n (Fk (below lo) es0 left) left cnt ∧ Fr (fun k => k = bm ∨ w.heap.size ≤ k) w wr)
    (fun _ wr => wr.rangeLeft bm w.heap.size)
  case atStart => exact ⟨_, _, by rw [Fk_start hkeys]; exact hrg0, Fr.grown (hg0.but (some bm)) (fun j hj => by cases hj; exact .inl rfl)⟩
  case round =>
    obtain ⟨left, cnt, hrg, hgw⟩ := hrel
    have HGW := hide hgw
    clear hgw
    go_wp2_with (first
      | (at_next; refine wpList_next_ranges _ rfl _ rfl 3 law hv (Value.int .i64) id (fun key kl h => by obtain ⟨x, rfl, _⟩ := Maps.keyOf_int_inv Try.underlying3 h; exact ⟨x, rfl⟩) (fun v _ _ => ⟨v, rfl⟩) bm w.heap.size n _ _ _ rfl hrg ?_ ?_)
      | go_in)
    · intro _ hl0
      go_wp2
      go_end0
      exact ⟨rfl, by rw [← Fk_end hl0]; exact hrg.owns, ⟨HGW.out.os, HGW.out.tape, HGW.out.output, HGW.out.size, fun k hk hn => HGW.out.block k hk (by rintro (h | h); exact hn h; omega)⟩⟩
    · intro x c kl yd yp w1 cnt1 hkey hlx hval hat hrg1 hlt hg1 hs1 hen
      obtain ⟨x', ex, rfl, hwx⟩ := Maps.keyOf_int_inv Try.underlying3 hkey
      cases ex
      cases hval
      have hvx := shape hap (law.key hkey) hat HD.out
      simp only [vm, Option.map_eq_some_iff] at hvx
      obtain ⟨⟨s1, ⟨s2, s3⟩, s4⟩, hax, hcx⟩ := hvx
      have hcx : Value.agg #[.int .i64 s1, .int .i64 s2, .int .i64 s3, .string s4] = c := hcx
      subst hcx
      have hgw1 := HGW.out.trans (Fr.grown (S := fun k => k = bm ∨ w.heap.size ≤ k) hg1 (fun j hj => by cases hj; exact .inr (Nat.le_refl _))) (fun _ _ h => h)
      obtain ⟨y, hy⟩ : ∃ y, w1.alloc (.cells #[.int .i64 s1, .int .i64 s2, .int .i64 s3, .string s4] 40) = y := ⟨_, rfl⟩
      have hfy : Fr (fun _ => False) w1 y := by rw [← hy]; exact Fr.alloc _ _ _
      have hby : y.heap[w1.heap.size]? = some (.cells #[.int .i64 s1, .int .i64 s2, .int .i64 s3, .string s4] 40 (0, 0)) := by rw [← hy]; exact block_alloc _ _
      have q0 : y.cell? ⟨w1.heap.size, 0, none⟩ = some (.int .i64 s1) := by rw [cell_of_block hby]; rfl
      have q1 : y.cell? ⟨w1.heap.size, 1, none⟩ = some (.int .i64 s2) := by rw [cell_of_block hby]; rfl
      have q2 : y.cell? ⟨w1.heap.size, 2, none⟩ = some (.int .i64 s3) := by rw [cell_of_block hby]; rfl
      have q3 : y.cell? ⟨w1.heap.size, 3, none⟩ = some (.string s4) := by rw [cell_of_block hby]; rfl
      have hx1 : y.cell? ⟨bx, 0, none⟩ = some (.int .i64 lo) := by
        have hF := hgw1.trans hfy (fun _ _ h => h.elim)
        have h2 := hF.block bx HBX.out (by rintro (h | h); exact hne h; have := HBX.out; omega)
        rw [World.cell?_of_block (w := w) h2]; exact HX.out
      have hc := closure_any y x lo _ (s1, (s2, s3), s4) rfl bx hx1
      have HC := hide (show Calls Try.prog 30 #[.int .i64 x, .agg #[.int .i64 s1, .int .i64 s2, .int .i64 s3, .string s4], .pointer (some ⟨bx, 0, none⟩)] y _ from hc)
      have HGW1 := hide hgw1
      have HFY := hide hfy
      have HY := hide hy
      have HR1 := hide hrg1
      clear hc hx1 hby hgw1 hfy hy hrg1
      cases hp : decide (x < lo) <;> rw [hp] at HC
      · have hp' : below lo (.int .i64 x) (.held (.agg #[.int .i64 s1, .int .i64 s2, .int .i64 s3, .string s4])) = false := hp
        go_wp2_with fail
        rw [HY.out]
        refine HC.out.mono ?_
        rintro e w2 ⟨rfl, hf2⟩
        have HR2 := hide (ranges_fr (ranges_fr HR1.out HFY.out) hf2)
        have HG2 := hide ((HGW1.out.trans HFY.out (fun _ _ h => h.elim)).trans hf2 (fun _ _ h => h.elim))
        clear hf2
        go_wp2_with fail
        go_roundw
        case rel => exact ⟨_, cnt1, by rw [← Fk_stays hap (law.key hkey) hlx hp' hat]; exact HR2.out, HG2.out⟩
        case measure => rw [HR2.out.left_eq, hrg.left_eq]; exact hlt
      · have hp' : below lo (.int .i64 x) (.held (.agg #[.int .i64 s1, .int .i64 s2, .int .i64 s3, .string s4])) = true := hp
        go_wp2_with fail
        rw [HY.out]
        refine HC.out.mono ?_
        rintro e w2 ⟨rfl, hf2⟩
        have HR2 := hide (ranges_fr (ranges_fr HR1.out HFY.out) hf2)
        have HG2 := hide ((HGW1.out.trans HFY.out (fun _ _ h => h.elim)).trans hf2 (fun _ _ h => h.elim))
        clear hf2
        go_wp2_with (first
          | (at_delete; refine wpList_delete_ranges _ rfl _ _ 57 3 rfl 40 law Try.underlying57 hv bm w.heap.size n _ _ _ rfl HR2.out _ _ rfl hkey ?_; intro w3 cnt3 hrg3 hle hturn; go_frame)
          | go_in)
        rw [strike_twice] at hrg3
        go_roundw
        case rel => exact ⟨_, cnt3, by rw [← Fk_struck hap (law.key hkey) hlx hp' hat]; exact hrg3, HG2.out.trans (Fr.turned (S := fun k => k = bm ∨ w.heap.size ≤ k) hturn (.inl rfl)) (fun _ _ h => h)⟩
        case measure => rw [hrg3.left_eq, hrg.left_eq]; omega

set_option maxRecDepth 100000 in
theorem forgetAcd (w : World) (B D ab n : Nat) (p : Bt) (l : List Vt) (h : Acd w B D ab n p l) (lo : Int) :
    Calls Try.prog 17 #[.pointer (some ⟨ab, 0, none⟩), .int .i64 lo] w fun e w' => e = .returned (.tuple #[]) ∧ Acd w' B D ab n p (fromV l lo) ∧ Fr (Mid B D) w w' := by
  obtain ⟨mb, h1, h2, h3⟩ := h
  have hmb := h1.map.lt
  obtain ⟨y, hy⟩ : ∃ y, w.alloc (.cells #[.int .i64 lo] 3) = y := ⟨_, rfl⟩
  have hfy : Fr (fun _ => False) w y := by rw [← hy]; exact Fr.alloc _ _ _
  have hby : y.heap[w.heap.size]? = some (.cells #[.int .i64 lo] 3 (0, 0)) := by rw [← hy]; exact block_alloc _ _
  have q0 : y.cell? ⟨w.heap.size, 0, none⟩ = some (.int .i64 lo) := by rw [cell_of_block hby]; rfl
  have hdel := delfunc_any mb n w.heap.size l lo y (h1.fr0 hfy).map q0 (by omega)
  have c3 : (w.alloc (.cells #[.int .i64 lo] 3)).cell? ⟨ab, 2, none⟩ = some (.map (some mb)) := by rw [hy, cell_of_block (h1.fr0 hfy).blk]; rfl
  have HDEL := hide hdel
  have HY := hide hy
  have HFY := hide hfy
  have H1 := hide h1
  clear hdel hy hfy h1 hby
  go_enter Try.func17, Try.ntmps17
  go_wp2_with fail
  rw [HY.out]
  refine HDEL.out.mono ?_
  rintro e w1 ⟨rfl, hm, hf⟩
  have HM := hide hm
  have HF := hide ((HFY.out.mono (S' := fun k => k = mb) (fun _ _ h => h.elim)).trans hf (fun _ _ h => h))
  clear hm hf
  go_wp2_with fail
  go_end0
  have h4 := H1.out
  refine ⟨rfl, ⟨mb, ⟨(HF.out.block _ (lt_of_block h4.blk) h4.ne).trans h4.blk, HM.out, h4.ne, List.Pairwise.filter _ h4.st, fun x hx => h4.sl x (List.mem_filter.1 hx).1⟩, h2, h3⟩, HF.out.mono (fun k _ hk => by subst hk; exact h3)⟩
end Go.Proofs.Ythekgecaeblbbaa
