/- Pick and Accepted of paxos. -/
import Derived.Test.YtkefffcfiedkeaaPaxosB
namespace Go.Proofs.Ytkefffcfiedkeaa
open Go.RowKit Go.Maps Go.Cv
set_option linter.unusedVariables false

theorem pk_snoc (ks : List Pk) (x : Pk) (h : pkAt ks x.slot = none) (q : Lit) : pkF (ks ++ [x]) q = put (pkF ks) (.int .i64 x.slot) (.pointer (some ⟨x.pb, 0, none⟩)) q := by
  unfold put
  split
  · rename_i e; subst e
    unfold pkAt at h
    simp only [pkF, pkAt, List.find?_append, h]
    simp
  · rename_i e
    match q, e with
    | .int .i64 i, e =>
      have : ¬ x.slot = i := fun e2 => e (by rw [e2])
      simp only [pkF, pkAt, List.find?_append, List.find?_cons]
      simp [this]
    | .int .i8 _, _ | .int .i16 _, _ | .int .i32 _, _ | .int .u8 _, _ | .int .u16 _, _ | .int .u32 _, _ | .int .u64 _, _ => rfl
    | .bool _, _ | .float _ _, _ | .string _, _ | .nil, _ => rfl
theorem Pr.led_mo {w : World} {pb : Nat} {mo : Mo} {n : Nat} {s : PS} (h : Pr w pb mo n s) (hl : ledB s = true) : ∃ q, mo = some q := by
  cases mo with
  | some q => exact ⟨q, rfl⟩
  | none =>
    have h1 : s.ps = [] := h.maps.1
    have := h.nn
    simp [ledB, h1] at hl; omega
theorem Pr.pick {w w' : World} {pb a b c n : Nat} {s : PS} (h : Pr w pb (some (a, b, c)) n s) (x : Pk) (hx : x.ns = []) (hp : w.heap.size ≤ x.pb) (hn : w.heap.size ≤ x.nb) (hne : x.pb ≠ x.nb)
    (g : ∀ k, k < w.heap.size → k ≠ c → w'.heap[k]? = w.heap[k]?) (h1 : w'.heap[x.pb]? = some (.cells #[.string x.v, .map (some x.nb)] 74 (0, 0))) (h2 : mapN w' Try.prog 3 x.nb 0 (setF []))
    (hc : mapF w' Try.prog 3 c (n + 1) (pkF (s.ks ++ [x]))) : Pr w' pb (some (a, b, c)) (n + 1) { s with ks := s.ks ++ [x] } := by
  obtain ⟨⟨e1, e2, e3, e4, e5, e6⟩, e7⟩ := blk_ne h.nd
  have hlt := h.lt
  refine ⟨(g pb (lt_of_block h.blk) (by omega)).trans h.blk, ⟨h.maps.1.of_block (g _ h.maps.1.lt (by omega)), (h.maps.2.1.of_block (g _ h.maps.2.1.lt (by omega))).mono (Nat.le_succ _), hc⟩, ?_, fun y hy => ?_, h.st, h.sl, h.pn, h.nn, h.mn, h.rn, h.fn, fun e => by cases e⟩
  · have e : blocks pb (some (a, b, c)) (s.ks ++ [x]) = blocks pb (some (a, b, c)) s.ks ++ [x.pb, x.nb] := by simp [blocks, mo3]
    show (blocks pb (some (a, b, c)) (s.ks ++ [x])).Nodup
    rw [e]
    refine List.nodup_append.2 ⟨h.nd, by simp [hne], fun y hy z hz e => ?_⟩
    have := hlt y hy
    simp only [List.mem_cons, List.not_mem_nil, or_false] at hz
    omega
  · rcases List.mem_append.1 hy with hy | hy
    · obtain ⟨q1, q2, q3⟩ := h.picks y hy
      obtain ⟨⟨f1, f2, f3, f4⟩, f5, f6, f7, f8⟩ := e7 y hy
      exact ⟨(g _ (lt_of_block q1) f4).trans q1, q2.of_block (g _ q2.lt f8), q3⟩
    · simp only [List.mem_singleton] at hy
      subst hy
      rw [hx]
      exact ⟨h1, h2, List.nodup_nil, fun i hi => by cases hi⟩

set_option maxRecDepth 100000 in
theorem pick_no (w : World) (pb : Nat) (mo : Mo) (n : Nat) (s : PS) (h : Pr w pb mo n s) (slot : Int) (v : ByteArray) (hno : ledB s = false ∨ slot < s.fr ∨ 512 ≤ slot) :
    Calls Try.prog 18 #[.pointer (some ⟨pb, 0, none⟩), .int .i64 slot, .string v] w fun e w' => e = .returned (.tuple #[.string ⟨#[]⟩, .bool false]) ∧ w' = w := by
  have c5 : w.cell? ⟨pb, 5, none⟩ = some (.int .i64 s.fr) := by rw [cell_of_block h.blk]; rfl
  have hl := led_any w pb mo n s h
  have hcase : ledB s = false ∨ (ledB s = true ∧ slot < s.fr) ∨ (ledB s = true ∧ ¬ slot < s.fr ∧ 512 ≤ slot) := by
    cases hq : ledB s with
    | false => exact .inl rfl
    | true =>
      right
      rcases hno with h | h | h
      · rw [hq] at h; cases h
      · exact .inl ⟨rfl, h⟩
      · by_cases h2 : slot < s.fr
        · exact .inl ⟨rfl, h2⟩
        · exact .inr ⟨rfl, h2, h⟩
  generalize ledB s = q at *
  have HL := hide hl
  clear hl hno h
  rcases hcase with rfl | ⟨rfl, h1⟩ | ⟨rfl, h1, h2⟩
  all_goals
    go_enter Try.func18, Try.ntmps18
    go_wp2_with fail
    refine HL.out.mono ?_
    rintro e w' ⟨rfl, rfl⟩
    go_wp2_with fail
    go_ret2
    exact ⟨rfl, rfl⟩

set_option maxRecDepth 100000 in
theorem pick_old (w : World) (pb : Nat) (mo : Mo) (n : Nat) (s : PS) (h : Pr w pb mo n s) (slot : Int) (v : ByteArray) (h0 : ledB s = true) (h1 : ¬ slot < s.fr) (h2 : ¬ 512 ≤ slot) (x : Pk) (hx : pkAt s.ks slot = some x) :
    Calls Try.prog 18 #[.pointer (some ⟨pb, 0, none⟩), .int .i64 slot, .string v] w fun e w' => e = .returned (.tuple #[.string x.v, .bool true]) ∧ w' = w := by
  have hl := led_any w pb mo n s h
  rw [h0] at hl
  have hf0 := h.fn
  obtain ⟨⟨a, b, c⟩, rfl⟩ := h.led_mo h0
  have c5 : w.cell? ⟨pb, 5, none⟩ = some (.int .i64 s.fr) := by rw [cell_of_block h.blk]; rfl
  have c8 : w.cell? ⟨pb, 8, none⟩ = some (.map (some c)) := by rw [cell_of_block h.blk]; rfl
  have hkey : keyOf Try.prog 3 (.int .i64 slot) = some (.int .i64 slot) := keyOf_int_mk Try.underlying3 (WalkArith.wf_i64 (by omega))
  have hz : (zeroValue 72).run Try.prog w = .ok (.pointer none) w := by kernel_rfl
  have hlook : (Instr.lookup 64 (.map (some c)) (.int .i64 slot) false).run Try.prog w = .ok (.pointer (some ⟨x.pb, 0, none⟩)) w := by
    rw [h.maps.2.2.run law Try.underlying64 hz hkey]
    simp [pkF, hx]
  have hm := List.mem_of_find?_eq_some hx
  have d0 : w.cell? ⟨x.pb, 0, none⟩ = some (.string x.v) := by rw [cell_of_block (h.picks x hm).1]; rfl
  have HL := hide hl
  clear hl h hz hm
  go_enter Try.func18, Try.ntmps18
  go_wp2_with fail
  refine HL.out.mono ?_
  rintro e w' ⟨rfl, rfl⟩
  go_wp2_with fail
  go_ret2
  exact ⟨rfl, rfl⟩

/-- What is picked where nothing was. -/
def pickV (s : PS) (slot : Int) (v : ByteArray) : ByteArray := match at_ s.vs slot with | some y => y.2.2 | none => v
set_option maxRecDepth 100000 in
set_option maxHeartbeats 1600000 in
theorem pick_new (w : World) (pb a b c : Nat) (n : Nat) (s : PS) (h : Pr w pb (some (a, b, c)) n s) (hn : n < 1000000000) (slot : Int) (v : ByteArray) (h0 : ledB s = true) (h1 : ¬ slot < s.fr) (h2 : ¬ 512 ≤ slot) (hx : pkAt s.ks slot = none) :
    Calls Try.prog 18 #[.pointer (some ⟨pb, 0, none⟩), .int .i64 slot, .string v] w fun e w' => e = .returned (.tuple #[.string (pickV s slot v), .bool true]) ∧
      (∃ p q, (w.heap.size ≤ p ∧ w.heap.size ≤ q) ∧ Pr w' pb (some (a, b, c)) (n + 1) { s with ks := s.ks ++ [⟨slot, p, q, pickV s slot v, []⟩] }) ∧ Fr (fun k => k = c) w w' := by
  have hmm := @run_makeMap Try.prog
  have hl := led_any w pb _ n s h
  rw [h0] at hl
  have hf0 := h.fn
  have c5 : w.cell? ⟨pb, 5, none⟩ = some (.int .i64 s.fr) := by rw [cell_of_block h.blk]; rfl
  have c7 : w.cell? ⟨pb, 7, none⟩ = some (.map (some b)) := by rw [cell_of_block h.blk]; rfl
  have c8 : w.cell? ⟨pb, 8, none⟩ = some (.map (some c)) := by rw [cell_of_block h.blk]; rfl
  have hkey : keyOf Try.prog 3 (.int .i64 slot) = some (.int .i64 slot) := keyOf_int_mk Try.underlying3 (WalkArith.wf_i64 (by omega))
  have hz : (zeroValue 72).run Try.prog w = .ok (.pointer none) w := by kernel_rfl
  have hlook : (Instr.lookup 64 (.map (some c)) (.int .i64 slot) false).run Try.prog w = .ok (.pointer none) w := by
    rw [h.maps.2.2.run law Try.underlying64 hz hkey]
    simp [pkF, hx]
  obtain ⟨u, hu⟩ : ∃ u, pickV s slot v = u := ⟨_, rfl⟩
  have hvs : ∃ (V : Vt) (ok : Bool), (Instr.lookup 63 (.map (some b)) (.int .i64 slot) true).run Try.prog w = .ok (.tuple #[.agg #[.int .i64 V.1, .int .i64 V.2.1.1, .int .i64 V.2.1.2, .string V.2.2], .bool ok]) w ∧ (ok = true ∧ u = V.2.2 ∨ ok = false ∧ u = v) := by
    rw [h.maps.2.1.run_ok law Try.underlying63 (zeroV w) hkey]
    unfold pickV at hu
    cases hat : at_ s.vs slot with
    | none => rw [hat] at hu; exact ⟨(0, (0, 0), ⟨#[]⟩), false, by simp [vm, hat], .inr ⟨rfl, hu.symm⟩⟩
    | some y => rw [hat] at hu; exact ⟨y, true, by simp [vm, hat, vval, vcells], .inl ⟨rfl, hu.symm⟩⟩
  obtain ⟨⟨V1, ⟨V2, V3⟩, V4⟩, ok, hlook2, hok⟩ := hvs
  simp only at hlook2 hok
  obtain ⟨y1, hy1⟩ : ∃ y, w.alloc (.cells #[.int .i64 V1, .int .i64 V2, .int .i64 V3, .string V4] 56) = y := ⟨_, rfl⟩
  have hf1 : Fr (fun _ => False) w y1 := by rw [← hy1]; exact Fr.alloc _ _ _
  have hb1 : y1.heap[w.heap.size]? = some (.cells #[.int .i64 V1, .int .i64 V2, .int .i64 V3, .string V4] 56 (0, 0)) := by rw [← hy1]; exact block_alloc _ _
  have d2 : y1.cell? ⟨w.heap.size, 3, none⟩ = some (.string V4) := by rw [cell_of_block hb1]; rfl
  have hp1 := h.fr0 hf1
  have d8 : y1.cell? ⟨pb, 8, none⟩ = some (.map (some c)) := by rw [cell_of_block hp1.blk]; rfl
  obtain ⟨nb, hnb⟩ : ∃ nb, y1.heap.size = nb := ⟨_, rfl⟩
  obtain ⟨y2, hy2⟩ : ∃ y, y1.alloc (.map #[] 0) = y := ⟨_, rfl⟩
  have hf2 : Fr (fun _ => False) y1 y2 := by rw [← hy2]; exact Fr.alloc _ _ _
  have hb2 : y2.heap[nb]? = some (.map #[] 0) := by rw [← hy2, ← hnb]; exact block_alloc _ _
  obtain ⟨px, hpx⟩ : ∃ px, y2.heap.size = px := ⟨_, rfl⟩
  obtain ⟨y3, hy3⟩ : ∃ y, y2.alloc (.cells #[.string u, .map (some nb)] 74) = y := ⟨_, rfl⟩
  have hf3 : Fr (fun _ => False) y2 y3 := by rw [← hy3]; exact Fr.alloc _ _ _
  have hb3 : y3.heap[px]? = some (.cells #[.string u, .map (some nb)] 74 (0, 0)) := by rw [← hy3, ← hpx]; exact block_alloc _ _
  have hf13 := (hf1.trans hf2 (fun _ _ h => h)).trans hf3 (fun _ _ h => h)
  have hp3 := h.fr0 hf13
  obtain ⟨w4, hrun, hm4, ht4⟩ := hp3.maps.2.2.store law Try.underlying64 (by unfold maxLen; omega) (.pointer (some ⟨px, 0, none⟩)) hkey
  have hpx' : y1.heap.size + 1 = px := by rw [← hpx, ← hy2]; simp
  have hrun' : (Instr.mapUpdate 64 (.map (some c)) (.int .i64 slot) (.pointer (some ⟨y1.heap.size + 1, 0, none⟩))).run Try.prog ((y1.alloc (.map #[] 0)).alloc (.cells #[.string u, .map (some y1.heap.size)] 74)) = .ok () w4 := by
    rw [hpx', hy2, hnb, hy3]; exact hrun
  have hs1 := hf1.size
  have hs2 : nb < y2.heap.size := lt_of_block hb2
  have hs3 : px < y3.heap.size := lt_of_block hb3
  have hcl := h.maps.2.2.lt
  have hfin : Pr w4 pb (some (a, b, c)) (n + 1) { s with ks := s.ks ++ [⟨slot, px, nb, u, []⟩] } := by
    have hge : ∀ k, k < y3.heap.size → k ≠ c → w4.heap[k]? = y3.heap[k]? := fun k hk hne => ht4.grown.block k hk (fun e => hne (by cases e; rfl))
    refine h.pick ⟨slot, px, nb, u, []⟩ rfl (by show w.heap.size ≤ px; omega) (by show w.heap.size ≤ nb; omega) (by show px ≠ nb; omega) (fun k hk hne => (hge k (by omega) hne).trans (hf13.block k hk id)) ?_ ?_ ?_
    · exact (hge px hs3 (by omega)).trans hb3
    · have hbn := (hge nb (by omega) (by omega)).trans ((hf3.block nb hs2 id).trans hb2)
      exact ((mapN_made y1 Try.prog 3).congr (f' := setF []) (fun l => by unfold setF; split <;> simp)) |>.of_block (w' := w4) (by rw [hnb, hbn, ← hnb]; exact (block_alloc y1 _).symm) |> (fun hh => by rw [hnb] at hh; exact hh)
    · exact hm4.congr (fun q => pk_snoc s.ks ⟨slot, px, nb, u, []⟩ hx q)
  have HFIN := hide hfin
  have HFR := hide ((hf13.mono (S' := fun k => k = c) (fun _ _ h => h.elim)).trans (Fr.turned (S := fun k => k = c) ht4 rfl) (fun _ _ h => h))
  have HL := hide hl
  have HY1 := hide hy1
  have HY2 := hide hy2
  have HY3 := hide hy3
  have HNB := hide hnb
  have HPX := hide hpx
  have hle : w.heap.size ≤ px ∧ w.heap.size ≤ nb := by omega
  rw [hu]
  clear hfin hl hy1 hy2 hy3 hf1 hf2 hf3 hf13 hb1 hb2 hb3 hp1 hp3 hm4 ht4 h hz hs1 hs2 hs3 hcl hnb hpx hu hx h0 hrun hpx'
  rcases hok with ⟨rfl, hu⟩ | ⟨rfl, hu⟩
  all_goals
    subst hu
    go_enter Try.func18, Try.ntmps18
    go_wp2_with fail
    refine HL.out.mono ?_
    rintro e w' ⟨rfl, rfl⟩
    go_upto_region 7 with fail
    rw [HY1.out]
    go_wp2_with fail
    go_ret2
    exact ⟨rfl, ⟨px, nb, hle, HFIN.out⟩, HFR.out⟩

end Go.Proofs.Ytkefffcfiedkeaa
