/- Accepted of paxos. -/
import Derived.Test.YtkefffcfiedkeaaPaxosPick
namespace Go.Proofs.Ytkefffcfiedkeaa
open Go.RowKit Go.Maps Go.Cv
set_option linter.unusedVariables false

def xAddr (o : Option Pk) : Option Addr := o.map fun x => ⟨x.pb, 0, none⟩
theorem pick_look (w : World) (pb : Nat) (mo : Mo) (n : Nat) (s : PS) (h : Pr w pb mo n s) (slot : Int) (hs : -9223372036854775808 ≤ slot ∧ slot ≤ 9223372036854775807) :
    (Instr.lookup 64 (.map (mo.map (·.2.2))) (.int .i64 slot) false).run Try.prog w = .ok (.pointer (xAddr (pkAt s.ks slot))) w := by
  have hkey : keyOf Try.prog 3 (.int .i64 slot) = some (.int .i64 slot) := keyOf_int_mk Try.underlying3 (WalkArith.wf_i64 (by omega))
  have hz : (zeroValue 72).run Try.prog w = .ok (.pointer none) w := by kernel_rfl
  have hm := h.maps
  match mo, hm with
  | none, hm =>
    have e : s.ks = [] := hm.2.2
    rw [e]
    exact Maps.look_nil false law Try.underlying64 hz hkey
  | some (a, b, c), hm =>
    have := hm.2.2.run law Try.underlying64 hz hkey
    simp only [Option.map_some]
    rw [this]
    cases e : pkAt s.ks slot <;> simp [pkF, e, xAddr]

set_option maxRecDepth 100000 in
set_option maxHeartbeats 12800000 in
theorem acc_no (w : World) (pb : Nat) (mo : Mo) (n : Nat) (s : PS) (h : Pr w pb mo n s) (node : Int) (b : Bt) (slot : Int) (hs : -9223372036854775808 ≤ slot ∧ slot ≤ 9223372036854775807) (hno : b ≠ s.b ∨ ¬ (0 ≤ node ∧ node < s.nodes) ∨ pkAt s.ks slot = none) :
    Calls Try.prog 20 #[.pointer (some ⟨pb, 0, none⟩), .int .i64 node, .agg (bcells b), .int .i64 slot] w fun e w' => e = .returned (.bool false) ∧ Fr (fun _ => False) w w' := by
  obtain ⟨b1, b2⟩ := b
  obtain ⟨⟨p1, p2⟩, hp⟩ : ∃ p, s.b = p := ⟨_, rfl⟩
  obtain ⟨y, hy⟩ : ∃ y, w.alloc (.cells #[.int .i64 b1, .int .i64 b2] 29) = y := ⟨_, rfl⟩
  have hfy : Fr (fun _ => False) w y := by rw [← hy]; exact Fr.alloc _ _ _
  have hby : y.heap[w.heap.size]? = some (.cells #[.int .i64 b1, .int .i64 b2] 29 (0, 0)) := by rw [← hy]; exact block_alloc _ _
  have hP := h.fr0 hfy
  have hcs : ∀ wx, Fr (fun _ => False) y wx → wx.cell? ⟨w.heap.size, 0, none⟩ = some (.int .i64 b1) ∧ wx.cell? ⟨w.heap.size, 1, none⟩ = some (.int .i64 b2) ∧ wx.cell? ⟨pb, 3, none⟩ = some (.int .i64 p1) ∧ wx.cell? ⟨pb, 4, none⟩ = some (.int .i64 p2) ∧ wx.cell? ⟨pb, 8, none⟩ = some (.map (mo.map (·.2.2))) := fun wx hf => by
    have e1' := (hf.block _ (lt_of_block hby) id).trans hby
    have e2' := (hP.fr0 hf).blk
    exact ⟨by rw [cell_of_block e1']; rfl, by rw [cell_of_block e1']; rfl, by rw [cell_of_block e2', hp]; rfl, by rw [cell_of_block e2', hp]; rfl, by rw [cell_of_block e2']; rfl⟩
  have hlook := pick_look y pb mo n s hP slot hs
  have hnode : ∀ wx, Fr (fun _ => False) y wx → Calls Try.prog 27 #[.pointer (some ⟨pb, 0, none⟩), .int .i64 node] wx fun e w' => e = .returned (.bool (decide (0 ≤ node) && decide (node < s.nodes))) ∧ w' = wx := fun wx hf => node_any wx pb mo n s (hP.fr0 hf) node
  have hneq : ∀ wx, (binOp .neq 29 (.agg #[.int .i64 b1, .int .i64 b2]) (.agg #[.int .i64 p1, .int .i64 p2])).run Try.prog wx = .ok (.bool (!(b1 == p1 && b2 == p2))) wx := fun wx => run_neqB wx _ _ _ _
  have hcase : (b1 == p1 && b2 == p2) = false ∨ ((b1 == p1 && b2 == p2) = true ∧ (decide (0 ≤ node) && decide (node < s.nodes)) = false) ∨ ((b1 == p1 && b2 == p2) = true ∧ (decide (0 ≤ node) && decide (node < s.nodes)) = true ∧ xAddr (pkAt s.ks slot) = none) := by
    cases h1 : (b1 == p1 && b2 == p2) with
    | false => exact .inl rfl
    | true =>
      right
      cases h2 : (decide (0 ≤ node) && decide (node < s.nodes)) with
      | false => exact .inl ⟨rfl, rfl⟩
      | true =>
        right
        refine ⟨rfl, rfl, ?_⟩
        rcases hno with h | h | h
        · simp at h1; exact absurd (by rw [hp, h1.1, h1.2]) h
        · simp at h2; exact absurd h2 h
        · rw [h]; rfl
  generalize (b1 == p1 && b2 == p2) = q1 at *
  generalize (decide (0 ≤ node) && decide (node < s.nodes)) = q2 at *
  generalize xAddr (pkAt s.ks slot) = xa at *
  generalize mo.map (·.2.2) = mq at *
  obtain ⟨k0, k1, k2, k3, k4⟩ := hcs y (Fr.refl _ _)
  have W0 := hide ((Fr.refl (fun _ => False) y).drew)
  have HC := hide hcs
  have HY := hide hy
  have HF := hide hfy
  have HN := hide hnode
  clear hcs hy hfy hnode hP h hno hby hp
  show Calls _ _ #[.pointer (some ⟨pb, 0, none⟩), .int .i64 node, .agg #[.int .i64 b1, .int .i64 b2], .int .i64 slot] w _
  rcases hcase with rfl | ⟨rfl, rfl⟩ | ⟨rfl, rfl, rfl⟩
  · have hneq' : ∀ wx, (binOp .neq 29 (.agg #[.int .i64 b1, .int .i64 b2]) (.agg #[.int .i64 p1, .int .i64 p2])).run Try.prog wx = .ok (.bool true) wx := hneq
    clear hneq
    go_enter Try.func20, Try.ntmps20
    go_upto_region 1 with fail
    rw [HY.out]
    go_wp2_with fail
    go_quiet (fail)
    go_wp2_with fail
    go_ret
    exact ⟨rfl, HF.out.drewN _⟩
  all_goals
    have hneq' : ∀ wx, (binOp .neq 29 (.agg #[.int .i64 b1, .int .i64 b2]) (.agg #[.int .i64 p1, .int .i64 p2])).run Try.prog wx = .ok (.bool false) wx := hneq
    clear hneq
    go_enter Try.func20, Try.ntmps20
    go_upto_region 1 with fail
    rw [HY.out]
    go_wp2_with fail
    obtain ⟨f0, f1, f2, f3, f4⟩ := HC.out _ W0.out
    first
      | go_region_with ((go_at_call 27; refine (HN.out _ W0.out).mono ?_; rintro e w' ⟨rfl, rfl⟩))
      | fail
    all_goals
      go_wp2_with fail
      go_ret
      exact ⟨rfl, HF.out.drew⟩

/-- Counted. -/
def accP (x : Pk) (node : Int) (y : Pk) : Pk := if y.pb = x.pb then { y with ns := addS y.ns node } else y
def accS (s : PS) (x : Pk) (node : Int) : PS := { s with ks := s.ks.map (accP x node) }
theorem accP_slot (x : Pk) (node : Int) (y : Pk) : (accP x node y).slot = y.slot ∧ (accP x node y).pb = y.pb ∧ (accP x node y).nb = y.nb ∧ (accP x node y).v = y.v := by
  unfold accP; split <;> exact ⟨rfl, rfl, rfl, rfl⟩
theorem pkAt_acc (ks : List Pk) (x : Pk) (node i : Int) : pkAt (ks.map (accP x node)) i = (pkAt ks i).map (accP x node) := by
  unfold pkAt
  rw [List.find?_map]
  congr 1
  congr 1
  funext y
  simp [(accP_slot x node y).1]
theorem pkF_acc (ks : List Pk) (x : Pk) (node : Int) (q : Lit) : pkF (ks.map (accP x node)) q = pkF ks q := by
  match q with
  | .int .i64 i =>
    simp only [pkF, pkAt_acc, Option.map_map]
    congr 1
    funext y
    simp [(accP_slot x node y).2.1]
  | .int .i8 _ | .int .i16 _ | .int .i32 _ | .int .u8 _ | .int .u16 _ | .int .u32 _ | .int .u64 _ => rfl
  | .bool _ | .float _ _ | .string _ | .nil => rfl
theorem blocks_acc (pb : Nat) (mo : Mo) (ks : List Pk) (x : Pk) (node : Int) : blocks pb mo (ks.map (accP x node)) = blocks pb mo ks := by
  unfold blocks
  rw [List.flatMap_map]
  congr 2
  congr 1
  funext y
  simp [(accP_slot x node y).2.1, (accP_slot x node y).2.2.1]
theorem flat_inj : ∀ {ks : List Pk}, (ks.flatMap (fun x => [x.pb, x.nb])).Nodup → ∀ {x y : Pk}, x ∈ ks → y ∈ ks → y.pb ≠ x.nb ∧ (y.nb = x.nb → y = x) ∧ (y.pb = x.pb → y = x)
  | [], _, _, _, hx, _ => by cases hx
  | z :: t, h, x, y, hx, hy => by
    simp only [List.flatMap_cons, List.cons_append, List.nil_append, List.nodup_cons, List.mem_cons, not_or] at h
    obtain ⟨⟨h1, h2⟩, h3, h4⟩ := h
    have hin : ∀ u ∈ t, u.pb ∈ t.flatMap (fun x => [x.pb, x.nb]) ∧ u.nb ∈ t.flatMap (fun x => [x.pb, x.nb]) := fun u hu => ⟨List.mem_flatMap.2 ⟨u, hu, by simp⟩, List.mem_flatMap.2 ⟨u, hu, by simp⟩⟩
    rcases List.mem_cons.1 hx with ex | hx2 <;> rcases List.mem_cons.1 hy with ey | hy2
    · subst ex; subst ey; exact ⟨h1, fun _ => rfl, fun _ => rfl⟩
    · subst ex; exact ⟨fun e => h3 (e ▸ (hin y hy2).1), fun e => absurd (e ▸ (hin y hy2).2) h3, fun e => absurd (e ▸ (hin y hy2).1) h2⟩
    · subst ey; exact ⟨fun e => h2 (e ▸ (hin x hx2).2), fun e => absurd (e ▸ (hin x hx2).2) h3, fun e => absurd (e ▸ (hin x hx2).1) h2⟩
    · exact flat_inj h4 hx2 hy2
theorem Pr.acc {w w' : World} {pb : Nat} {mo : Mo} {n : Nat} {s : PS} (h : Pr w pb mo n s) (x : Pk) (hx : x ∈ s.ks) (node : Int) (hn : 0 ≤ node ∧ node < s.nodes) (ht : w.mapTurned w' x.nb)
    (hm : mapN w' Try.prog 3 x.nb (addS x.ns node).length (setF (addS x.ns node))) : Pr w' pb mo n (accS s x node) := by
  have hge : ∀ k, k < w.heap.size → k ≠ x.nb → w'.heap[k]? = w.heap[k]? := fun k hk hne => ht.grown.block k hk (fun e => hne (by cases e; rfl))
  have hnd := h.nd
  unfold blocks at hnd
  have hnd1 := List.nodup_cons.1 hnd
  have hnd2 := List.nodup_append.1 hnd1.2
  have hxf : x.nb ∈ s.ks.flatMap (fun x => [x.pb, x.nb]) := List.mem_flatMap.2 ⟨x, hx, by simp⟩
  refine ⟨(hge pb (lt_of_block h.blk) (fun e => hnd1.1 (List.mem_append_right _ (e ▸ hxf)))).trans h.blk, ?_, by rw [show (accS s x node).ks = s.ks.map (accP x node) from rfl, blocks_acc]; exact h.nd, fun y hy => ?_, h.st, h.sl, h.pn, h.nn, h.mn, h.rn, h.fn, h.nb⟩
  · have h1 : Maps3 w' n s.ps s.vs s.ks mo := h.maps.heap (fun k hk => hge k (h.lt k (List.mem_cons_of_mem _ (List.mem_append_left _ hk))) (fun e => hnd2.2.2 k hk x.nb hxf e))
    show Maps3 w' n s.ps s.vs (s.ks.map (accP x node)) mo
    match mo, h1 with
    | none, h1 => exact ⟨h1.1, h1.2.1, by rw [h1.2.2]; rfl⟩
    | some (a, b, c), h1 => exact ⟨h1.1, h1.2.1, h1.2.2.congr (pkF_acc s.ks x node)⟩
  · obtain ⟨z, hz, rfl⟩ := List.mem_map.1 hy
    obtain ⟨q1, q2, q3, q4⟩ := h.picks z hz
    obtain ⟨i1, i2, i3⟩ := flat_inj hnd2.2.1 hx hz
    obtain ⟨e1, e2, e3, e4⟩ := accP_slot x node z
    rw [e2, e3, e4]
    refine ⟨(hge _ (lt_of_block q1) i1).trans q1, ?_⟩
    by_cases e : z.pb = x.pb
    · obtain rfl := i3 e
      have : accP z node z = { z with ns := addS z.ns node } := by unfold accP; rw [if_pos rfl]
      rw [this]
      exact ⟨hm, addS_nodup q3 _, fun i hi => (mem_addS.1 hi).elim (q4 i) (fun e => e ▸ hn)⟩
    · have : accP x node z = z := by unfold accP; rw [if_neg e]
      rw [this]
      exact ⟨q2.of_block (hge _ q2.lt (fun e5 => e (by rw [i2 e5]))), q3, q4⟩

set_option maxRecDepth 100000 in
set_option maxHeartbeats 6400000 in
theorem acc_yes (w : World) (pb : Nat) (mo : Mo) (n : Nat) (s : PS) (h : Pr w pb mo n s) (node : Int) (slot : Int) (hs : -9223372036854775808 ≤ slot ∧ slot ≤ 9223372036854775807) (hnode : 0 ≤ node ∧ node < s.nodes) (x : Pk) (hx : pkAt s.ks slot = some x) :
    Calls Try.prog 20 #[.pointer (some ⟨pb, 0, none⟩), .int .i64 node, .agg (bcells s.b), .int .i64 slot] w fun e w' => e = .returned (.bool (decide (s.nodes < 2 * ((addS x.ns node).length : Int)))) ∧ Pr w' pb mo n (accS s x node) ∧ Fr (fun k => k = x.nb) w w' := by
  obtain ⟨⟨p1, p2⟩, hp⟩ : ∃ p, s.b = p := ⟨_, rfl⟩
  rw [hp]
  obtain ⟨y, hy⟩ : ∃ y, w.alloc (.cells #[.int .i64 p1, .int .i64 p2] 29) = y := ⟨_, rfl⟩
  have hfy : Fr (fun _ => False) w y := by rw [← hy]; exact Fr.alloc _ _ _
  have hby : y.heap[w.heap.size]? = some (.cells #[.int .i64 p1, .int .i64 p2] 29 (0, 0)) := by rw [← hy]; exact block_alloc _ _
  have hP := h.fr0 hfy
  have hxm := List.mem_of_find?_eq_some hx
  have hcs : ∀ wx, Fr (fun _ => False) y wx → wx.cell? ⟨w.heap.size, 0, none⟩ = some (.int .i64 p1) ∧ wx.cell? ⟨w.heap.size, 1, none⟩ = some (.int .i64 p2) ∧ wx.cell? ⟨pb, 3, none⟩ = some (.int .i64 p1) ∧ wx.cell? ⟨pb, 4, none⟩ = some (.int .i64 p2) ∧ wx.cell? ⟨pb, 8, none⟩ = some (.map (mo.map (·.2.2))) := fun wx hf => by
    have e1' := (hf.block _ (lt_of_block hby) id).trans hby
    have e2' := (hP.fr0 hf).blk
    exact ⟨by rw [cell_of_block e1']; rfl, by rw [cell_of_block e1']; rfl, by rw [cell_of_block e2', hp]; rfl, by rw [cell_of_block e2', hp]; rfl, by rw [cell_of_block e2']; rfl⟩
  have hlook := pick_look y pb mo n s hP slot hs
  rw [hx] at hlook
  have hlook' : (Instr.lookup 64 (.map (mo.map (·.2.2))) (.int .i64 slot) false).run Try.prog y = .ok (.pointer (some ⟨x.pb, 0, none⟩)) y := hlook
  have hnd : ∀ wx, Fr (fun _ => False) y wx → Calls Try.prog 27 #[.pointer (some ⟨pb, 0, none⟩), .int .i64 node] wx fun e w' => e = .returned (.bool true) ∧ w' = wx := fun wx hf => by
    have := node_any wx pb mo n s (hP.fr0 hf) node
    rwa [show (decide (0 ≤ node) && decide (node < s.nodes)) = true by simp; exact hnode] at this
  have hneq : ∀ wx, (binOp .neq 29 (.agg #[.int .i64 p1, .int .i64 p2]) (.agg #[.int .i64 p1, .int .i64 p2])).run Try.prog wx = .ok (.bool false) wx := fun wx => by
    have := run_neqB wx p1 p2 p1 p2
    simpa using this
  generalize mo.map (·.2.2) = mq at *
  obtain ⟨k0, k1, k2, k3, k4⟩ := hcs y (Fr.refl _ _)
  have W0 := hide ((Fr.refl (fun _ => False) y).drew)
  have hpd := hP.fr0 W0.out
  obtain ⟨qx1, qx2, qx3, qx4⟩ := hpd.picks x hxm
  have hl5 : x.ns.length ≤ 5 := nodup_len 5 x.ns qx3 (fun i hi => by have := qx4 i hi; have := hpd.nn; exact ⟨by omega, by show i < 5; omega⟩)
  have hkey : keyOf Try.prog 3 (.int .i64 node) = some (.int .i64 node) := keyOf_int_mk Try.underlying3 (WalkArith.wf_i64 (by have := hpd.nn; omega))
  have x1 : y.drew.cell? ⟨x.pb, 1, none⟩ = some (.map (some x.nb)) := by rw [cell_of_block qx1]; rfl
  obtain ⟨w2, hrun, hm2, ht2⟩ := qx2.store law Try.underlying62 (by unfold maxLen; omega) (.int .i64 1) hkey
  have hm3 : mapN w2 Try.prog 3 x.nb (addS x.ns node).length (setF (addS x.ns node)) := by rw [addS_len]; exact hm2.congr (setF_add x.ns node)
  have hpr2 := hpd.acc x hxm node hnode ht2 hm3
  have hpx2 : w2.heap[x.pb]? = some (.cells #[.string x.v, .map (some x.nb)] 74 (0, 0)) := by
    have hnd1 := List.nodup_append.1 (List.nodup_cons.1 hpd.nd).2
    exact (ht2.grown.block x.pb (lt_of_block qx1) (fun e => (flat_inj hnd1.2.1 hxm hxm).1 (Option.some.inj e))).trans qx1
  have x2 : w2.cell? ⟨x.pb, 1, none⟩ = some (.map (some x.nb)) := by rw [cell_of_block hpx2]; rfl
  have hlen := hm3.len Try.underlying62 3
  obtain ⟨m, hm⟩ : ∃ m, (addS x.ns node).length = m := ⟨_, rfl⟩
  have hm6 : m ≤ 6 := by rw [← hm, addS_len]; split <;> omega
  rw [hm] at hlen
  have hmore := more_any w2 pb mo n (accS s x node) hpr2 (m : Int) (by omega) (by omega)
  have HMORE := hide (show Calls Try.prog 25 #[.pointer (some ⟨pb, 0, none⟩), .int .i64 (m : Int)] w2 fun e w' => e = .returned (.bool (decide (s.nodes < 2 * (m : Int)))) ∧ w' = w2 from hmore)
  have HC := hide hcs
  have HY := hide hy
  have HPR2 := hide hpr2
  have HF2 := hide (((hfy.mono (S' := fun k => k = x.nb) (fun _ _ h => h.elim)).drew).trans (Fr.turned (S := fun k => k = x.nb) ht2 rfl) (fun _ _ h => h))
  have HN := hide hnd
  rw [hm]
  clear hcs hy hfy hnd hP h hby hp hlook hpd qx1 qx2 qx3 qx4 hm2 ht2 hm3 hpr2 hpx2 hmore hm hxm hx hkey
  show Calls _ _ #[.pointer (some ⟨pb, 0, none⟩), .int .i64 node, .agg #[.int .i64 p1, .int .i64 p2], .int .i64 slot] w _
  go_enter Try.func20, Try.ntmps20
  go_upto_region 1 with fail
  rw [HY.out]
  go_upto_region 2 with fail
  obtain ⟨f0, f1, f2, f3, f4⟩ := HC.out _ W0.out
  go_region_held3 (fun w' => w'.cell? ⟨w.heap.size, 0, none⟩ = some (.int .i64 p1) ∧ w'.cell? ⟨w.heap.size, 1, none⟩ = some (.int .i64 p2) ∧ w'.cell? ⟨pb, 3, none⟩ = some (.int .i64 p1) ∧ w'.cell? ⟨pb, 4, none⟩ = some (.int .i64 p2))
    (go_keep)
    ((go_at_call 27; refine (HN.out _ W0.out).mono ?_; rintro e w' ⟨rfl, rfl⟩))
  all_goals
    go_wp2_with fail
    refine HMORE.out.mono ?_
    rintro e w' ⟨rfl, rfl⟩
    go_wp2_with fail
    go_ret
    exact ⟨rfl, HPR2.out, HF2.out⟩
end Go.Proofs.Ytkefffcfiedkeaa
