/- BallotLoads's walk. -/
import Derived.Test.YthekgecaeblbbaaBallotLoad
import Derived.Test.YthekgecaeblbbaaBytesOf
import Derived.Test.YthekgecaeblbbaaWithin
namespace Go.Proofs.Ythekgecaeblbbaa.BallotLoads
open Go.RowKit Go.Maps Go.Cv Go.Shelf
set_option linter.unusedVariables false

/-- One call: kind, slot, ballot, value. -/
abbrev Ask5 := Int × Int × Bt × ByteArray
abbrev cellsAsk (a : Ask5) : List Value := [.int .i64 a.1, .int .i64 a.2.1, .int .i64 a.2.2.1.1, .int .i64 a.2.2.1.2, .string a.2.2.2]

theorem sv_le {p : Bt} {l : List Vt} {M : Nat} (h : ∀ x ∈ l, x.2.2.size ≤ M) : (sv p l).length ≤ 20 + l.length * (24 + M) := by
  have e : ∀ l : List Vt, (∀ x ∈ l, x.2.2.size ≤ M) → (l.flatMap entryV).length ≤ l.length * (24 + M) := by
    intro l
    induction l with
    | nil => intro _; simp
    | cons x t ih =>
      intro h
      have h1 := ih (fun y hy => h y (List.mem_cons_of_mem _ hy))
      have h2 := h x List.mem_cons_self
      rw [List.flatMap_cons, List.length_append, entryV_len, List.length_cons, Nat.succ_mul]
      omega
  have := e l h
  unfold sv svk
  simp only [List.length_append, beN_length, ballotB_len]; omega
theorem small_accept {p b : Bt} {s : Int} {l : List Vt} {v : ByteArray} {M : Nat} (h : ∀ x ∈ l, x.2.2.size ≤ M) (hv : v.size ≤ M) : ∀ x ∈ acceptL p b s l v, x.2.2.size ≤ M := by
  unfold acceptL
  split
  · intro x hx
    simp only [putV, List.mem_append, List.mem_filter, List.mem_singleton] at hx
    rcases hx with (⟨hx, _⟩ | rfl) | ⟨hx, _⟩
    · exact h x hx
    · exact hv
    · exact h x hx
  · exact h
theorem loadAny (w : World) (v : Value) (bs : List UInt8) (h : Reads w v bs.length 1 (bc bs)) (hlen : bs.length ≤ 140737488355328) :
    Calls Try.prog 20 #[v] w fun e w' => (e = .returned (.tuple #[.pointer none, .int .i64 12]) ∨ ∃ ab, e = .returned (.tuple #[.pointer (some ⟨ab, 0, none⟩), .int .i64 0])) ∧ Fr (fun _ => False) w w' := by
  refine (load_any w v bs h hlen).mono ?_
  rintro e w' ⟨hl, hf⟩
  rcases hl with ⟨_, rfl⟩ | ⟨_, _, ab, _, _, rfl, _⟩
  · exact ⟨.inl rfl, hf⟩
  · exact ⟨.inr ⟨ab, rfl⟩, hf⟩

set_option maxRecDepth 100000 in
set_option maxHeartbeats 6400000 in
theorem walk (w : World) (v0 : Value) (zs : List Int) (h0 : Reads w v0 zs.length 1 (zs.flatMap fun z => [.int .u8 z])) (g0 : ∀ x ∈ zs, (Lit.int .u8 x).wf = true) (c0 : zs.length * 1 ≤ 140737488351232)
    (v1 : Value) (l0 : List Ask5) (h1 : Reads w v1 l0.length 5 (l0.flatMap cellsAsk)) (_ : ∀ a ∈ l0, (Lit.int .i64 a.1).wf = true ∧ (Lit.int .i64 a.2.1).wf = true ∧ ((Lit.int .i64 a.2.2.1.1).wf = true ∧ (Lit.int .i64 a.2.2.1.2).wf = true) ∧ a.2.2.2.size ≤ 140737488351232) (_ : l0.length * 48 ≤ 140737488351232)
    (a2 : Int) (wf2 : (Lit.int .i64 a2).wf = true) (a3 : Int) (wf3 : (Lit.int .u8 a3).wf = true) :
    Calls Try.prog 6 #[v0, v1, .int .i64 a2, .int .u8 a3] w fun e w' => e = .returned (.bool true) ∧ Below w.heap.size w w' := by
  obtain ⟨bs, hbl, hbs⟩ := bytes_of zs g0
  rw [hbs, ← hbl] at h0
  rw [← hbl] at c0
  obtain ⟨b3, rfl⟩ : ∃ b : UInt8, a3 = (b.toNat : Int) := by
    simp [Lit.wf, IntKind.min, IntKind.max, IntKind.signed, IntKind.bits] at wf3
    exact ⟨UInt8.ofNat a3.toNat, by rw [UInt8.toNat_ofNat']; omega⟩
  obtain ⟨n1, hn1⟩ : ∃ n, l0.length = n := ⟨_, rfl⟩
  rw [hn1] at h1
  have HR0 := hide h0
  obtain ⟨nb, hnb⟩ : ∃ n, bs.length = n := ⟨_, rfl⟩
  rw [hnb] at h0 c0
  obtain ⟨_, a0, k0, rfl, _, _, _⟩ := h0
  have HR1 := hide h1
  obtain ⟨_, a1, k1, rfl, _, _, _⟩ := h1
  obtain ⟨hx1, hx2⟩ := wf_bounds wf2
  have HN1 := hide hn1
  have HNB := hide hnb
  clear hbl hbs hn1 g0 wf2 wf3 hnb
  go_enter Try.func6, Try.ntmps6
  go_wp2_with fail
  refine (newAcd w).mono ?_
  rintro e w1 ⟨ab, rfl, ha, hf⟩
  obtain ⟨D, hD⟩ : ∃ D, w1.heap.size = D := ⟨_, rfl⟩
  rw [hD] at ha
  have hwD : w.heap.size ≤ D := by rw [← hD]; exact hf.size
  have A1 := hide ha
  have F1 := hide (hf.mono (S' := fun k => w.heap.size ≤ k) (fun _ _ h => h.elim))
  have HD := hide (show D ≤ w1.heap.size by omega)
  clear ha hf hD
  go_wp2_with fail
  go_loopw [10] (fun i wr => ∃ (k : Nat) (p : Bt) (l : List Vt), i = .int .i64 k ∧ k ≤ 10 ∧ Acd wr w.heap.size D ab k p l ∧ Hid (∀ x ∈ l, x.2.2.size ≤ 1) ∧ Fr (fun j => w.heap.size ≤ j) w wr ∧ D ≤ wr.heap.size)
    (fun i _ => 10 - (intOf i).toNat)
  case atStart => exact ⟨0, (0, 0), [], rfl, by omega, A1.out, (fun x hx => by cases hx), F1.out, HD.out⟩
  case round =>
    obtain ⟨k, p, l, rfl, hk, ha, HSM, hf, hDw⟩ := hrel
    have HA := hide ha
    have HF := hide hf
    clear ha hf
    by_cases hgo : k < n1 ∧ k < 10
    · obtain ⟨hg1, hg2⟩ := hgo
      obtain ⟨x, hx⟩ : ∃ x, l0[k]? = some x := ⟨_, List.getElem?_eq_getElem (by have := HN1.out; omega)⟩
      obtain ⟨b0, o0, rfl, hlt0, hcells⟩ := row_cells (toC := cellsAsk) (s := 5) (fun _ => rfl) HR1.out hx (by decide)
      obtain ⟨kind, slot, ⟨r, nd⟩, vv⟩ := x
      have ik0 : (0 : Int) ≤ (k : Int) := by omega
      have ik1 : (k : Int) < (n1 : Int) := by omega
      have hacc : ∀ s, Calls Try.prog 16 #[.pointer (some ⟨ab, 0, none⟩), .agg #[.int .i64 r, .int .i64 nd], .int .i64 s, .string ⟨#[118]⟩] wr.drew _ := fun s =>
        acceptAcd wr.drew _ D ab k p l (HA.out.fr0 (Fr.refl (fun _ => False) wr).drew) (by omega) (r, nd) s ⟨#[118]⟩
      have hce : ∀ wx, Fr (fun j => w.heap.size ≤ j) w wx → wx.cell? ⟨b0, o0 + k * 5 + 1, none⟩ = some (.int .i64 slot) ∧ wx.cell? ⟨b0, o0 + k * 5 + 2, none⟩ = some (.int .i64 r) ∧ wx.cell? ⟨b0, o0 + k * 5 + 3, none⟩ = some (.int .i64 nd) := fun wx hf => by
        have hbk := hf.block _ hlt0 (by omega)
        exact ⟨hcells 1 _ rfl wx hbk, hcells 2 _ rfl wx hbk, hcells 3 _ rfl wx hbk⟩
      obtain ⟨e1, e2, e3⟩ := hce wr HF.out
      have HACC := hide hacc
      have HCE := hide hce
      clear hcells hx hacc hce
      go_wp2_with fail
      go_region_held3 (fun w' => w'.cell? ⟨b0, o0 + k * 5 + 1, none⟩ = some (.int .i64 slot) ∧ w'.cell? ⟨b0, o0 + k * 5 + 2, none⟩ = some (.int .i64 r) ∧ w'.cell? ⟨b0, o0 + k * 5 + 3, none⟩ = some (.int .i64 nd))
        (go_keep)
        (first
          | ((go_at_call 12; refine (within_ex _ slot 0 20 (by omega) (by omega) (by omega)).mono ?_; rintro e y1 ⟨s, rfl, hs0, hs20, rfl⟩))
          | ((go_at_call 16; refine (HACC.out s).mono ?_; rintro e y2 ⟨rfl, ha2, hf2⟩; have HA2 := hide ha2; have HF2 := hide hf2; obtain ⟨d1, d2, d3⟩ := HCE.out y2 ((HF.out.drew).trans hf2 (fun j _ hj => hj.1)); clear ha2 hf2)))
      all_goals
        go_wp2_with fail
        go_roundw
        case rel =>
          refine ⟨k + 1, _, _, by go_num, by omega, HA2.out, small_accept HSM.out (by decide), (HF.out.drew).trans HF2.out (fun j _ hj => hj.1), ?_⟩
          have := HF2.out.size
          exact Nat.le_trans hDw this
        case measure => simp [intOf]; omega
    · have hex : n1 ≤ k ∨ (k < n1 ∧ 10 ≤ k) := by omega
      clear hgo
      have hll := HA.out.acc.votes_le
      have hsl := sv_le (p := p) HSM.out
      have hsl2 : (sv p l).length ≤ 15000 := by omega
      have hsl3 : 0 < (sv p l).length := by unfold sv svk; simp [beN_length]; omega
      have hsv := save_any wr w.heap.size D ab k p l HA.out (by omega) hDw (by omega)
      obtain ⟨sb, hsb⟩ : ∃ sb, sv p l = sb := ⟨_, rfl⟩
      rw [hsb] at hsv hsl2 hsl3
      obtain ⟨sn, hsn⟩ : ∃ n, sb.length = n := ⟨_, rfl⟩
      rw [hsn] at hsv hsl2 hsl3
      have HSV := hide hsv
      have HSN := hide hsn
      clear hll hsl hsv hsb hsn
      rcases hex with hx | ⟨hx, hx2⟩
      all_goals
        go_wp2_with fail
        refine HSV.out.mono ?_
        rintro e w2 ⟨v2, rfl, ho2, _, hf2⟩
        obtain ⟨ax, cx, rfl⟩ := own_shape ho2
        have HO2 := hide ho2
        have HF2 := hide (HF.out.trans hf2 (fun _ _ h => h.elim))
        have hs2 : w.heap.size ≤ wr.heap.size := HF.out.size
        clear ho2 hf2
        go_wp2_with fail
        refine (within_ex _ a2 0 _ (by omega) (by omega) (by omega)).mono ?_
        rintro e w' ⟨m, rfl, hm0, hm1, rfl⟩
        obtain ⟨K, rfl⟩ : ∃ K : Nat, m = (K : Int) := ⟨m.toNat, by omega⟩
        have hKn : K < sn := by omega
        obtain ⟨ub, hub⟩ : ∃ u, sb[K]? = some u := ⟨_, List.getElem?_eq_getElem (by have := HSN.out; omega)⟩
        obtain ⟨u, hu⟩ := xor_u8 ub b3
        obtain ⟨g, rfl⟩ : ∃ g, ax = some ⟨g, 0, none⟩ := by
          rcases HO2.out.2 with ⟨e, e0⟩ | ⟨g, cap', cs, e, _⟩
          · omega
          · cases e; exact ⟨g, rfl⟩
        have hcell : w2.cell? ⟨g, K, none⟩ = some (.int .u8 ub.toNat) := by
          have := HO2.out.cells (g := g) rfl K (.int .u8 ub.toNat) (bc_at sb K ub hub)
          rw [addr_add] at this; simpa using this
        have hfz : w2.frozen? ⟨g, K, none⟩ = false := by
          rcases HO2.out.2 with ⟨e, e0⟩ | ⟨g', cap', cs, e, _, hg, _⟩
          · cases e
          · cases e; exact free_of_block hg
        have ik0 : (K : Int) < (sn : Int) := by omega
        have ik1 : (0 : Int) ≤ (K : Int) := by omega
        have HUB := hide hub
        clear hub
        go_upto_region 12 with fail
        obtain ⟨W, hW⟩ : ∃ W, w2.setCell ⟨g, K, none⟩ (.int .u8 u.toNat) = W := ⟨_, rfl⟩
        rw [hW]
        have hF : Fr (fun x => w.heap.size ≤ x) w W := by
          rw [← hW]
          exact HF2.out.trans (Fr.setCell (S := fun x => x = g) _ _ _ rfl) (fun x _ hx => by have := (HO2.out.lt g rfl).1; omega)
        have hX : Reads W (.slice (some ⟨g, 0, none⟩) sn cx) sn 1 (bc (sb.set K u)) := by
          have h1 := Reads.of_own (own_set HO2.out K (.int .u8 u.toNat))
          rw [show (bc sb).set K (.int .u8 u.toNat) = bc (sb.set K u) by unfold bc; rw [List.map_set]] at h1
          exact h1.heap (by rw [← hW])
        have hLX : (sb.set K u).length = sn := by rw [List.length_set]; exact HSN.out
        generalize sb.set K u = sx at *
        have hY : Reads W (.slice a0 nb k0) nb 1 (bc bs) := by
          have := reads_old HR0.out hF (fun k hk h => by omega)
          rwa [HNB.out] at this
        obtain ⟨bb, hbb⟩ : ∃ b, W.heap.size = b := ⟨_, rfl⟩
        obtain ⟨W3, hW3⟩ : ∃ W3, W.alloc (.cells #[.slice a0 nb k0, .slice (some ⟨g, 0, none⟩) sn cx] 45) = W3 := ⟨_, rfl⟩
        have hfa : Fr (fun _ => False) W W3 := by rw [← hW3]; exact Fr.alloc _ _ _
        have hB3 : W3.heap[bb]? = some (.cells #[.slice a0 nb k0, .slice (some ⟨g, 0, none⟩) sn cx] 45 (0, 0)) := by rw [← hW3, ← hbb]; exact block_alloc _ _
        have HF3 := hide (hF.trans hfa (fun _ _ h => h.elim))
        have HX3 := hide (reads_old hX hfa (fun _ _ => id))
        have HY3 := hide (reads_old hY hfa (fun _ _ => id))
        have HB3 := hide hB3
        have HLX := hide hLX
        have HBB := hide hbb
        have HW3 := hide hW3
        clear hW hF hX hLX hY hfa hB3 hbb hW3 hcell hfz hu
        go_wp2_with fail
        rw [HW3.out, HBB.out]
        go_loopw [66] (fun i wr => ∃ q : Nat, i = .int .i64 q ∧ q ≤ 2 ∧ Fr (fun _ => False) W3 wr) (fun i _ => 2 - (intOf i).toNat)
        case atStart => exact ⟨0, rfl, by omega, Fr.refl _ _⟩
        case round =>
          obtain ⟨q, rfl, hq, hf⟩ := hrel
          have HG := hide hf
          have hb4 := (hf.block bb (lt_of_block HB3.out) id).trans HB3.out
          have e0 : wr.cell? ⟨bb, 0, none⟩ = some (.slice a0 nb k0) := by rw [cell_of_block hb4]; rfl
          have e1 : wr.cell? ⟨bb, 1, none⟩ = some (.slice (some ⟨g, 0, none⟩) sn cx) := by rw [cell_of_block hb4]; rfl
          have l0 := loadAny wr (.slice a0 nb k0) bs (by rw [HNB.out]; exact reads_old HY3.out hf (fun _ _ => id)) (by have := HNB.out; omega)
          have l1 := loadAny wr (.slice (some ⟨g, 0, none⟩) sn cx) sx (by rw [HLX.out]; exact reads_old HX3.out hf (fun _ _ => id)) (by have := HLX.out; omega)
          have L0 := hide l0
          have L1 := hide l1
          clear hf hb4 l0 l1
          have hq3 : q = 0 ∨ q = 1 ∨ q = 2 := by omega
          rcases hq3 with rfl | rfl | rfl
          · go_wp2_with fail
            refine L0.out.mono ?_
            rintro e y1 ⟨hE, hf1⟩
            have G1 := hide (HG.out.trans hf1 (fun _ _ h => h))
            clear hf1
            rcases hE with rfl | ⟨tb, rfl⟩
            all_goals
              go_wp2_with fail
              go_roundw
              case rel => exact ⟨1, by first | rfl | go_num, by omega, G1.out⟩
              case measure => simp [intOf]
          · go_wp2_with fail
            refine L1.out.mono ?_
            rintro e y1 ⟨hE, hf1⟩
            have G1 := hide (HG.out.trans hf1 (fun _ _ h => h))
            clear hf1
            rcases hE with rfl | ⟨tb, rfl⟩
            all_goals
              go_wp2_with fail
              go_roundw
              case rel => exact ⟨2, by first | rfl | go_num, by omega, G1.out⟩
              case measure => simp [intOf]
          · go_wp2_with fail
            refine (known_any _).mono ?_
            rintro e w10 ⟨rfl, hf10⟩
            go_wp2_with fail
            go_ret
            exact ⟨rfl, ((HF3.out.trans HG.out (fun _ _ h => h.elim)).trans hf10 (fun j _ hj => hj.elim)).toBelow (Nat.le_refl _) (fun j hj h => by omega)⟩
end Go.Proofs.Ythekgecaeblbbaa.BallotLoads
