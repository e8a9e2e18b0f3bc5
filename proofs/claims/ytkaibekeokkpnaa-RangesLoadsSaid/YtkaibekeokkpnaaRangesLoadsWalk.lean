/- RangesLoads's walk. -/
import Derived.Test.YtkaibekeokkpnaaRgLoad
import Derived.Test.YtkaibekeokkpnaaBytesOf
namespace Go.Proofs.Ytkaibekeokkpnaa.RangesLoads
open Go.RowKit Go.Maps Go.Cv Go.Shelf
set_option linter.unusedVariables false

theorem newP_r (r : Int) (h0 : 0 ≤ r) (h1 : r ≤ 2) : rightM 1 (newP (1 + r) (1 + r).toNat) = true := by
  obtain ⟨k, hk⟩ : ∃ k : Nat, 1 + r = (k : Int) := ⟨(1 + r).toNat, by omega⟩
  rw [hk, Int.toNat_natCast]; exact newP_right k (by omega)
theorem loadT_right {bs : List UInt8} {ep : Int} {l : List P3} (h : loadT bs = some (ep, l)) : rightM ep l = true := by
  unfold loadT at h
  simp only at h
  split at h
  · cases h
  · rename_i hn
    simp only [Option.some.injEq, Prod.mk.injEq] at h
    rw [← h.1, ← h.2]
    cases hq : rightM _ _ with
    | true => rfl
    | false => exact absurd (.inr (.inl hq)) hn
theorem loadAny (w : World) (v : Value) (bs : List UInt8) (h : Reads w v bs.length 1 (bc bs)) (hlen : bs.length ≤ 140737488355328) :
    Calls Try.prog 16 #[v] w fun e w' => (∃ ep a n c l q er, e = .returned (.tuple #[.agg #[.int .i64 ep, .slice a n c], .int .i64 er]) ∧ RD w' a n c l ∧ rightM ep l = q ∧ ((q = true ∧ er = 0) ∨ (q = false ∧ er = 12))) ∧ Fr (fun _ => False) w w' := by
  refine (load_any w v bs h hlen).mono ?_
  rintro e w' ⟨hl, hf⟩
  rcases hl with ⟨_, rfl⟩ | ⟨ep, l, a, n, c, hl, rfl, hd⟩
  · exact ⟨⟨0, none, 0, 0, [], false, 12, rfl, ⟨rfl, Reads.nil _ _, by omega⟩, by decide, .inr ⟨rfl, rfl⟩⟩, hf⟩
  · exact ⟨⟨ep, a, n, c, l, true, 0, rfl, hd, loadT_right hl, .inl ⟨rfl, rfl⟩⟩, hf⟩

set_option maxRecDepth 100000 in
set_option maxHeartbeats 6400000 in
theorem walk (w : World) (v0 : Value) (zs : List Int) (h0 : Reads w v0 zs.length 1 (zs.flatMap fun z => [.int .u8 z])) (g0 : ∀ x ∈ zs, (Lit.int .u8 x).wf = true) (c0 : zs.length * 1 ≤ 140737488351232)
    (a1 : Int) (wf1 : (Lit.int .i64 a1).wf = true) (a2 : Int) (wf2 : (Lit.int .i64 a2).wf = true) (a3 : Int) (wf3 : (Lit.int .u8 a3).wf = true) :
    Calls Try.prog 5 #[v0, .int .i64 a1, .int .i64 a2, .int .u8 a3] w fun e w' => e = .returned (.bool true) ∧ Below w.heap.size w w' := by
  obtain ⟨bs, hbl, hbs⟩ := bytes_of zs g0
  rw [hbs, ← hbl] at h0
  rw [← hbl] at c0
  obtain ⟨b3, rfl⟩ : ∃ b : UInt8, a3 = (b.toNat : Int) := by
    simp [Lit.wf, IntKind.min, IntKind.max, IntKind.signed, IntKind.bits] at wf3
    exact ⟨UInt8.ofNat a3.toNat, by rw [UInt8.toNat_ofNat']; omega⟩
  have HR0 := hide h0
  obtain ⟨nb, hnb⟩ : ∃ n, bs.length = n := ⟨_, rfl⟩
  rw [hnb] at h0 c0
  obtain ⟨_, a0, k0, rfl, _, _, _⟩ := h0
  have HNB := hide hnb
  clear hbl hbs g0 wf1 wf2 wf3 hnb
  go_enter Try.func5, Try.ntmps5
  go_wp2_with fail
  refine (within_ex w a1 0 2 (by omega) (by omega) (by omega)).mono ?_
  rintro e w0 ⟨r, rfl, hr1, hr2, rfl⟩
  go_wp2_with fail
  refine (newM w (1 + r) (by omega)).mono ?_
  rintro e w1 ⟨a, m, c, rfl, hd1, hf1⟩
  obtain ⟨l, hl⟩ : ∃ l, newP (1 + r) (1 + r).toNat = l := ⟨_, rfl⟩
  rw [hl] at hd1
  have M1 := MV.made 1 hd1
  have hf2 : Fr (fun _ => False) w1 _ := Fr.alloc (fun _ => False) w1 (.cells #[.int .i64 1, .slice a m c] 25)
  obtain ⟨w2, hw2⟩ : ∃ w2, w1.alloc (.cells #[.int .i64 1, .slice a m c] 25) = w2 := ⟨_, rfl⟩
  obtain ⟨b1, hb1⟩ : ∃ b, w1.heap.size = b := ⟨_, rfl⟩
  rw [hw2, hb1] at M1
  rw [hw2] at hf2
  have d0 := M1.c0
  have d1 := M1.c1
  have HM1 := hide M1
  have F2 := hide (hf1.trans hf2 (fun _ _ h => h))
  have HW2 := hide hw2
  have HB1 := hide hb1
  clear hl hd1 M1 hf1 hf2 hw2 hb1
  go_upto_region 2 with fail
  rw [HW2.out, HB1.out]
  go_wp2_with fail
  refine (save_any w2 1 a m c l HM1.out.2).mono ?_
  rintro e w3 ⟨v2, rfl, ho2, hf3⟩
  obtain ⟨sb, hsb⟩ : ∃ sb, sv 1 l = sb := ⟨_, rfl⟩
  have hsl2 : sb.length ≤ 60000 := by rw [← hsb]; unfold sv; rw [svk_len]; have := HM1.out.2.1; have := HM1.out.2.2.2; omega
  have hsl3 : 0 < sb.length := by rw [← hsb]; unfold sv; rw [svk_len]; omega
  rw [hsb] at ho2
  obtain ⟨sn, hsn⟩ : ∃ n, sb.length = n := ⟨_, rfl⟩
  rw [hsn] at ho2 hsl2 hsl3
  obtain ⟨ax, cx, rfl⟩ := own_shape ho2
  have HO2 := hide ho2
  have HSN := hide hsn
  have HF2 := hide (F2.out.trans hf3 (fun _ _ h => h))
  have hw23 : w.heap.size ≤ w2.heap.size := F2.out.size
  have isn : (0 : Int) < (sn : Int) := by omega
  clear ho2 hsn hsb hf3 d0 d1
  go_wp2_with fail
  refine (within_ex w3 a2 0 ((sn : Int) - 1) (by omega) (by omega) (by omega)).mono ?_
  rintro e w0 ⟨K0, rfl, hk0, hk1, rfl⟩
  obtain ⟨K, rfl⟩ : ∃ K : Nat, K0 = (K : Int) := ⟨K0.toNat, by omega⟩
  have hKn : K < sn := by omega
  obtain ⟨ub, hub⟩ : ∃ u, sb[K]? = some u := ⟨_, List.getElem?_eq_getElem (by have := HSN.out; omega)⟩
  obtain ⟨u, hu⟩ := xor_u8 ub b3
  obtain ⟨g, rfl⟩ : ∃ g, ax = some ⟨g, 0, none⟩ := by
    rcases HO2.out.2 with ⟨e, e0⟩ | ⟨g, cap', cs, e, _⟩
    · omega
    · cases e; exact ⟨g, rfl⟩
  have hcell : w3.cell? ⟨g, K, none⟩ = some (.int .u8 ub.toNat) := by
    have := HO2.out.cells (g := g) rfl K (.int .u8 ub.toNat) (bc_at sb K ub hub)
    rw [addr_add] at this; simpa using this
  have hfz : w3.frozen? ⟨g, K, none⟩ = false := by
    rcases HO2.out.2 with ⟨e, e0⟩ | ⟨g', cap', cs, e, _, hg, _⟩
    · cases e
    · cases e; exact free_of_block hg
  have ik0 : (K : Int) < (sn : Int) := by omega
  have ik1 : (0 : Int) ≤ (K : Int) := by omega
  have hsn0 : ¬ sn = 0 := by omega
  have HUB := hide hub
  clear hub hk0 hk1
  go_upto_region 8 with fail
  obtain ⟨W, hW⟩ : ∃ W, w3.setCell ⟨g, K, none⟩ (.int .u8 u.toNat) = W := ⟨_, rfl⟩
  rw [hW]
  have hF : Fr (fun _ => False) w W := by
    rw [← hW]
    exact ((HF2.out.mono (S' := fun x => x = g) (fun _ _ h => h.elim)).trans (Fr.setCell (S := fun x => x = g) _ _ _ rfl) (fun _ _ h => h)).fresh (fun x hx => by have := (HO2.out.lt g rfl).1; omega)
  have hX : Reads W (.slice (some ⟨g, 0, none⟩) sn cx) sn 1 (bc (sb.set K u)) := by
    have h1 := Reads.of_own (own_set HO2.out K (.int .u8 u.toNat))
    rw [show (bc sb).set K (.int .u8 u.toNat) = bc (sb.set K u) by unfold bc; rw [List.map_set]] at h1
    rw [← hW]; exact h1
  have hLX : (sb.set K u).length = sn := by rw [List.length_set]; exact HSN.out
  generalize sb.set K u = sx at *
  have hY : Reads W (.slice a0 nb k0) nb 1 (bc bs) := by
    have := reads_old HR0.out hF (fun k hk h => h)
    rwa [HNB.out] at this
  obtain ⟨bb, hbb⟩ : ∃ b, W.heap.size = b := ⟨_, rfl⟩
  obtain ⟨W3, hW3⟩ : ∃ W3, W.alloc (.cells #[.slice a0 nb k0, .slice (some ⟨g, 0, none⟩) sn cx] 49) = W3 := ⟨_, rfl⟩
  have hfa : Fr (fun _ => False) W W3 := by rw [← hW3]; exact Fr.alloc _ _ _
  have hB3 : W3.heap[bb]? = some (.cells #[.slice a0 nb k0, .slice (some ⟨g, 0, none⟩) sn cx] 49 (0, 0)) := by rw [← hW3, ← hbb]; exact block_alloc _ _
  have HF3 := hide (hF.trans hfa (fun _ _ h => h.elim))
  have HX3 := hide (reads_old hX hfa (fun _ _ => id))
  have HY3 := hide (reads_old hY hfa (fun _ _ => id))
  have HB3 := hide hB3
  have HLX := hide hLX
  have HBB := hide hbb
  have HW3 := hide hW3
  clear hW hF hX hLX hY hfa hB3 hbb hW3 hcell hfz hu
  go_wp2_with fail
  rw [HW3.out, HBB.out]
  go_loopw [49] (fun i wr => ∃ q : Nat, i = .int .i64 q ∧ q ≤ 2 ∧ Fr (fun _ => False) W3 wr) (fun i _ => 2 - (intOf i).toNat)
  case atStart => exact ⟨0, rfl, by omega, Fr.refl _ _⟩
  case round =>
    obtain ⟨q, rfl, hq, hf⟩ := hrel
    have HG := hide hf
    have hb4 := (hf.block bb (lt_of_block HB3.out) id).trans HB3.out
    have e0 : wr.cell? ⟨bb, 0, none⟩ = some (.slice a0 nb k0) := by rw [cell_of_block hb4]; rfl
    have e1 : wr.cell? ⟨bb, 1, none⟩ = some (.slice (some ⟨g, 0, none⟩) sn cx) := by rw [cell_of_block hb4]; rfl
    have l0 := loadAny wr (.slice a0 nb k0) bs (by rw [HNB.out]; exact reads_old HY3.out hf (fun _ _ => id)) (by have := HNB.out; omega)
    have l1 := loadAny wr (.slice (some ⟨g, 0, none⟩) sn cx) sx (by rw [HLX.out]; exact reads_old HX3.out hf (fun _ _ => id)) (by have := HLX.out; omega)
    have hq3 : (∃ vv : Value, (q = 0 ∧ vv = .slice a0 nb k0 ∨ q = 1 ∧ vv = .slice (some ⟨g, 0, none⟩) sn cx)) ∨ q = 2 := by
      have : q = 0 ∨ q = 1 ∨ q = 2 := by omega
      rcases this with rfl | rfl | rfl
      · exact .inl ⟨_, .inl ⟨rfl, rfl⟩⟩
      · exact .inl ⟨_, .inr ⟨rfl, rfl⟩⟩
      · exact .inr rfl
    have L0 := hide l0
    have L1 := hide l1
    clear hf hb4 l0 l1
    rcases hq3 with ⟨vv, ⟨rfl, rfl⟩ | ⟨rfl, rfl⟩⟩ | rfl
    · go_wp2_with fail
      refine L0.out.mono ?_
      rintro e y1 ⟨⟨ep, a9, n9, c9, l9, q9, er, rfl, hd9, hp9, hq9⟩, hf1⟩
      have M9 := MV.made ep hd9
      have hf9 : Fr (fun _ => False) y1 _ := Fr.alloc (fun _ => False) y1 (.cells #[.int .i64 ep, .slice a9 n9 c9] 25)
      obtain ⟨y2, hy2⟩ : ∃ y2, y1.alloc (.cells #[.int .i64 ep, .slice a9 n9 c9] 25) = y2 := ⟨_, rfl⟩
      obtain ⟨b9, hb9⟩ : ∃ b, y1.heap.size = b := ⟨_, rfl⟩
      rw [hy2, hb9] at M9
      rw [hy2] at hf9
      have x0 := M9.c0
      have x1 := M9.c1
      have HR9 := hide (rightC y2 ep a9 n9 c9 l9 M9.2)
      have G1 := hide ((HG.out.trans hf1 (fun _ _ h => h)).trans hf9 (fun _ _ h => h))
      have HY2 := hide hy2
      have HB9 := hide hb9
      clear hd9 M9 hf1 hf9 hy2 hb9
      rw [hp9] at HR9
      have HQ9 := hide hq9
      clear hp9 hq9
      go_upto_region 12 with fail
      rw [HY2.out, HB9.out]
      rcases HQ9.out with ⟨rfl, rfl⟩ | ⟨rfl, rfl⟩
      all_goals
        go_wp2_with fail
        refine HR9.out.mono ?_
        rintro e y3 ⟨rfl, hf3⟩
        have G3 := hide (G1.out.trans hf3 (fun _ _ h => h))
        clear hf3
        go_wp2_with fail
        go_roundw
        case rel => exact ⟨1, by first | rfl | go_num, by omega, G3.out⟩
        case measure => simp [intOf]
    · go_wp2_with fail
      refine L1.out.mono ?_
      rintro e y1 ⟨⟨ep, a9, n9, c9, l9, q9, er, rfl, hd9, hp9, hq9⟩, hf1⟩
      have M9 := MV.made ep hd9
      have hf9 : Fr (fun _ => False) y1 _ := Fr.alloc (fun _ => False) y1 (.cells #[.int .i64 ep, .slice a9 n9 c9] 25)
      obtain ⟨y2, hy2⟩ : ∃ y2, y1.alloc (.cells #[.int .i64 ep, .slice a9 n9 c9] 25) = y2 := ⟨_, rfl⟩
      obtain ⟨b9, hb9⟩ : ∃ b, y1.heap.size = b := ⟨_, rfl⟩
      rw [hy2, hb9] at M9
      rw [hy2] at hf9
      have x0 := M9.c0
      have x1 := M9.c1
      have HR9 := hide (rightC y2 ep a9 n9 c9 l9 M9.2)
      have G1 := hide ((HG.out.trans hf1 (fun _ _ h => h)).trans hf9 (fun _ _ h => h))
      have HY2 := hide hy2
      have HB9 := hide hb9
      clear hd9 M9 hf1 hf9 hy2 hb9
      rw [hp9] at HR9
      have HQ9 := hide hq9
      clear hp9 hq9
      go_upto_region 12 with fail
      rw [HY2.out, HB9.out]
      rcases HQ9.out with ⟨rfl, rfl⟩ | ⟨rfl, rfl⟩
      all_goals
        go_wp2_with fail
        refine HR9.out.mono ?_
        rintro e y3 ⟨rfl, hf3⟩
        have G3 := hide (G1.out.trans hf3 (fun _ _ h => h))
        clear hf3
        go_wp2_with fail
        go_roundw
        case rel => exact ⟨2, by first | rfl | go_num, by omega, G3.out⟩
        case measure => simp [intOf]
    · go_wp2_with fail
      refine (known_any _).mono ?_
      rintro e w10 ⟨rfl, hf10⟩
      go_wp2_with fail
      go_ret
      exact ⟨rfl, ((HF3.out.trans HG.out (fun _ _ h => h.elim)).trans hf10 (fun j _ hj => hj.elim)).toBelow (Nat.le_refl _) (fun j hj h => h)⟩
end Go.Proofs.Ytkaibekeokkpnaa.RangesLoads
