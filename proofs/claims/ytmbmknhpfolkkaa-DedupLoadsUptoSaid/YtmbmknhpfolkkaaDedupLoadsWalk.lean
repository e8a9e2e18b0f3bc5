/- DedupLoads's walk. -/
import Derived.Test.YtmbmknhpfolkkaaDedupNumbersWalk
import Derived.Test.YtmbmknhpfolkkaaDedupKeeps
import Derived.Test.YtmbmknhpfolkkaaBytesOf
import Derived.Deep.CutBlock
import Derived.Test.YtmbmknhpfolkkaaCells2
namespace Go.Proofs.Ytmbmknhpfolkkaa.DedupLoads
open Go.RowKit Go.Maps Go.Cv Go.Shelf
set_option linter.unusedVariables false

theorem loadT_len {bs : List UInt8} {m : Int} {l : List L3} (h : loadT bs = some (m, l)) : l.length ≤ 64 := by
  unfold loadT at h
  simp only at h
  split at h
  · cases h
  · rename_i hg
    split at h
    · cases h
    · simp only [Option.some.injEq, Prod.mk.injEq] at h
      obtain ⟨_, rfl⟩ := h
      rw [ldK_len]
      have := count_most bs ((⟨0, 0, 0⟩ : RS).get bs 4).2 (((⟨0, 0, 0⟩ : RS).get bs 4).1 : Int)
      simp; omega

theorem sv_le {most : Int} {l : List L3} {M : Nat} (h : ∀ x ∈ l, x.1.size + x.2.2.size ≤ M) : (sv most l).length ≤ 8 + l.length * (16 + M) := by
  have e : ∀ l : List L3, (∀ x ∈ l, x.1.size + x.2.2.size ≤ M) → (l.flatMap entry).length ≤ l.length * (16 + M) := by
    intro l
    induction l with
    | nil => intro _; simp
    | cons x t ih =>
      intro h
      have h1 := ih (fun y hy => h y (List.mem_cons_of_mem _ hy))
      have h2 := h x List.mem_cons_self
      have h3 : (entry x).length = 4 + x.1.size + (8 + (4 + x.2.2.size)) := by simp [entry, beN_length]; omega
      rw [List.flatMap_cons, List.length_append, h3, List.length_cons, Nat.succ_mul]
      omega
  have := e l h
  unfold sv svk
  simp only [List.length_append, beN_length]; omega

theorem doneT_mem {most : Int} {l : List L3} {c : ByteArray} {i : Int} {r : ByteArray} {x : L3} (h : x ∈ doneT most l c i r) : x ∈ l ∨ x = (c, i, r) := by
  have h1 : x ∈ l.eraseP (is c) ++ [(c, i, r)] := by
    unfold doneT lose at h; split at h
    · exact List.mem_of_mem_eraseIdx h
    · exact h
  rcases List.mem_append.1 h1 with h1 | h1
  · exact .inl (List.mem_of_mem_eraseP h1)
  · simp at h1; exact .inr h1

/-- One Load of whatever bytes: what the statement asks. -/
theorem loadAny (w : World) (v : Value) (bs : List UInt8) (h : Reads w v bs.length 1 (bc bs)) (hlen : bs.length ≤ 140737488355328) :
    Calls Try.prog 14 #[v] w fun e w' => (e = .returned (.tuple #[.pointer none, .int .i64 12]) ∨ ∃ tb m l, e = .returned (.tuple #[.pointer (some ⟨tb, 0, none⟩), .int .i64 0]) ∧ l.length ≤ 64 ∧ Tbl w' w.heap.size tb m l) ∧ Fr (fun _ => False) w w' := by
  cases hL : loadT bs with
  | none =>
    refine (loadNo w v bs h hlen hL).mono ?_
    rintro e w' ⟨rfl, hf⟩
    exact ⟨.inl rfl, hf⟩
  | some p =>
    obtain ⟨m, l⟩ := p
    refine (loadYes w v bs h hlen m l hL).mono ?_
    rintro e w' ⟨tb, rfl, h1, h2, hf⟩
    exact ⟨.inr ⟨tb, m, l, rfl, loadT_len hL, h2⟩, hf⟩

set_option maxRecDepth 100000 in
set_option maxHeartbeats 3200000 in
theorem walk (w : World) (v0 : Value) (zs : List Int) (h0 : Reads w v0 zs.length 1 (zs.flatMap fun z => [.int .u8 z])) (g0 : ∀ x ∈ zs, (Lit.int .u8 x).wf = true) (c0 : zs.length ≤ 1048576)
    (v1 : Value) (cs : List ByteArray) (h1 : Reads w v1 cs.length 1 (cs.flatMap fun s => [.string s])) (g1 : ∀ x ∈ cs, x.size ≤ 1048576) (c1 : cs.length ≤ 1048576) (a2 : Int) (wf2 : (Lit.int .i64 a2).wf = true) (a3 : Int) (wf3 : (Lit.int .u8 a3).wf = true) :
    Calls Try.prog 7 #[v0, v1, .int .i64 a2, .int .u8 a3] w fun e w' => e = .returned (.bool true) ∧ Below w.heap.size w w' := by
  obtain ⟨bs, hbl, hbs⟩ := bytes_of zs g0
  rw [hbs, ← hbl] at h0
  rw [← hbl] at c0
  obtain ⟨b3, rfl⟩ : ∃ b : UInt8, a3 = (b.toNat : Int) := by
    simp [Lit.wf, IntKind.min, IntKind.max, IntKind.signed, IntKind.bits] at wf3
    exact ⟨UInt8.ofNat a3.toNat, by rw [UInt8.toNat_ofNat']; omega⟩
  obtain ⟨n1, hn1⟩ : ∃ n, cs.length = n := ⟨_, rfl⟩
  rw [hn1] at h1 c1
  have HR0 := hide h0
  obtain ⟨nb, hnb⟩ : ∃ n, bs.length = n := ⟨_, rfl⟩
  rw [hnb] at h0 c0
  obtain ⟨_, a0, k0, rfl, _, _, _⟩ := h0
  obtain ⟨_, a1, k1, rfl, _, _, hc1⟩ := h1
  obtain ⟨hx1, hx2⟩ := wf_bounds wf2
  have HC1 := hide hc1
  have HN1 := hide hn1
  have HG1 := hide g1
  have HNB := hide hnb
  clear hbl hbs hc1 hn1 g1 g0 wf2 wf3 hnb
  go_enter Try.func7, Try.ntmps7
  go_wp2_with fail
  refine (new_ok w 4 (by omega) (by omega)).mono ?_
  rintro e w1 ⟨rfl, ht1, hf1⟩
  have HT1 := hide (tbl_new (B := w.heap.size) ht1)
  have HF1 := hide hf1
  clear ht1 hf1
  go_wp2_with fail
  go_loopw [11] (fun i wr => ∃ (k : Nat) (l : List L3), i = .int .i64 k ∧ k ≤ 10 ∧ Keeps 4 k l ∧ Hid (∀ x ∈ l, x.1.size + x.2.2.size ≤ 1048577) ∧ Tbl wr w.heap.size w.heap.size 4 l ∧ Fr (fun x => w.heap.size ≤ x) w wr)
    (fun i _ => 10 - (intOf i).toNat)
  case atStart => exact ⟨0, [], rfl, by omega, ⟨by simp, by simp, by simp⟩, (fun x hx => by cases hx), HT1.out, HF1.out.mono (fun _ _ h => h.elim)⟩
  case round =>
    obtain ⟨k, l, rfl, hk, hkp, HS, ht, hf⟩ := hrel
    have HK := hide hkp
    have HT := hide ht
    have HF := hide hf
    clear hkp ht hf
    by_cases hgo : k < n1 ∧ k < 10
    · obtain ⟨hg1, hg2⟩ := hgo
      obtain ⟨c, hc⟩ : ∃ c, cs[k]? = some c := ⟨_, List.getElem?_eq_getElem (by have := HN1.out; omega)⟩
      obtain ⟨b0, o0, rfl, e1⟩ := HC1.out k (.string c) (by rw [flat_one, List.getElem?_map, hc]; rfl)
      have hcs := HG1.out c (List.mem_of_getElem? hc)
      have hbl := World.block_lt_of_cell? w _ e1
      have e1' : wr.cell? ⟨b0, o0 + k, none⟩ = some (.string c) := by
        rw [World.cell?_of_block (w := w) (HF.out.block b0 hbl (by simp at hbl ⊢; omega))]; exact e1
      have ik1 : (k : Int) < (n1 : Int) := by omega
      have hs := HF.out.size
      have hlen : l.length ≤ 1000000 := by have := HK.out.len; omega
      clear hc e1
      go_wp2_with fail
      refine (doneTbl wr _ _ _ l HT.out hlen hs (Nat.le_refl _) c k ⟨#[114]⟩ (HK.out.fresh c)).mono ?_
      rintro e w2 ⟨rfl, ht2, hf2⟩
      have HT2 := hide ht2
      have HF2 := hide (HF.out.trans hf2 (fun _ _ h => h))
      have HK2 := hide (HK.out.next (by omega) c ⟨#[114]⟩)
      clear ht2 hf2
      go_wp2_with fail
      go_roundw
      case rel =>
        refine ⟨k + 1, _, by go_num, by omega, HK2.out, fun x hx => ?_, HT2.out, HF2.out⟩
        rcases doneT_mem hx with h | rfl
        · exact HS.out x h
        · show c.size + 1 ≤ _; omega
      case measure => simp [intOf]; omega
    · have hex : n1 ≤ k ∨ (k < n1 ∧ 10 ≤ k) := by omega
      clear hgo
      have hlen : l.length ≤ 4 := by have := HK.out.len; omega
      have hsl := sv_le (most := 4) HS.out
      have hsl2 : (sv 4 l).length ≤ 5000000 := by
        have := Nat.mul_le_mul_right (16 + 1048577) hlen; omega
      have hsl3 : 0 < (sv 4 l).length := by unfold sv svk; simp [beN_length]; omega
      have hs := HF.out.size
      rcases hex with hx | ⟨hx, hx2⟩
      all_goals
        go_wp2_with fail
        refine (saveTbl wr _ _ 4 l HT.out (by omega) (by omega)).mono ?_
        rintro e w2 ⟨v2, rfl, ho2, _, hf2⟩
        obtain ⟨sb, hsb⟩ : ∃ sb, sv 4 l = sb := ⟨_, rfl⟩
        rw [hsb] at ho2 hsl2 hsl3
        obtain ⟨sn, hsn⟩ : ∃ n, sb.length = n := ⟨_, rfl⟩
        rw [hsn] at ho2 hsl2 hsl3
        obtain ⟨ax, cx, rfl⟩ := own_shape ho2
        have HO2 := hide ho2
        have HSN := hide hsn
        have HF2 := hide (HF.out.trans hf2 (fun _ _ h => h.elim))
        have hs2 : w.heap.size ≤ wr.heap.size := HF.out.size
        clear ho2 hsn hsb hf2
        by_cases hneg : a2 < 0
        case' pos =>
          have hm0 : 0 ≤ -(a2 + 1) := by omega
          have hm1 : -(a2 + 1) ≤ 9223372036854775807 := by omega
          go_upto_region 12 with fail
          generalize -(a2 + 1) = m at *
        case' neg =>
          have hm0 : 0 ≤ a2 := by omega
          have hm1 : a2 ≤ 9223372036854775807 := by omega
          go_upto_region 12 with fail
          generalize a2 = m at *
        all_goals
          obtain ⟨K, hK⟩ : ∃ K : Nat, (K : Int) = m % (sn : Int) := ⟨(m % (sn : Int)).toNat, by have := Int.emod_nonneg m (show (sn : Int) ≠ 0 by omega); omega⟩
          have hKn : K < sn := by have := Int.emod_lt_of_pos m (show (0 : Int) < (sn : Int) by omega); omega
          have hKt : Int.tmod m (sn : Int) = (K : Int) := by rw [Int.tmod_eq_emod_of_nonneg hm0, hK]
          have hKe : m % (sn : Int) = (K : Int) := hK.symm
          obtain ⟨ub, hub⟩ : ∃ u, sb[K]? = some u := ⟨_, List.getElem?_eq_getElem (by have := HSN.out; omega)⟩
          obtain ⟨u, hu⟩ := xor_u8 ub b3
          obtain ⟨g, rfl⟩ : ∃ g, ax = some ⟨g, 0, none⟩ := by
            rcases HO2.out.2 with ⟨e, e0⟩ | ⟨g, cap', cs, e, _⟩
            · omega
            · cases e; exact ⟨g, rfl⟩
          have hcell : w2.cell? ⟨g, K, none⟩ = some (.int .u8 ub.toNat) := by
            have := HO2.out.cells (g := g) rfl K (.int .u8 ub.toNat) (bc_at sb K ub hub)
            rw [addr_add] at this; simpa using this
          have hfz : w2.frozen? ⟨g, K, none⟩ = false := by
            rcases HO2.out.2 with ⟨e, e0⟩ | ⟨g', cap', cs, e, _, hg, _⟩
            · cases e
            · cases e; exact free_of_block hg
          have ik0 : (K : Int) < (sn : Int) := by omega
          have ik1 : (0 : Int) ≤ (K : Int) := by omega
          have hsn0 : ¬ sn = 0 := by omega
          have HUB := hide hub
          clear hub hK
          go_region_law (fail)
          obtain ⟨W, hW⟩ : ∃ W, (w2.setCell ⟨g, K, none⟩ (.int .u8 u.toNat)).drew = W := ⟨_, rfl⟩
          rw [hW]
          have hF : Fr (fun x => w.heap.size ≤ x) w W := by
            rw [← hW]
            exact (HF2.out.trans (Fr.setCell (S := fun x => x = g) _ _ _ rfl) (fun x _ hx => by have := (HO2.out.lt g rfl).1; omega)).drew
          have hX : Reads W (.slice (some ⟨g, 0, none⟩) sn cx) sn 1 (bc (sb.set K u)) := by
            have h1 := Reads.of_own (own_set HO2.out K (.int .u8 u.toNat))
            rw [show (bc sb).set K (.int .u8 u.toNat) = bc (sb.set K u) by unfold bc; rw [List.map_set]] at h1
            exact h1.heap (by rw [← hW]; rfl)
          have hLX : (sb.set K u).length = sn := by rw [List.length_set]; exact HSN.out
          generalize sb.set K u = sx at *
          have hY : Reads W (.slice a0 nb k0) nb 1 (bc bs) := by
            have := reads_old HR0.out hF (fun k hk h => by omega)
            rwa [HNB.out] at this
          obtain ⟨bb, hbb⟩ : ∃ b, W.heap.size = b := ⟨_, rfl⟩
          obtain ⟨W3, hW3⟩ : ∃ W3, W.alloc (.cells #[.slice a0 nb k0, .slice (some ⟨g, 0, none⟩) sn cx] 37) = W3 := ⟨_, rfl⟩
          have hfa : Fr (fun _ => False) W W3 := by rw [← hW3]; exact Fr.alloc _ _ _
          have hB3 : W3.heap[bb]? = some (.cells #[.slice a0 nb k0, .slice (some ⟨g, 0, none⟩) sn cx] 37 (0, 0)) := by rw [← hW3, ← hbb]; exact block_alloc _ _
          have HF3 := hide (hF.trans hfa (fun _ _ h => h.elim))
          have HX3 := hide (reads_old hX hfa (fun _ _ => id))
          have HY3 := hide (reads_old hY hfa (fun _ _ => id))
          have HB3 := hide hB3
          have HLX := hide hLX
          have HBB := hide hbb
          have HW3 := hide hW3
          clear hW hF hX hLX hY hfa hB3 hbb hW3 hcell hfz hu
          have hsx : (2 : Int) = (2 : Int) := rfl
          clear hsx
          go_wp2_with fail
          rw [HW3.out, HBB.out]
          go_loopw [73] (fun i wr => ∃ q : Nat, i = .int .i64 q ∧ q ≤ 2 ∧ Fr (fun _ => False) W3 wr) (fun i _ => 2 - (intOf i).toNat)
          case atStart => exact ⟨0, rfl, by omega, Fr.refl _ _⟩
          case round =>
            obtain ⟨q, rfl, hq, hf⟩ := hrel
            have HG := hide hf
            have hb4 := (hf.block bb (lt_of_block HB3.out) id).trans HB3.out
            have e0 : wr.cell? ⟨bb, 0, none⟩ = some (.slice a0 nb k0) := by rw [cell_of_block hb4]; rfl
            have e1 : wr.cell? ⟨bb, 1, none⟩ = some (.slice (some ⟨g, 0, none⟩) sn cx) := by rw [cell_of_block hb4]; rfl
            have l0 := loadAny wr (.slice a0 nb k0) bs (by rw [HNB.out]; exact reads_old HY3.out hf (fun _ _ => id)) (by have := HNB.out; omega)
            have l1 := loadAny wr (.slice (some ⟨g, 0, none⟩) sn cx) sx (by rw [HLX.out]; exact reads_old HX3.out hf (fun _ _ => id)) (by have := HLX.out; omega)
            have L0 := hide l0
            have L1 := hide l1
            clear hf hb4 l0 l1
            have hq3 : q = 0 ∨ q = 1 ∨ q = 2 := by omega
            rcases hq3 with rfl | rfl | rfl
            · go_wp2_with fail
              refine L0.out.mono ?_
              rintro e y1 ⟨hE, hf1⟩
              have G1 := hide (HG.out.trans hf1 (fun _ _ h => h))
              clear hf1
              rcases hE with rfl | ⟨tb, m2, l2, rfl, hl2, ht2⟩
              · go_wp2_with fail
                go_roundw
                case rel => exact ⟨1, by first | rfl | go_num, by omega, G1.out⟩
                case measure => simp [intOf]
              · have hl3 : ¬ 64 < (l2.length : Int) := by omega
                have HT2 := hide ht2
                clear ht2
                go_wp2_with fail
                refine (clientsTbl _ _ _ _ l2 HT2.out (by omega)).mono ?_
                rintro e y2 ⟨v2, rfl, ho2, _, hf2⟩
                obtain ⟨a9, c9, rfl⟩ := own_shape ho2
                have G2 := hide (G1.out.trans hf2 (fun _ _ h => h))
                clear ho2 hf2
                go_wp2_with fail
                go_roundw
                case rel => exact ⟨1, by first | rfl | go_num, by omega, G2.out⟩
                case measure => simp [intOf]
            · go_wp2_with fail
              refine L1.out.mono ?_
              rintro e y1 ⟨hE, hf1⟩
              have G1 := hide (HG.out.trans hf1 (fun _ _ h => h))
              clear hf1
              rcases hE with rfl | ⟨tb, m2, l2, rfl, hl2, ht2⟩
              · go_wp2_with fail
                go_roundw
                case rel => exact ⟨2, by first | rfl | go_num, by omega, G1.out⟩
                case measure => simp [intOf]
              · have hl3 : ¬ 64 < (l2.length : Int) := by omega
                have HT2 := hide ht2
                clear ht2
                go_wp2_with fail
                refine (clientsTbl _ _ _ _ l2 HT2.out (by omega)).mono ?_
                rintro e y2 ⟨v2, rfl, ho2, _, hf2⟩
                obtain ⟨a9, c9, rfl⟩ := own_shape ho2
                have G2 := hide (G1.out.trans hf2 (fun _ _ h => h))
                clear ho2 hf2
                go_wp2_with fail
                go_roundw
                case rel => exact ⟨2, by first | rfl | go_num, by omega, G2.out⟩
                case measure => simp [intOf]
            · go_wp2_with fail
              refine (known_any _).mono ?_
              rintro e w10 ⟨rfl, hf10⟩
              go_wp2_with fail
              go_ret
              exact ⟨rfl, ((HF3.out.trans HG.out (fun _ _ h => h.elim)).trans hf10 (fun j _ hj => hj.elim)).toBelow (Nat.le_refl _) (fun j hj h => by omega)⟩
end Go.Proofs.Ytmbmknhpfolkkaa.DedupLoads
