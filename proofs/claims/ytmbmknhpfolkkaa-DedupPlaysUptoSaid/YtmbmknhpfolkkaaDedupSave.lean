/- Save of dedup. -/
import Derived.Test.YtmbmknhpfolkkaaDedup3
import Derived.Test.YtmbmknhpfolkkaaWire
import Derived.Test.YtmbmknhpfolkkaaCells2
namespace Go.Proofs.Ytmbmknhpfolkkaa
open Go.RowKit Go.Maps Go.Cv Go.Shelf
set_option linter.unusedVariables false

theorem wrote_fr {w w' : World} {b : Nat} {v : Value} {xs ys : List UInt8} (h : Wt w b v xs) (g : Wrote w w' b v ys) : ∃ v', Wt w' b v' ys ∧ Fr (fun j => b ≤ j) w w' := by
  obtain ⟨v', h1, _, h3⟩ := g
  exact ⟨v', h1, h3.mono (fun k _ hk => by
    rcases hk with rfl | hk
    · exact Nat.le_refl _
    · have := (h.own.lt k hk).1; omega)⟩
theorem Wt.fr {w w' : World} {b : Nat} {v : Value} {xs : List UInt8} (h : Wt w b v xs) (g : Fr (fun _ => False) w w') : Wt w' b v xs :=
  ⟨(g.block _ (lt_of_block h.blk) id).trans h.blk, ownsRow_fr h.own g (fun _ _ => id)⟩

theorem wrote_apart {w w' : World} {b : Nat} {v : Value} {xs ys : List UInt8} (h : Wt w b v xs) (g : Wrote w w' b v ys) {x : Nat} (hx : x < w.heap.size) (h1 : x ≠ b) (h2 : v.ownBlock ≠ some x) :
    ∃ v', Wt w' b v' ys ∧ w'.heap[x]? = w.heap[x]? ∧ v'.ownBlock ≠ some x ∧ Fr (fun j => b ≤ j) w w' := by
  obtain ⟨v', g1, g2, g3⟩ := id g
  refine ⟨v', g1, g3.block x hx (fun hk => hk.elim h1 h2), fun e => ?_, ?_⟩
  · rcases g2 with g2 | g2
    · exact h2 (g2 ▸ e)
    · have := g2 x e; omega
  · exact g3.mono (fun k _ hk => by
      rcases hk with rfl | hk
      · exact Nat.le_refl _
      · have := (h.own.lt k hk).1; omega)

/-- A client's bytes. -/
def entry (x : L3) : List UInt8 := beN (u64 x.1.size) 4 ++ x.1.data.toList ++ (beN (u64 x.2.1) 8 ++ (beN (u64 x.2.2.size) 4 ++ x.2.2.data.toList))
def svk (most : Int) (n : Nat) (l : List L3) : List UInt8 := beN (u64 most) 4 ++ beN (u64 n) 4 ++ l.flatMap entry
def sv (most : Int) (l : List L3) : List UInt8 := svk most l.length l
theorem svk_snoc (most : Int) (n : Nat) (l : List L3) (x : L3) : svk most n (l ++ [x]) = svk most n l ++ entry x := by simp [svk]
theorem svk_take (most : Int) (n : Nat) (l : List L3) (k : Nat) (x : L3) (h : l[k]? = some x) : svk most n (l.take (k + 1)) = svk most n (l.take k) ++ entry x := by
  rw [List.take_add_one, h]; exact svk_snoc _ _ _ _
theorem svk_le (most : Int) (n : Nat) (l : List L3) (k : Nat) : (svk most n (l.take k)).length ≤ (svk most n l).length := by
  have e : svk most n l = svk most n (l.take k) ++ (l.drop k).flatMap entry := by
    unfold svk
    rw [List.append_assoc (beN (u64 most) 4 ++ beN (u64 n) 4), ← List.flatMap_append, List.take_append_drop]
  rw [e, List.length_append]; omega

set_option maxRecDepth 100000 in
set_option maxHeartbeats 1600000 in
theorem save_any (w : World) (tb : Nat) (v : Value) (most : Int) (l : List L3) (h : Tb w tb v most l) (hl : l.length ≤ 1000000) (hlen : (sv most l).length ≤ 140737488355000) :
    Calls Try.prog 15 #[.pointer (some ⟨tb, 0, none⟩)] w fun e w' => ∃ v', e = .returned v' ∧ w'.ownsRow w.heap.size 5 1 v' (sv most l).length (bc (sv most l)) ∧ Fr (fun _ => False) w w' := by
  obtain ⟨n, hn⟩ : ∃ n, l.length = n := ⟨_, rfl⟩
  have hown := Reads.of_own h.own
  have hblk := h.blk
  unfold sv at hlen ⊢
  rw [hn] at hown hl hlen ⊢
  obtain ⟨a, cp, rfl⟩ := own_shape h.own
  rw [hn] at hblk
  have hbt := lt_of_block hblk
  have hcl : ∀ wx, Fr (fun j => w.heap.size ≤ j) w wx → wx.cell? ⟨tb, 0, none⟩ = some (.int .i64 most) ∧ wx.cell? ⟨tb, 1, none⟩ = some (.slice a n cp) := fun wx hf => by
    have := (hf.block tb hbt (by omega)).trans hblk
    exact ⟨by rw [cell_of_block this]; rfl, by rw [cell_of_block this]; rfl⟩
  have hle : ∀ k, (svk most n (l.take k)).length ≤ 140737488355000 := fun k => Nat.le_trans (svk_le most n l k) hlen
  have HLE := hide hle
  have HCL := hide hcl
  have HR := hide hown
  have HN := hide hn
  clear hown h hn hblk hcl hle hlen
  go_enter Try.func15, Try.ntmps15
  go_wp2_with fail
  refine (newWriter_any w).mono ?_
  rintro e w1 ⟨rfl, h1, hf1⟩
  have hG1 : Fr (fun j => w.heap.size ≤ j) w w1 := hf1.mono (fun _ _ h => h.elim)
  obtain ⟨e1, e2⟩ := HCL.out w1 hG1
  have H1 := hide h1
  have G1 := hide hG1
  clear h1 hf1 hG1
  go_wp2_with fail
  refine (four_any w1 w.heap.size _ [] H1.out most (by simp)).mono ?_
  rintro e w2 ⟨rfl, h2⟩
  obtain ⟨v2, h2, hf2⟩ := wrote_fr H1.out h2
  have hG2 := G1.out.trans hf2 (fun _ _ h => h)
  obtain ⟨e3, e4⟩ := HCL.out w2 hG2
  have H2 := hide h2
  have G2 := hide hG2
  clear h2 hf2 hG2 e1 e2
  go_wp2_with fail
  refine (four_any w2 w.heap.size v2 _ H2.out n (by simp [beN_length])).mono ?_
  rintro e w3 ⟨rfl, h3⟩
  obtain ⟨v3, h3, hf3⟩ := wrote_fr H2.out h3
  have hG3 := G2.out.trans hf3 (fun _ _ h => h)
  obtain ⟨e1, e2⟩ := HCL.out w3 hG3
  have H3 := hide h3
  have G3 := hide hG3
  clear h3 hf3 hG3 e3 e4
  go_wp2_with fail
  go_loopw [25] (fun i wr => ∃ (k : Nat) (wv : Value), i = .int .i64 k ∧ k ≤ n ∧ Wt wr w.heap.size wv (svk most n (l.take k)) ∧ Fr (fun j => w.heap.size ≤ j) w wr)
    (fun i _ => n - (intOf i).toNat)
  case atStart => exact ⟨0, v3, rfl, Nat.zero_le _, by simpa [svk] using H3.out, G3.out⟩
  case round =>
    obtain ⟨k, wv, rfl, hk, hw, hf⟩ := hrel
    have HW := hide hw
    have HF := hide hf
    clear hw hf
    by_cases hlt : k < n
    · obtain ⟨x, hx⟩ : ∃ x, l[k]? = some x := ⟨_, List.getElem?_eq_getElem (by have := HN.out; omega)⟩
      obtain ⟨b0, o0, rfl, hlt0, hcells⟩ := row_cells lc_len (by have := HR.out; rw [HN.out] at this; exact this) hx (by decide)
      obtain ⟨c0, i1, r0⟩ := x
      have f0 := hcells 0 (.string c0) rfl wr (HF.out.block _ hlt0 (by omega))
      rw [Nat.add_zero] at f0
      have f1 := hcells 1 (.int .i64 i1) rfl wr (HF.out.block _ hlt0 (by omega))
      have f2 := hcells 2 (.string r0) rfl wr (HF.out.block _ hlt0 (by omega))
      have ik1 : (k : Int) < (n : Int) := by omega
      have hsn := svk_take most n l k (c0, i1, r0) hx
      have hln := HLE.out (k + 1)
      rw [hsn] at hln
      have hle0 : (entry (c0, i1, r0)).length = 4 + c0.size + (8 + (4 + r0.size)) := by simp [entry, beN_length]; omega
      rw [List.length_append, hle0] at hln
      have HSN := hide hsn
      have HLN := hide hln
      obtain ⟨xb, hxb⟩ : ∃ xb, wr.heap.size = xb := ⟨_, rfl⟩
      obtain ⟨wa, hwa⟩ : ∃ wa, wr.alloc (.cells #[.string c0, .int .i64 i1, .string r0] 53) = wa := ⟨_, rfl⟩
      have hba : wa.heap[xb]? = some (.cells #[.string c0, .int .i64 i1, .string r0] 53 (0, 0)) := by rw [← hwa, ← hxb]; exact block_alloc _ _
      have hsa : xb < wa.heap.size := lt_of_block hba
      have hfa : Fr (fun j => w.heap.size ≤ j) wr wa := by rw [← hwa]; exact Fr.alloc _ _ _
      have hta : Wt wa w.heap.size wv (svk most n (l.take k)) := by rw [← hwa]; exact HW.out.fr (Fr.alloc _ _ _)
      have hbb : w.heap.size < xb := by rw [← hxb]; exact lt_of_block HW.out.blk
      have hva : wv.ownBlock ≠ some xb := fun e => by have := (HW.out.own.lt xb e).2; omega
      have g0 : wa.cell? ⟨xb, 0, none⟩ = some (.string c0) := by rw [cell_of_block hba]; rfl
      have HFA := hide (HF.out.trans hfa (fun _ _ h => h))
      have HTA := hide hta
      have HBA := hide hba
      have HVA := hide hva
      have hb1 : w.heap.size ≠ xb := by omega
      have HB1 := hide (show xb ≠ w.heap.size by omega)
      clear hcells hx hsn hln hle0 hba hfa hta hva
      go_wp2_with fail
      refine (text_any wa w.heap.size wv _ HTA.out c0 (by have := HLN.out; omega)).mono ?_
      rintro e y1 ⟨rfl, j1⟩
      obtain ⟨x1, j1, j2, j3, j4⟩ := wrote_apart HTA.out j1 hsa HB1.out HVA.out
      have hy1 := j2.trans HBA.out
      have g1 : y1.cell? ⟨xb, 1, none⟩ = some (.int .i64 i1) := by rw [cell_of_block hy1]; rfl
      have hs1 := lt_of_block hy1
      have J1 := hide j1
      have Y1 := hide hy1
      have V1 := hide j3
      have F1 := hide (HFA.out.trans j4 (fun _ _ h => h))
      clear j1 j2 j3 j4 hy1 g0 hsa
      go_wp2_with fail
      refine (eight_any y1 w.heap.size x1 _ J1.out i1 (by have := HLN.out; simp [beN_length]; omega)).mono ?_
      rintro e y2 ⟨rfl, j1⟩
      obtain ⟨x2, j1, j2, j3, j4⟩ := wrote_apart J1.out j1 hs1 HB1.out V1.out
      have hy2 := j2.trans Y1.out
      have g2 : y2.cell? ⟨xb, 2, none⟩ = some (.string r0) := by rw [cell_of_block hy2]; rfl
      have hs2 := lt_of_block hy2
      have J2 := hide j1
      have Y2 := hide hy2
      have V2 := hide j3
      have F2 := hide (F1.out.trans j4 (fun _ _ h => h))
      clear j1 j2 j3 j4 hy2 g1 hs1
      go_wp2_with fail
      refine (text_any y2 w.heap.size x2 _ J2.out r0 (by have := HLN.out; simp [beN_length]; omega)).mono ?_
      rintro e y3 ⟨rfl, j1⟩
      obtain ⟨x3, j1, j2, j3, j4⟩ := wrote_apart J2.out j1 hs2 HB1.out V2.out
      have J3 := hide j1
      have F3 := hide (F2.out.trans j4 (fun _ _ h => h))
      clear j1 j2 j3 j4 g2 hs2
      go_wp2_with fail
      go_roundw
      case rel =>
        refine ⟨k + 1, x3, by go_num, by omega, ?_, F3.out⟩
        have := J3.out
        rw [HSN.out]
        simpa [entry] using this
      case measure => simp [intOf]; omega
    · have ik1 : ¬ (k : Int) < (n : Int) := by omega
      have hkn : l.take k = l := List.take_of_length_le (by have := HN.out; omega)
      have hw := HW.out
      rw [hkn] at hw
      have HW2 := hide hw
      have hln := HLE.out k
      rw [hkn] at hln
      clear hkn hw
      go_wp2_with fail
      refine (done_any wr w.heap.size wv _ HW2.out (by omega)).mono ?_
      rintro e y1 ⟨v', rfl, ho, hf⟩
      have HO := hide ho
      obtain ⟨a9, c9, rfl⟩ := own_shape ho
      have hs := HF.out.size
      clear ho
      go_wp2_with fail
      go_ret
      exact ⟨_, rfl, own_base HO.out hs, (HF.out.trans hf (fun _ _ h => h.elim)).fresh (fun _ h => h)⟩
end Go.Proofs.Ytmbmknhpfolkkaa
