/- Save of ballot. -/
import Derived.Test.YthekgecaeblbbaaBallotForget
import Derived.Test.YthekgecaeblbbaaWire
import Derived.Test.YthekgecaeblbbaaRows2
namespace Go.Proofs.Ythekgecaeblbbaa
open Go.RowKit Go.Maps Go.Cv Go.Shelf
set_option linter.unusedVariables false

theorem wrote_fr {w w' : World} {b : Nat} {v : Value} {xs ys : List UInt8} (h : Wt w b v xs) (g : Wrote w w' b v ys) : ∃ v', Wt w' b v' ys ∧ Fr (fun j => b ≤ j) w w' := by
  obtain ⟨v', h1, _, h3⟩ := g
  exact ⟨v', h1, h3.mono (fun k _ hk => by
    rcases hk with rfl | hk
    · exact Nat.le_refl _
    · have := (h.own.lt k hk).1; omega)⟩
theorem Wt.fr {w w' : World} {b : Nat} {v : Value} {xs : List UInt8} (h : Wt w b v xs) (g : Fr (fun _ => False) w w') : Wt w' b v xs :=
  ⟨(g.block _ (lt_of_block h.blk) id).trans h.blk, ownsRow_fr h.own g (fun _ _ => id)⟩

theorem wrote_apart {w w' : World} {b : Nat} {v : Value} {xs ys : List UInt8} (h : Wt w b v xs) (g : Wrote w w' b v ys) {x : Nat} (hx : x < w.heap.size) (h1 : x ≠ b) (h2 : v.ownBlock ≠ some x) :
    ∃ v', Wt w' b v' ys ∧ w'.heap[x]? = w.heap[x]? ∧ v'.ownBlock ≠ some x ∧ Fr (fun j => b ≤ j) w w' := by
  obtain ⟨v', g1, g2, g3⟩ := id g
  refine ⟨v', g1, g3.block x hx (fun hk => hk.elim h1 h2), fun e => ?_, ?_⟩
  · rcases g2 with g2 | g2
    · exact h2 (g2 ▸ e)
    · have := g2 x e; omega
  · exact g3.mono (fun k _ hk => by
      rcases hk with rfl | hk
      · exact Nat.le_refl _
      · have := (h.own.lt k hk).1; omega)

/-- Written, and the blocks in X left alone. -/
theorem wrote_off {w w' : World} {b : Nat} {v : Value} {xs ys : List UInt8} {X : Nat → Prop} (h : Wt w b v xs) (g : Wrote w w' b v ys) (hX : ∀ k, X k → k < w.heap.size ∧ k ≠ b ∧ v.ownBlock ≠ some k) :
    ∃ v', Wt w' b v' ys ∧ (∀ k, X k → k < w'.heap.size ∧ k ≠ b ∧ v'.ownBlock ≠ some k) ∧ Fr (fun k => b ≤ k ∧ ¬ X k) w w' := by
  obtain ⟨v', g1, g2, g3⟩ := g
  refine ⟨v', g1, fun k hk => ?_, g3.mono (fun k _ hk => ⟨?_, fun hx => ?_⟩)⟩
  · obtain ⟨h1, h2, h3⟩ := hX k hk
    refine ⟨Nat.lt_of_lt_of_le h1 g3.size, h2, fun e => ?_⟩
    rcases g2 with g2 | g2
    · exact h3 (g2 ▸ e)
    · have := g2 k e; omega
  · rcases hk with rfl | hk
    · exact Nat.le_refl _
    · have := (h.own.lt k hk).1; omega
  · obtain ⟨_, h2, h3⟩ := hX k hx
    exact hk.elim h2 h3
/-- A vote's bytes. -/
def ballotB (b : Bt) : List UInt8 := beN (u64 b.1) 8 ++ beN (u64 b.2) 8
def entryV (x : Vt) : List UInt8 := beN (u64 x.1) 4 ++ (ballotB x.2.1 ++ (beN (u64 x.2.2.size) 4 ++ x.2.2.data.toList))
def svk (p : Bt) (n : Nat) (l : List Vt) : List UInt8 := ballotB p ++ beN (u64 n) 4 ++ l.flatMap entryV
def sv (p : Bt) (l : List Vt) : List UInt8 := svk p l.length l
theorem ballotB_len (b : Bt) : (ballotB b).length = 16 := by simp [ballotB, beN_length]
theorem entryV_len (x : Vt) : (entryV x).length = 24 + x.2.2.size := by simp [entryV, beN_length, ballotB_len]; omega
theorem svk_snoc (p : Bt) (n : Nat) (l : List Vt) (x : Vt) : svk p n (l ++ [x]) = svk p n l ++ entryV x := by simp [svk]
theorem svk_take (p : Bt) (n : Nat) (l : List Vt) (k : Nat) (x : Vt) (h : l[k]? = some x) : svk p n (l.take (k + 1)) = svk p n (l.take k) ++ entryV x := by
  rw [List.take_add_one, h]; exact svk_snoc _ _ _ _
theorem svk_le (p : Bt) (n : Nat) (l : List Vt) (k : Nat) : (svk p n (l.take k)).length ≤ (svk p n l).length := by
  have e : svk p n l = svk p n (l.take k) ++ (l.drop k).flatMap entryV := by
    unfold svk
    rw [List.append_assoc (ballotB p ++ beN (u64 n) 4), ← List.flatMap_append, List.take_append_drop]
  rw [e, List.length_append]; omega

theorem Wrote.after {a b c : World} {p : Nat} {v : Value} {ys : List UInt8} (g : Fr (fun _ => False) a b) (h : Wrote b c p v ys) : Wrote a c p v ys := by
  obtain ⟨v', h1, h2, h3⟩ := h
  exact ⟨v', h1, h2.imp id (fun h k hk => Nat.le_trans g.size (h k hk)), (g.mono (fun _ _ h => h.elim)).trans h3 (fun _ _ h => h)⟩

set_option maxRecDepth 100000 in
theorem putB_any (w : World) (b : Nat) (v : Value) (xs : List UInt8) (h : Wt w b v xs) (x : Bt) (hx : xs.length ≤ 140737488354900) :
    Calls Try.prog 32 #[.pointer (some ⟨b, 0, none⟩), .agg (bcells x)] w fun e w' => e = .returned (.tuple #[]) ∧ Wrote w w' b v (xs ++ ballotB x) := by
  obtain ⟨x1, x2⟩ := x
  obtain ⟨y, hy⟩ : ∃ y, w.alloc (.cells #[.int .i64 x1, .int .i64 x2] 23) = y := ⟨_, rfl⟩
  obtain ⟨qb, hqb⟩ : ∃ q, w.heap.size = q := ⟨_, rfl⟩
  have hfy : Fr (fun _ => False) w y := by rw [← hy]; exact Fr.alloc _ _ _
  have hby : y.heap[qb]? = some (.cells #[.int .i64 x1, .int .i64 x2] 23 (0, 0)) := by rw [← hy, ← hqb]; exact block_alloc _ _
  have hwy := h.fr hfy
  have q0 : y.cell? ⟨qb, 0, none⟩ = some (.int .i64 x1) := by rw [cell_of_block hby]; rfl
  have hbq : qb ≠ b := by have := lt_of_block h.blk; omega
  have hvq : v.ownBlock ≠ some qb := fun e => by have := (h.own.lt qb e).2; omega
  have he := eight_any y b v xs hwy x1 (by omega)
  have HE := hide he
  have HY := hide hy
  have HQB := hide hqb
  have HFY := hide hfy
  have HBY := hide hby
  have HWY := hide hwy
  clear he hy hqb hfy hwy h hby
  show Calls _ _ #[.pointer (some ⟨b, 0, none⟩), .agg #[.int .i64 x1, .int .i64 x2]] w _
  go_enter Try.func32, Try.ntmps32
  go_upto_region 1 with fail
  rw [HY.out, HQB.out]
  go_wp2_with fail
  refine HE.out.mono ?_
  rintro e y1 ⟨rfl, h1⟩
  obtain ⟨v1, g1, g2, g3, g4⟩ := wrote_apart HWY.out h1 (lt_of_block HBY.out) hbq hvq
  have q1 : y1.cell? ⟨qb, 1, none⟩ = some (.int .i64 x2) := by rw [cell_of_block (g2.trans HBY.out)]; rfl
  have hk : ∀ v', Wt y1 b v' (xs ++ beN (u64 x1) 8) → Calls Try.prog 47 #[.pointer (some ⟨b, 0, none⟩), .int .i64 x2] y1 fun e w' => e = .returned (.tuple #[]) ∧ Wrote y1 w' b v' (xs ++ beN (u64 x1) 8 ++ beN (u64 x2) 8) := fun v' hv => eight_any y1 b v' _ hv x2 (by simp [beN_length]; omega)
  have hk1 := hk v1 g1
  have HK := hide hk1
  have H1 := hide h1
  have G1 := hide g1
  clear hk hk1 h1 g1 g2 g3 g4 q0
  go_wp2_with fail
  refine HK.out.mono ?_
  rintro e y2 ⟨rfl, h2⟩
  go_wp2_with fail
  go_end0
  refine ⟨rfl, Wrote.after HFY.out ?_⟩
  have e : xs ++ ballotB (x1, x2) = xs ++ beN (u64 x1) 8 ++ beN (u64 x2) 8 := by simp [ballotB]
  rw [e]
  refine H1.out.trans (fun v' hv => ?_)
  have ev := hv.blk.symm.trans G1.out.blk
  simp only [Option.some.injEq, Obj.cells.injEq, and_true] at ev
  obtain rfl : v' = v1 := by simpa using ev
  exact h2

set_option maxRecDepth 100000 in
set_option maxHeartbeats 1600000 in
theorem save_any (w : World) (B D ab n0 : Nat) (p : Bt) (l : List Vt) (h : Acd w B D ab n0 p l) (hn0 : n0 ≤ 1000000) (hd : D ≤ w.heap.size) (hlen : (sv p l).length ≤ 140737488354900) :
    Calls Try.prog 19 #[.pointer (some ⟨ab, 0, none⟩)] w fun e w' => ∃ v', e = .returned v' ∧ w'.ownsRow w.heap.size 5 1 v' (sv p l).length (bc (sv p l)) ∧ Acd w' B D ab n0 p l ∧ Fr (fun _ => False) w w' := by
  obtain ⟨p1, p2⟩ := p
  obtain ⟨n, hn⟩ : ∃ n, l.length = n := ⟨_, rfl⟩
  have hn5 : n ≤ 512 := by rw [← hn]; exact h.acc.votes_le
  have habD : ab < w.heap.size := by obtain ⟨mb, h1, _⟩ := h; exact lt_of_block h1.blk
  have hcl : ∀ wx, Fr (fun j => w.heap.size ≤ j) w wx → wx.cell? ⟨ab, 0, none⟩ = some (.int .i64 p1) ∧ wx.cell? ⟨ab, 1, none⟩ = some (.int .i64 p2) := fun wx hf => by
    obtain ⟨mb, h1, _⟩ := h
    have := (hf.block ab (lt_of_block h1.blk) (by omega)).trans h1.blk
    exact ⟨by rw [cell_of_block this]; rfl, by rw [cell_of_block this]; rfl⟩
  have hle : ∀ k, (svk (p1, p2) n (l.take k)).length ≤ 140737488354900 := fun k => Nat.le_trans (svk_le (p1, p2) n l k) (by unfold sv at hlen; rwa [hn] at hlen)
  have hac : ∀ wx, Fr (fun j => w.heap.size ≤ j) w wx → Acd wx B D ab n0 (p1, p2) l := fun wx hf => h.fr hf (fun k hk _ hs => by omega)
  have HLE := hide hle
  have HCL := hide hcl
  have HAC := hide hac
  have HN := hide hn
  have HALL := hide (fromV_all h.slots)
  clear hn hcl hle hac h hlen
  unfold sv
  rw [HN.out]
  go_enter Try.func19, Try.ntmps19
  go_wp2_with fail
  refine (newWriter_any w).mono ?_
  rintro e w1 ⟨rfl, h1, hf1⟩
  have hG1 : Fr (fun j => w.heap.size ≤ j) w w1 := hf1.mono (fun _ _ h => h.elim)
  obtain ⟨e1, e2⟩ := HCL.out w1 hG1
  have H1 := hide h1
  have G1 := hide hG1
  clear h1 hf1 hG1
  have hput := putB_any w1 w.heap.size _ [] H1.out (p1, p2) (by simp)
  have HPUT := hide (show Calls Try.prog 32 #[.pointer (some ⟨w.heap.size, 0, none⟩), .agg #[.int .i64 p1, .int .i64 p2]] w1 _ from hput)
  clear hput
  go_wp2_with fail
  refine HPUT.out.mono ?_
  rintro e w2 ⟨rfl, h2⟩
  obtain ⟨v2, h2, hf2⟩ := wrote_fr H1.out h2
  have hG2 := G1.out.trans hf2 (fun _ _ h => h)
  have hvo := votesAcd w2 B D ab n0 (p1, p2) l (HAC.out w2 hG2) hn0 0
  rw [HALL.out] at hvo
  have HVO := hide hvo
  have H2 := hide h2
  have G2 := hide hG2
  clear h2 hf2 hG2 e1 e2 hvo
  go_wp2_with fail
  refine HVO.out.mono ?_
  rintro e w3 ⟨v7, rfl, ho7, ha3, hf3⟩
  obtain ⟨a, cp, rfl⟩ := own_shape ho7
  have hr7 := Reads.of_own ho7
  rw [HN.out] at hr7
  have HR := hide hr7
  have H3 := hide (H2.out.fr hf3)
  have G3 := hide (G2.out.trans hf3 (fun _ _ h => h.elim))
  have HOB := hide (fun k (hk : (Value.slice a l.length cp).ownBlock = some k) => (ho7.lt k hk))
  have hb3 : w.heap.size < w3.heap.size := lt_of_block H3.out.blk
  clear ho7 ha3 hf3 hr7
  rw [HN.out] at HOB ⊢
  have hX3 : ∀ k, (Value.slice a n cp).ownBlock = some k → k < w3.heap.size ∧ k ≠ w.heap.size ∧ v2.ownBlock ≠ some k := fun k hk => by
    have := HOB.out k hk
    have h2 := lt_of_block H2.out.blk
    exact ⟨this.2, by omega, fun e => by have := (H2.out.own.lt k e).2; omega⟩
  have hfour := four_any w3 w.heap.size v2 _ H3.out (n : Int) (by simp [ballotB_len])
  have HFOUR := hide hfour
  have HX3 := hide hX3
  clear hfour hX3
  go_wp2_with fail
  refine HFOUR.out.mono ?_
  rintro e w4 ⟨rfl, h4⟩
  obtain ⟨v4, h4, hX4, hf4⟩ := wrote_off H3.out h4 HX3.out
  have hr4 : Reads w4 (.slice a n cp) n 4 (rowV l) := HR.out.fr hf4 (fun a' n' c' e hs => hs.2 (by cases e; rfl))
  have HR4 := hide hr4
  have H4 := hide h4
  have HX4 := hide hX4
  have G4 := hide (G3.out.trans hf4 (fun _ _ h => h.1))
  clear h4 hX4 hf4 hr4
  go_wp2_with fail
  go_loopw [22] (fun i wr => ∃ (k : Nat) (wv : Value), i = .int .i64 k ∧ k ≤ n ∧ Wt wr w.heap.size wv (svk (p1, p2) n (l.take k)) ∧ (∀ j, (Value.slice a n cp).ownBlock = some j → j < wr.heap.size ∧ j ≠ w.heap.size ∧ wv.ownBlock ≠ some j) ∧ Fr (fun j => w.heap.size ≤ j ∧ ¬ (Value.slice a n cp).ownBlock = some j) w4 wr)
    (fun i _ => n - (intOf i).toNat)
  case atStart => exact ⟨0, v4, rfl, Nat.zero_le _, by simpa [svk] using H4.out, HX4.out, Fr.refl _ _⟩
  case round =>
    obtain ⟨k, wv, rfl, hk, hw, hX, hf⟩ := hrel
    have HW := hide hw
    have HXX := hide hX
    have HF := hide hf
    clear hw hf hX
    by_cases hlt : k < n
    · obtain ⟨x, hx⟩ : ∃ x, l[k]? = some x := ⟨_, List.getElem?_eq_getElem (by have := HN.out; omega)⟩
      obtain ⟨b0, o0, rfl, hlt0, hcells⟩ := row_cells vcells_len HR4.out hx (by decide)
      obtain ⟨x1, ⟨x2, x3⟩, x4⟩ := x
      have hbk := HF.out.block b0 hlt0 (fun hh => hh.2 rfl)
      have f0 := hcells 0 (.int .i64 x1) rfl wr hbk
      rw [Nat.add_zero] at f0
      have f1 := hcells 1 (.int .i64 x2) rfl wr hbk
      have f2 := hcells 2 (.int .i64 x3) rfl wr hbk
      have f3 := hcells 3 (.string x4) rfl wr hbk
      have ik1 : (k : Int) < (n : Int) := by omega
      have hsn := svk_take (p1, p2) n l k _ hx
      have hln := HLE.out (k + 1)
      rw [hsn] at hln
      rw [List.length_append, entryV_len] at hln
      have HSN := hide hsn
      have HLN := hide hln
      obtain ⟨xb, hxb⟩ : ∃ xb, wr.heap.size = xb := ⟨_, rfl⟩
      obtain ⟨wa, hwa⟩ : ∃ wa, wr.alloc (.cells #[.int .i64 x1, .int .i64 x2, .int .i64 x3, .string x4] 40) = wa := ⟨_, rfl⟩
      have hba : wa.heap[xb]? = some (.cells #[.int .i64 x1, .int .i64 x2, .int .i64 x3, .string x4] 40 (0, 0)) := by rw [← hwa, ← hxb]; exact block_alloc _ _
      have hfa : Fr (fun _ => False) wr wa := by rw [← hwa]; exact Fr.alloc _ _ _
      have hta : Wt wa w.heap.size wv (svk (p1, p2) n (l.take k)) := HW.out.fr hfa
      have hbb : w.heap.size < xb := by rw [← hxb]; exact lt_of_block HW.out.blk
      have hXa : ∀ j, ((Value.slice (some ⟨b0, o0, none⟩) n cp).ownBlock = some j ∨ j = xb) → j < wa.heap.size ∧ j ≠ w.heap.size ∧ wv.ownBlock ≠ some j := fun j hj => by
        rcases hj with hj | rfl
        · obtain ⟨h1, h2, h3⟩ := HXX.out j hj
          exact ⟨Nat.lt_of_lt_of_le h1 hfa.size, h2, h3⟩
        · exact ⟨lt_of_block hba, by omega, fun e => by have := (HW.out.own.lt j e).2; omega⟩
      have g0 : wa.cell? ⟨xb, 0, none⟩ = some (.int .i64 x1) := by rw [cell_of_block hba]; rfl
      have hx4 := four_any wa w.heap.size wv _ hta x1 (by omega)
      have HFO := hide hx4
      have HTA := hide hta
      have HBA := hide hba
      have HXA := hide hXa
      have HFA := hide hfa
      have HWA := hide hwa
      have HXB := hide hxb
      clear hcells hx hsn hln hba hfa hta hXa hx4 hwa hxb hbk
      go_upto_region 8 with fail
      rw [HWA.out, HXB.out]
      go_wp2_with fail
      refine HFO.out.mono ?_
      rintro e y1 ⟨rfl, j1⟩
      obtain ⟨u1, j1, jX1, jf1⟩ := wrote_off HTA.out j1 HXA.out
      have hy1 := (jf1.block xb (lt_of_block HBA.out) (fun hh => hh.2 (.inr rfl))).trans HBA.out
      have g1 : y1.cell? ⟨xb, 1, none⟩ = some (.int .i64 x2) := by rw [cell_of_block hy1]; rfl
      have g2 : y1.cell? ⟨xb, 2, none⟩ = some (.int .i64 x3) := by rw [cell_of_block hy1]; rfl
      have hpb := putB_any y1 w.heap.size u1 _ j1 (x2, x3) (by have := HLN.out; simp [beN_length]; omega)
      have HPB := hide (show Calls Try.prog 32 #[.pointer (some ⟨w.heap.size, 0, none⟩), .agg #[.int .i64 x2, .int .i64 x3]] y1 _ from hpb)
      have J1 := hide j1
      have Y1 := hide hy1
      have X1 := hide jX1
      have F1 := hide jf1
      clear j1 jX1 jf1 hy1 g0 hpb
      go_wp2_with fail
      refine HPB.out.mono ?_
      rintro e y2 ⟨rfl, j1⟩
      obtain ⟨u2, j1, jX1, jf1⟩ := wrote_off J1.out j1 X1.out
      have hy2 := (jf1.block xb (lt_of_block Y1.out) (fun hh => hh.2 (.inr rfl))).trans Y1.out
      have g3 : y2.cell? ⟨xb, 3, none⟩ = some (.string x4) := by rw [cell_of_block hy2]; rfl
      have htx := text_any y2 w.heap.size u2 _ j1 x4 (by have := HLN.out; simp [beN_length, ballotB_len]; omega)
      have HTX := hide htx
      have J2 := hide j1
      have X2 := hide jX1
      have F2 := hide (F1.out.trans jf1 (fun _ _ h => h))
      clear j1 jX1 jf1 hy2 g1 g2 htx
      go_wp2_with fail
      refine HTX.out.mono ?_
      rintro e y3 ⟨rfl, j1⟩
      obtain ⟨u3, j1, jX1, jf1⟩ := wrote_off J2.out j1 X2.out
      have J3 := hide j1
      have X3 := hide jX1
      have F3 := hide (F2.out.trans jf1 (fun _ _ h => h))
      clear j1 jX1 jf1 g3
      go_wp2_with fail
      go_roundw
      case rel =>
        refine ⟨k + 1, u3, by go_num, by omega, ?_, fun j hj => X3.out j (.inl hj), (HF.out.trans HFA.out (fun _ _ h => h.elim)).trans (F3.out.mono (S' := fun j => w.heap.size ≤ j ∧ ¬ (Value.slice (some ⟨b0, o0, none⟩) n cp).ownBlock = some j) (fun j _ hj => ⟨hj.1, fun h => hj.2 (.inl h)⟩)) (fun _ _ h => h)⟩
        have := J3.out
        rw [HSN.out]
        simpa [entryV] using this
      case measure => simp [intOf]; omega
    · have ik1 : ¬ (k : Int) < (n : Int) := by omega
      have hkn : l.take k = l := List.take_of_length_le (by have := HN.out; omega)
      have hw := HW.out
      rw [hkn] at hw
      have HW2 := hide hw
      have hln := HLE.out k
      rw [hkn] at hln
      clear hkn hw
      go_wp2_with fail
      refine (done_any wr w.heap.size wv _ HW2.out (by omega)).mono ?_
      rintro e y1 ⟨v', rfl, ho, hf⟩
      have HO := hide ho
      obtain ⟨a9, c9, rfl⟩ := own_shape ho
      have hs : w.heap.size ≤ wr.heap.size := by have := HF.out.size; have := G4.out.size; omega
      clear ho
      go_wp2_with fail
      go_ret
      have hall := ((G4.out.trans HF.out (fun _ _ h => h.1)).trans hf (fun _ _ h => h.elim))
      exact ⟨_, rfl, own_base HO.out hs, HAC.out _ hall, hall.fresh (fun _ h => h)⟩
end Go.Proofs.Ythekgecaeblbbaa
