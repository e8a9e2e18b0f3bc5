/- RangesPlays's walk. -/
import Derived.Test.YtkaibekeokkpnaaRgRef5
import Derived.Test.YtkaibekeokkpnaaRgOut
import Derived.Test.YtkaibekeokkpnaaRgBack
import Derived.Test.YtkaibekeokkpnaaRgMoved
import Derived.Test.YtkaibekeokkpnaaRgSplit2
import Derived.Test.YtkaibekeokkpnaaRgCount
import Derived.Test.YtkaibekeokkpnaaSameInt
import Derived.Test.YtkaibekeokkpnaaRgKnown2
import Derived.Test.YtkaibekeokkpnaaNews2
import Derived.Deep.WholeRow
import Derived.Deep.CutBlock
namespace Go.Proofs.Ytkaibekeokkpnaa.RangesPlays
open Go.RowKit Go.Maps Go.Cv Go.Shelf
set_option linter.unusedVariables false

/-- f says the owners that the parts l say. -/
def OW (l : List P3) (f : Int → Int) : Prop := ∀ x, 0 ≤ x → x < 256 → f x = ownF l x
/-- A Map at mb and the document's own at rb say the same. -/
def St (w : World) (rb mb : Nat) (wx : World) : Prop := ∃ (ep : Int) (a : Option Addr) (n c : Nat) (l : List P3) (f : Int → Int), MV wx mb ep a n c l ∧ rightM ep l = true ∧ RB wx rb ep f ∧ OW l f ∧ (∀ b, a = some b → b.block ≠ rb) ∧ Fr (fun _ => False) w wx
theorem reads_pre {w : World} {a : Option Addr} {n c s : Nat} {xs : List Value} (h : Reads w (.slice a n c) n s xs) {m : Nat} (hm : m ≤ n) : Reads w (.slice a m c) m s (xs.take (m * s)) := by
  obtain ⟨h1, a0, c0, e, h2, h3, h4⟩ := h
  cases e
  have hms : m * s ≤ n * s := Nat.mul_le_mul_right _ hm
  refine ⟨by rw [List.length_take, h1]; omega, _, _, rfl, (fun e => by obtain ⟨e1, e2⟩ := h2 e; exact ⟨by omega, e2⟩), by omega, fun i u hu => h4 i u ?_⟩
  have hi : i < m * s := by have := (List.getElem?_eq_some_iff.1 hu).1; rw [List.length_take] at this; omega
  rwa [List.getElem?_take, if_pos hi] at hu
theorem rowO_take (l : List O4) (m : Nat) : (rowO l).take (m * 4) = rowO (l.take m) := by
  induction l generalizing m with
  | nil => simp [rowO]
  | cons x r ih =>
    cases m with
    | zero => simp [rowO]
    | succ m =>
      have : rowO (x :: r) = oc x ++ rowO r := by simp [rowO]
      rw [this, List.take_succ_cons, show rowO (x :: r.take m) = oc x ++ rowO (r.take m) by simp [rowO], List.take_append, oc_len, show (m + 1) * 4 - 4 = m * 4 by omega, ih, List.take_of_length_le (by rw [oc_len]; omega)]

def RMv (ep er x1 x2 x3 : Int) (f : Int → Int) (v : Value) : Prop := ∃ cs' e' f', v = .tuple #[.agg cs', .int .i64 er] ∧ RC cs' e' f' ∧ (er = 0 → e' = ep + 1 ∧ f' = fun x => if x1 ≤ x ∧ x < x2 then x3 else f x)
/-- What stands behind the document's Move. -/
def PV (W : World) (ep er x1 x2 x3 : Int) (f : Int → Int) (v : Value) (w5 : World) : Prop := ∃ nb2 e3 f3, v = .pointer (some ⟨nb2, 0, none⟩) ∧ W.heap.size ≤ nb2 ∧ RB w5 nb2 e3 f3 ∧ Fr (fun _ => False) W w5 ∧ (er = 0 → e3 = ep + 1 ∧ f3 = fun x => if x1 ≤ x ∧ x < x2 then x3 else f x)
theorem run_val {P : Program} {o : Oper} {a : Act} {w : World} {K : Act → World → Prop} {Q : Exit → Act → World → Prop} (v : Value) (hrun : (execOp a.eval o).run P w = .ok (.value v) w) (hK : K (a.put o.dst v) w) : o.wp P a w K Q := by
  unfold Oper.wp
  rw [hrun, Oper.upon_value]
  exact hK

/-- A right Map and the document's own of the same owners are the same. -/
theorem sameT (w : World) (ep : Int) (a : Option Addr) (n c : Nat) (l : List P3) (h : RD w a n c l) (hr : rightM ep l = true) (cs : Array Value) (f : Int → Int) (hc : RC cs ep f) (ho : OW l f) :
    Calls Try.prog 22 #[.agg #[.int .i64 ep, .slice a n c], .agg cs] w fun e w' => e = .returned (.bool true) ∧ Fr (fun _ => False) w w' := by
  have h9 := sameMap_any w ep (.slice a n c) l h.rd h.len cs ep f hc
  rw [show decide (ep = ep ∧ l = pz f 256) = true from by rw [right_canon hr f ho]; simp] at h9
  exact h9
set_option maxRecDepth 100000 in
theorem ow_new (n : Nat) (h : 1 ≤ n ∧ n ≤ 3) : OW (newP n n) (newF n n) := by
  have hc : n = 1 ∨ n = 2 ∨ n = 3 := by omega
  have hin : ∀ m ∈ [1, 2, 3], ∀ k : Nat, k < 256 → (0 ≤ newF ((m : Nat) : Int) m (k : Int) ∧ newF ((m : Nat) : Int) m (k : Int) < 3) := by decide
  intro x h0 h1
  have hb : ∀ y, 0 ≤ y → y < 256 → 0 ≤ newF (n : Int) n y ∧ newF (n : Int) n y < 3 := fun y y0 y1 => by
    obtain ⟨k, rfl⟩ : ∃ k : Nat, y = (k : Int) := ⟨y.toNat, by omega⟩
    exact hin n (by simp; omega) k (by omega)
  have hz : newP (n : Int) n = pz (newF (n : Int) n) 256 := by
    rcases hc with rfl | rfl | rfl
    · exact new_pz1
    · exact new_pz2
    · exact new_pz3
  rw [hz, pz_own _ hb x h0 h1]
theorem idx_congr {h h' : Nat → Int} (g : Int) : ∀ n, (∀ k, k < n → h k = h' k) → idx h g n = idx h' g n
  | 0, _ => rfl
  | n + 1, hh => by
    unfold idx
    rw [idx_congr g n (fun k hk => hh k (by omega)), hh n (by omega)]
theorem splitG_congr {h h' : Nat → Int} (n : Nat) (hh : ∀ k, k < n → h k = h' k) : ∀ m, splitG h n m = splitG h' n m
  | 0 => rfl
  | m + 1 => by
    unfold splitG
    rw [splitG_congr n hh m, idx_congr _ n hh]
theorem mem_len {h : Nat → Int} {n : Nat} {x : Int × List Int} : ∀ m, x ∈ splitG h n m → x.2.length ≤ n
  | 0, hx => by cases hx
  | m + 1, hx => by
    unfold splitG at hx
    split at hx
    · exact mem_len m hx
    · rcases List.mem_append.1 hx with hx | hx
      · exact mem_len m hx
      · obtain rfl : x = ((m : Int), idx h (m : Int) n) := by simpa using hx
        exact idx_len h _ n
theorem ow_at {l : List P3} {f : Int → Int} (ho : OW l f) (ops : List O4) (n : Nat) (hn : ops.length = n) : ∀ k, k < n → rAt f ops k = ownAt l ops k := fun k hk => by
  obtain ⟨x, hx⟩ : ∃ x, ops[k]? = some x := ⟨_, List.getElem?_eq_getElem (by omega)⟩
  obtain ⟨h0, h1⟩ := hashF_lt x.2.1
  unfold rAt ownAt
  rw [hx]
  exact ho _ h0 h1
theorem ow_move {ep : Int} {l : List P3} {f : Int → Int} (h : rightM ep l = true) (ho : OW l f) (lo hi g : Int) (hg : 0 ≤ g ∧ g < 3) : OW (moveP l lo hi g) (fun x => if lo ≤ x ∧ x < hi then g else f x) := fun x h0 h1 => by
  rw [move_own h lo hi g hg x h0 h1]
  unfold moveF
  show (if lo ≤ x ∧ x < hi then g else f x) = _
  rw [ho x h0 h1]

set_option maxRecDepth 100000 in
set_option maxHeartbeats 12800000 in
theorem walk (w : World) (ep0 : Int) (s0 : Option Addr) (n0 k0 : Nat) (l0 : List P3) (h0 : Reads w (.slice s0 n0 k0) n0 3 (rowP l0)) (hl0 : l0.length = n0) (hb0 : n0 * 24 ≤ 140737488351232)
    (g : Int) (wfg : (Lit.int .i64 g).wf = true) (v1 : Value) (l1 : List P3) (h1 : Reads w v1 l1.length 3 (rowP l1)) (hl1 : l1.length ≤ maxLen)
    (v2 : Value) (l2 : List O4) (h2 : Reads w v2 l2.length 4 (rowO l2)) (hg2 : ∀ a ∈ l2, a.2.1.size ≤ maxLen) (hl2 : l2.length ≤ maxLen) :
    Calls Try.prog 7 #[.agg #[.int .i64 ep0, .slice s0 n0 k0], .int .i64 g, v1, v2] w fun e w' => e = .returned (.bool true) ∧ Below w.heap.size w w' := by
  obtain ⟨n1, hn1⟩ : ∃ n, l1.length = n := ⟨_, rfl⟩
  obtain ⟨n2, hn2⟩ : ∃ n, l2.length = n := ⟨_, rfl⟩
  rw [hn1] at h1 hl1
  rw [hn2] at h2 hl2
  obtain ⟨-, s1, k1, rfl, -, -, -⟩ := id h1
  obtain ⟨-, s2, k2, rfl, -, hcap2, -⟩ := id h2
  unfold maxLen at hl1 hl2
  have hn19 : (n1 : Int) ≤ 9223372036854775807 := by omega
  have hn29 : (n2 : Int) ≤ 9223372036854775807 := by omega
  have hn09 : n0 ≤ maxLen := by unfold maxLen; omega
  obtain ⟨wa, hwa⟩ : ∃ wa, w.alloc (.cells #[.int .i64 ep0, .slice s0 n0 k0] 25) = wa := ⟨_, rfl⟩
  obtain ⟨pb, hpb⟩ : ∃ pb, w.heap.size = pb := ⟨_, rfl⟩
  have hfa : Fr (fun _ => False) w wa := by rw [← hwa]; exact Fr.alloc _ _ _
  have hba : wa.heap[pb]? = some (.cells #[.int .i64 ep0, .slice s0 n0 k0] 25 (0, 0)) := by rw [← hwa, ← hpb]; exact block_alloc _ _
  have hrd0 : ∀ wx, Fr (fun _ => False) w wx → Reads wx (.slice s0 n0 k0) n0 3 (rowP l0) := fun wx hf => reads_old h0 hf (fun _ _ => id)
  have hs0 : rightM ep0 l0 = true → n0 ≤ 4096 ∧ ∀ b, s0 = some b → b.block < w.heap.size := fun hr => by
    have hle := right_len hr
    refine ⟨by omega, fun b hb => ?_⟩
    cases l0 with
    | nil => obtain ⟨_, _, gg, hc⟩ := right_chk hr; simp [chk] at hc
    | cons x r =>
      obtain ⟨b0, o0, e0, hl, _⟩ := row_cells pc_len h0 (show (x :: r)[0]? = some x from rfl) (by decide)
      rw [hb] at e0; cases e0; exact hl
  have hout := out_any wa ep0 s0 n0 k0 l0 (hrd0 wa hfa) hl0 hb0
  have hright : ∀ wx, Fr (fun _ => False) w wx → Calls Try.prog 11 #[.agg #[.int .i64 ep0, .slice s0 n0 k0]] wx fun e w' => e = .returned (.bool (rightM ep0 l0)) ∧ Fr (fun _ => False) wx w' := fun wx hf => by
    have := right_any wx ep0 (.slice s0 n0 k0) l0 (by rw [hl0]; exact hrd0 wx hf) (by rw [hl0]; exact hn09)
    exact this
  have hrdm : rightM ep0 l0 = true → ∀ wx, Fr (fun _ => False) w wx → RD wx s0 n0 k0 l0 := fun hr wx hf => ⟨hl0, hrd0 wx hf, (hs0 hr).1⟩
  obtain ⟨q, hq⟩ : ∃ q, rightM ep0 l0 = q := ⟨_, rfl⟩
  rw [hq] at hright
  have H3 := hide h1
  have HL3 := hide hn1
  have HR2 := hide h2
  have HN2 := hide hn2
  have HG2 := hide hg2
  have HS0 := hide hs0
  have HRDM := hide hrdm
  have HRIGHT := hide hright
  have HOUT := hide hout
  have HQ := hide hq
  have HWA := hide hwa
  have HPB := hide hpb
  have HFA := hide hfa
  have HBA := hide hba
  have hqq : (q != q) = false := by simp
  clear h0 hl0 hb0 h1 hn1 h2 hn2 hg2 hs0 hrdm hright hout hq hwa hpb hfa hba hrd0 hn09 hl1 hl2
  go_enter Try.func7, Try.ntmps7
  go_upto_region 1 with fail
  rw [HWA.out, HPB.out]
  have c0 : wa.cell? ⟨pb, 0, none⟩ = some (.int .i64 ep0) := by rw [cell_of_block HBA.out]; rfl
  have c1 : wa.cell? ⟨pb, 1, none⟩ = some (.slice s0 n0 k0) := by rw [cell_of_block HBA.out]; rfl
  go_wp2_with fail
  refine HOUT.out.mono ?_
  rintro e w1 ⟨⟨cs, ep', f, rfl, hcs, hok⟩, hf⟩
  rw [HQ.out] at hok ⊢
  have HB1 := hide ((hf.block pb (lt_of_block HBA.out) id).trans HBA.out)
  have HF1 := hide (HFA.out.trans hf (fun _ _ h => h))
  have HOK := hide hok
  have HCS := hide hcs
  clear hf hcs hok c0 c1
  go_upto_region 2 with (first
    | (refine wpList_alloc_ref rfl rfl ?_; intro c9 hc9; have R1 := RB.made hc9 w1; have F1 : Fr (fun _ => False) w1 _ := Fr.alloc (fun _ => False) w1 (.cells c9 58); have L1 := lt_of_block HB1.out; generalize w1.alloc (.cells c9 58) = w2 at *; generalize w1.heap.size = rb at *)
    | (refine wpList_store_ref rfl _ _ rfl rb cs rfl rfl ep' 0 f _ R1 HCS.out ?_; intro w3 hR3 hF3))
  have hb3 : w3.heap[pb]? = some (.cells #[.int .i64 ep0, .slice s0 n0 k0] 25 (0, 0)) := (hF3.block pb (by have := F1.size; have := R1.lt; omega) (by omega)).trans ((F1.block pb (lt_of_block HB1.out) id).trans HB1.out)
  have hprb : pb < rb := L1
  have hf3 : Fr (fun _ => False) w w3 := (((HF1.out.trans F1 (fun _ _ h => h)).mono (S' := fun k => k = rb) (fun _ _ h => h.elim)).trans hF3 (fun _ _ h => h)).fresh (fun k hk => by have := HPB.out; omega)
  have HB3 := hide hb3
  have HF3 := hide hf3
  have HR3 := hide hR3
  clear hb3 hf3 hR3 hF3 R1 F1 hc9 L1
  have c0 : w3.cell? ⟨pb, 0, none⟩ = some (.int .i64 ep0) := by rw [cell_of_block HB3.out]; rfl
  have c1 : w3.cell? ⟨pb, 1, none⟩ = some (.slice s0 n0 k0) := by rw [cell_of_block HB3.out]; rfl
  go_wp2_with fail
  refine (HRIGHT.out w3 HF3.out).mono ?_
  rintro e w4 ⟨rfl, hf4⟩
  have hb4 := (hf4.block pb (lt_of_block HB3.out) id).trans HB3.out
  have HB4 := hide hb4
  have HR4 := hide (HR3.out.fr hf4 id)
  have HF4 := hide (HF3.out.trans hf4 (fun _ _ h => h))
  clear hf4 hb4 c0 c1
  have c0 : w4.cell? ⟨pb, 0, none⟩ = some (.int .i64 ep0) := by rw [cell_of_block HB4.out]; rfl
  have c1 : w4.cell? ⟨pb, 1, none⟩ = some (.slice s0 n0 k0) := by rw [cell_of_block HB4.out]; rfl
  go_upto_region 5 with fail
  obtain ⟨w5, hw5⟩ : ∃ w5, w4.alloc (.cells #[.int .i64 ep0, .slice s0 n0 k0] 25) = w5 := ⟨_, rfl⟩
  obtain ⟨mb, hmb⟩ : ∃ mb, w4.heap.size = mb := ⟨_, rfl⟩
  rw [hw5, hmb]
  have hf5 : Fr (fun _ => False) w4 w5 := by rw [← hw5]; exact Fr.alloc _ _ _
  have hb5 : w5.heap[mb]? = some (.cells #[.int .i64 ep0, .slice s0 n0 k0] 25 (0, 0)) := by rw [← hw5, ← hmb]; exact block_alloc _ _
  have hrm : rb < mb := by have := HR4.out.lt; omega
  have HB5 := hide hb5
  have HR5 := hide (HR4.out.fr hf5 id)
  have HF5 := hide (HF4.out.trans hf5 (fun _ _ h => h))
  clear hf5 hb5 hw5 hmb c0 c1
  have hcases : (q = true) ∨ (q = false ∧ (1 ≤ g ∧ g ≤ 3)) ∨ (q = false ∧ (g < 1 ∨ (¬ g < 1 ∧ 3 < g))) := by
    cases q
    · by_cases h : 1 ≤ g ∧ g ≤ 3
      · exact .inr (.inl ⟨rfl, h⟩)
      · exact .inr (.inr ⟨rfl, by omega⟩)
    · exact .inl rfl
  clear hqq
  go_upto_if 39 with fail
  go_cut [] from 40 to 68 (fun wx => Hid (St w rb mb wx))
  case first =>
    rcases hcases with rfl | ⟨rfl, hg⟩ | ⟨rfl, hg⟩
    case inr.inr =>
      have x0 : w5.cell? ⟨mb, 0, none⟩ = some (.int .i64 ep0) := by rw [cell_of_block HB5.out]; rfl
      have x1 : w5.cell? ⟨mb, 1, none⟩ = some (.slice s0 n0 k0) := by rw [cell_of_block HB5.out]; rfl
      have HG := hide hg
      go_wp2_with fail
      refine (new_no w5 g (by have := HG.out; omega)).mono ?_
      rintro e w6 ⟨rfl, hf6⟩
      unfold mv
      have hb6 := (hf6.block mb (lt_of_block HB5.out) id).trans HB5.out
      clear x0 x1 hg
      have x0 : w6.cell? ⟨mb, 0, none⟩ = some (.int .i64 ep0) := by rw [cell_of_block hb6]; rfl
      have x1 : w6.cell? ⟨mb, 1, none⟩ = some (.slice s0 n0 k0) := by rw [cell_of_block hb6]; rfl
      have x2 : w6.frozen? ⟨mb, 0, none⟩ = false := free_of_block hb6
      have x3 : w6.frozen? ⟨mb, 1, none⟩ = false := free_of_block hb6
      have HF6 := hide (HF5.out.trans hf6 (fun _ _ h => h))
      have hF5s := HF5.out.size
      clear hb6 hf6
      rcases HG.out with i1 | ⟨i1, i2⟩
      all_goals
        go_wp2_with fail
        refine (known_any _).mono ?_
        rintro e wk ⟨rfl, hfk⟩
        go_wp2_with fail
        go_ret
        have f7 : Fr (fun k => k = mb) w6 ((w6.setCell ⟨mb, 0, none⟩ (.int .i64 0)).setCell ⟨mb, 1, none⟩ (.slice none 0 0)) := (Fr.setCell (S := fun k => k = mb) w6 ⟨mb, 0, none⟩ _ rfl).trans (Fr.setCell (S := fun k => k = mb) _ ⟨mb, 1, none⟩ _ rfl) (fun _ _ h => h)
        exact ⟨rfl, (((HF6.out.mono (S' := fun k => k = mb) (fun _ _ h => h.elim)).trans f7 (fun _ _ h => h)).trans hfk (fun _ _ h => h.elim)).toBelow (Nat.le_refl _) (fun j hj h => by have := HPB.out; omega)⟩
    case inr.inl =>
      obtain ⟨gn, rfl⟩ : ∃ gn : Nat, g = (gn : Int) := ⟨g.toNat, by omega⟩
      have HG := hide hg
      clear hg
      go_wp2_with fail
      refine (newX w5 gn HG.out).mono ?_
      rintro e w6 ⟨a6, n6, c6, rfl, hd6, hnew6, hf6⟩
      have hb6 := (hf6.block mb (lt_of_block HB5.out) id).trans HB5.out
      have x0 : w6.cell? ⟨mb, 0, none⟩ = some (.int .i64 ep0) := by rw [cell_of_block hb6]; rfl
      have x1 : w6.cell? ⟨mb, 1, none⟩ = some (.slice s0 n0 k0) := by rw [cell_of_block hb6]; rfl
      have x2 : w6.frozen? ⟨mb, 0, none⟩ = false := free_of_block hb6
      have x3 : w6.frozen? ⟨mb, 1, none⟩ = false := free_of_block hb6
      obtain ⟨m7, f7⟩ := MV.stored hb6 hd6 1
      have hr7 := (HR5.out.fr hf6 id).fr f7 (by omega)
      have hF7 : Fr (fun _ => False) w _ := (((HF5.out.trans hf6 (fun _ _ h => h)).mono (S' := fun k => k = mb) (fun _ _ h => h.elim)).trans f7 (fun _ _ h => h)).fresh (fun k hk => by have := HPB.out; omega)
      have hne7 : ∀ b, a6 = some b → b.block ≠ rb := fun b hb e => by have := hnew6 b hb; have := HR5.out.lt; omega
      have HM7 := hide m7
      have HR7 := hide hr7
      have HF7 := hide hF7
      have HNE := hide hne7
      clear hb6 m7 f7 hr7 hF7 hne7 hd6 hnew6 hf6
      go_upto_region 8 with fail
      obtain ⟨w7, hw7⟩ : ∃ w7, (w6.setCell ⟨mb, 0, none⟩ (.int .i64 1)).setCell ⟨mb, 1, none⟩ (.slice a6 n6 c6) = w7 := ⟨_, rfl⟩
      rw [hw7] at HM7 HR7 HF7 ⊢
      clear hw7 x0 x1 x2 x3
      have i1 : ¬ (gn : Int) < 1 := by have := HG.out; omega
      have i2 : ¬ 3 < (gn : Int) := by have := HG.out; omega
      go_wp2_with fail
      refine (refNew_any w7 gn (by have := HG.out; omega)).mono ?_
      rintro e w8 ⟨cs8, rfl, hc8, hf8⟩
      have HM8 := hide (HM7.out.fr0 hf8)
      have HR8 := hide (HR7.out.fr hf8 id)
      have HF8 := hide (HF7.out.trans hf8 (fun _ _ h => h))
      have HC8 := hide hc8
      clear hf8 hc8 i1 i2
      go_upto_region 11 with (refine wpList_store_ref rfl _ _ rfl rb cs8 rfl rfl 1 _ _ _ HR8.out HC8.out ?_; intro w9 hB9 hF9)
      have HM := hide (HM8.out.frB hF9 (by omega) HNE.out)
      have HRT := hide (show rightM 1 (newP gn gn) = true from newP_right gn (by have := HG.out; omega))
      have HB := hide hB9
      have HO := hide (ow_new gn (by have := HG.out; omega))
      have HF := hide (((HF8.out.mono (S' := fun k => k = rb) (fun _ _ h => h.elim)).trans hF9 (fun _ _ h => h)).fresh (fun k hk => by have := HPB.out; omega))
      clear hF9 hB9
      rw [Int.toNat_natCast] at HM
      go_wp2_with fail
      go_meet
      case rel => exact ⟨_, _, _, _, _, _, HM.out, HRT.out, HB.out, HO.out, HNE.out, HF.out⟩
    case inl =>
      have HM := hide (show MV w5 mb ep0 s0 n0 k0 l0 from ⟨HB5.out, HRDM.out HQ.out w5 HF5.out⟩)
      have HRT := hide (show rightM ep0 l0 = true from HQ.out)
      have HB := hide (show RB w5 rb ep0 f by have := (HOK.out rfl).1; subst this; exact HR5.out)
      have HO := hide (show OW l0 f from (HOK.out rfl).2)
      have HNE := hide (show ∀ b, s0 = some b → b.block ≠ rb from fun b hb => by have := (HS0.out HQ.out).2 b hb; have := HPB.out; omega)
      have HF := hide HF5.out
      go_wp2_with fail
      go_meet
      case rel => exact ⟨_, _, _, _, _, _, HM.out, HRT.out, HB.out, HO.out, HNE.out, HF.out⟩
  case rest =>
    obtain ⟨w6, rfl⟩ : ∃ w6, w6 = wc := ⟨_, rfl⟩
    have HS := hcut
    have HW := hide (show w.heap.size ≤ rb by have := HPB.out; omega)
    clear hcut
    go_upto_block 0 with fail
    go_cut [] from 69 to 145 (fun wx => Hid (St w rb mb wx))
    case first =>
     go_wp2_with fail
     go_loopw [13] (fun i wr => ∃ k : Nat, i = .int .i64 k ∧ k ≤ n1 ∧ k ≤ 20 ∧ Hid (St w rb mb wr)) (fun i _ => n1 - (intOf i).toNat)
     case atStart => exact ⟨0, rfl, Nat.zero_le _, by omega, HS.out⟩
     case round =>
      obtain ⟨k, rfl, hk1, hk2, HSk⟩ := hrel
      obtain ⟨ep, a, n, c, l, f, hmk, hrk, hbk, hok, hnk, hfk⟩ := HSk.out
      have HMk := hide hmk
      have HRk := hide hrk
      have HBk := hide hbk
      have HOk := hide hok
      have HNk := hide hnk
      have HFk := hide hfk
      clear hmk hrk hbk hok hnk hfk
      have m0 := HMk.out.c0
      have m1 := HMk.out.c1
      by_cases hlt : k < n1 ∧ k < 20
      · obtain ⟨hlt1, hlt2⟩ := hlt
        --DEV<
        have ik1 : (k : Int) < (n1 : Int) := by omega
        have ik2 : (k : Int) < 20 := by omega
        have ik0 : (0 : Int) ≤ (k : Int) := by omega
        obtain ⟨x, hx⟩ : ∃ x, l1[k]? = some x := ⟨_, List.getElem?_eq_getElem (by have := HL3.out; omega)⟩
        obtain ⟨bs, os, rfl, hls, hcs⟩ := row_cells pc_len H3.out hx (by decide)
        obtain ⟨x1, x2, x3⟩ := x
        have hw0 := HFk.out.block bs hls id
        have e0 := hcs 0 (.int .i64 x1) rfl wr hw0
        have e1 := hcs 1 (.int .i64 x2) rfl wr hw0
        have e2 := hcs 2 (.int .i64 x3) rfl wr hw0
        rw [Nat.add_zero] at e0
        have hmv : ∀ wx, Fr (fun _ => False) wr wx → Calls Try.prog 10 #[.agg #[.int .i64 ep, .slice a n c], .int .i64 x1, .int .i64 x2, .int .i64 x3] wx _ := fun wx hf => moveX wx ep a n c l (HMk.out.2.fr0 hf) HRk.out x1 x2 x3
        have HMV := hide hmv
        have hfr0 : Fr (fun _ => False) wr wr.drew := (Fr.refl (fun _ => False) wr).drew
        have hfr1 : Fr (fun _ => False) wr (wr.alloc (.cells #[.int .i64 0, .slice none 0 0] 25)).drew := (Fr.alloc (fun _ => False) wr _).drew
        have hnb1 : (wr.alloc (.cells #[.int .i64 0, .slice none 0 0] 25)).drew.heap[wr.heap.size]? = some (.cells #[.int .i64 0, .slice none 0 0] 25 (0, 0)) := block_alloc wr _
        have hn1 : mb ≠ wr.heap.size := by have := HMk.out.lt; omega
        have hn2 : bs ≠ wr.heap.size := by have := HFk.out.size; omega
        have hn3 : wr.heap.size ≠ mb := fun e => hn1 e.symm
        have hn4 : wr.heap.size ≠ bs := fun e => hn2 e.symm
        have FR0 := hide hfr0
        have FR1 := hide hfr1
        have HNB1 := hide hnb1
        have hcx : ∀ wx : World, wx.heap[bs]? = wr.heap[bs]? → wx.cell? ⟨bs, os + k * 3, none⟩ = some (.int .i64 x1) ∧ wx.cell? ⟨bs, os + k * 3 + 1, none⟩ = some (.int .i64 x2) ∧ wx.cell? ⟨bs, os + k * 3 + 2, none⟩ = some (.int .i64 x3) := fun wx hf => by
          have hw1 := hf.trans hw0
          exact ⟨by have := hcs 0 (.int .i64 x1) rfl wx hw1; simpa using this, hcs 1 (.int .i64 x2) rfl wx hw1, hcs 2 (.int .i64 x3) rfl wx hw1⟩
        have hcl : ∀ wx, Fr (fun _ => False) wr wx → wx.cell? ⟨mb, 0, none⟩ = some (.int .i64 ep) ∧ wx.cell? ⟨mb, 1, none⟩ = some (.slice a n c) ∧ wx.cell? ⟨bs, os + k * 3, none⟩ = some (.int .i64 x1) ∧ wx.cell? ⟨bs, os + k * 3 + 1, none⟩ = some (.int .i64 x2) ∧ wx.cell? ⟨bs, os + k * 3 + 2, none⟩ = some (.int .i64 x3) := fun wx hf => by
          have hm := HMk.out.fr0 hf
          obtain ⟨q1, q2, q3⟩ := hcx wx (hf.block bs (by have := HFk.out.size; omega) id)
          exact ⟨hm.c0, hm.c1, q1, q2, q3⟩
        have HCX := hide hcx
        have HCL := hide hcl
        have HLS := hide (show bs < w.heap.size from hls)
        clear hcs hx hmv hw0 hcx hcl hfr0 hfr1 hnb1 hls
        go_wp2_with fail
        go_region_held3 (fun w' => w'.cell? ⟨mb, 0, none⟩ = some (.int .i64 ep) ∧ w'.cell? ⟨mb, 1, none⟩ = some (.slice a n c) ∧ w'.cell? ⟨bs, os + k * 3, none⟩ = some (.int .i64 x1) ∧ w'.cell? ⟨bs, os + k * 3 + 1, none⟩ = some (.int .i64 x2) ∧ w'.cell? ⟨bs, os + k * 3 + 2, none⟩ = some (.int .i64 x3)) (go_keep)
          (first
            | (go_at_call 10; (with_reducible refine (HMV.out _ FR0.out).mono ?_); rintro e y ⟨⟨ep2, a2, n2', c2, l2', rfl, hd, hnew, hq⟩, hfy⟩; have hfz := FR0.out.trans hfy (fun _ _ h => h); obtain ⟨t0, t1, t2, t3, t4⟩ := HCL.out y hfz; have HPOST : Hid (∃ W nb, y.alloc (.cells #[.int .i64 ep2, .slice a2 n2' c2] 25) = W ∧ y.heap.size = nb ∧ wr.heap.size ≤ nb ∧ Fr (fun _ => False) wr W ∧ MV W nb ep2 a2 n2' c2 l2') := hide ⟨_, _, rfl, rfl, hfz.size, hfz.trans (Fr.alloc (fun _ => False) _ _) (fun _ _ h => h), MV.made ep2 hd⟩; have HQ2 := hide hq; have HNW : Hid (∀ b, a2 = some b → b.block ≠ rb) := hide (fun b hb e => by have h1 := hnew b hb; have h2 := FR0.out.size; have h3 := HBk.out.lt; omega); clear hd hq hfy hfz hnew)
            | (go_at_call 10; (with_reducible refine (HMV.out _ FR1.out).mono ?_); rintro e y ⟨⟨ep2, a2, n2', c2, l2', rfl, hd, hnew, hq⟩, hfy⟩; have hfz := FR1.out.trans hfy (fun _ _ h => h); obtain ⟨t0, t1, t2, t3, t4⟩ := HCL.out y hfz; have hby := (hfy.block wr.heap.size (lt_of_block HNB1.out) id).trans HNB1.out; have u0 := cell_of_block (j := 0) hby; have u1 := cell_of_block (j := 1) hby; have u2 := free_of_block (j := 0) hby; have u3 := free_of_block (j := 1) hby; have HPOST : Hid (∃ W nb, (y.setCell ⟨wr.heap.size, 0, none⟩ (.int .i64 ep2)).setCell ⟨wr.heap.size, 1, none⟩ (.slice a2 n2' c2) = W ∧ wr.heap.size = nb ∧ wr.heap.size ≤ nb ∧ Fr (fun _ => False) wr W ∧ MV W nb ep2 a2 n2' c2 l2') := hide ⟨_, _, rfl, rfl, Nat.le_refl _, ((hfz.mono (S' := fun k => k = wr.heap.size) (fun _ _ h => h.elim)).trans (MV.stored hby hd ep2).2 (fun _ _ h => h)).fresh (fun k hk => by omega), (MV.stored hby hd ep2).1⟩; have HQ2 := hide hq; have HNW : Hid (∀ b, a2 = some b → b.block ≠ rb) := hide (fun b hb e => by have h1 := hnew b hb; have h2 := FR1.out.size; have h3 := HBk.out.lt; omega); clear hd hq hfy hfz hby hnew))
        all_goals
          obtain ⟨W, nb, hW, hnb, hnbs, hfW, hMW⟩ := HPOST.out
          rw [hW, hnb]
          clear hW hnb HPOST
          obtain ⟨er, her⟩ : ∃ er, refMoveE ep x1 x2 x3 = er := ⟨_, rfl⟩
          rw [her]
          have HQ3 := hide (show er = 0 → _ from her ▸ HQ2.out)
          have hm2 := HMk.out.fr0 hfW
          obtain ⟨cs9, hb9, hc9⟩ := HBk.out.fr hfW id
          have hnmb : nb ≠ mb := fun e => by have := HMk.out.lt; omega
          have hnrb : nb ≠ rb := fun e => by have := HBk.out.lt; omega
          have hmv2 : ∀ wx, Fr (fun _ => False) W wx → Calls Try.prog 21 #[.agg cs9, .int .i64 x1, .int .i64 x2, .int .i64 x3] wx _ := fun wx hf => refMoveX wx cs9 ep f hc9 x1 x2 x3 (by have := (right_chk HRk.out).1; omega)
          have hcl2 : ∀ wx, Fr (fun k => W.heap.size ≤ k) W wx → wx.heap[rb]? = some (.cells cs9 58 (0, 0)) ∧ wx.cell? ⟨bs, os + k * 3, none⟩ = some (.int .i64 x1) ∧ wx.cell? ⟨bs, os + k * 3 + 1, none⟩ = some (.int .i64 x2) ∧ wx.cell? ⟨bs, os + k * 3 + 2, none⟩ = some (.int .i64 x3) := fun wx hf => by
            have hs := HFk.out.size
            have hl := HLS.out
            obtain ⟨q1, q2, q3⟩ := HCX.out wx ((hf.block bs (by have := hfW.size; omega) (by have := hfW.size; omega)).trans (hfW.block bs (by omega) id))
            exact ⟨(hf.block rb (lt_of_block hb9) (by have := lt_of_block hb9; omega)).trans hb9, q1, q2, q3⟩
          obtain ⟨b0, e3, e4, e5⟩ := hcl2 W (Fr.refl _ _)
          have FRW := hide ((Fr.refl (fun _ => False) W).drew)
          have HCL2 := hide hcl2
          have HMV2 := hide hmv2
          have HC9 := hide hc9
          have HB9 := hide hb9
          have HER := hide her
          have HFW := hide hfW
          have HMW := hide hMW
          have LB0 := hide (show W.drew.heap[rb]? = some (.cells cs9 58 (0, 0)) from hb9)
          clear hmv2 hcl2 hc9 hm2 hb9 hfW hMW e0 e1 e2 m0 m1
          go_upto_region 15 with fail
          refine wp_region_last2 [Lft.is (.agg cs9), Lft.is (.slice (some ⟨bs, os, none⟩) n1 k1), Lft.is (.int .i64 k), Lft.is (.pointer (some ⟨bs, os + k * 3, none⟩)), Lft.is (.pointer (some ⟨bs, os + k * 3, none⟩)), Lft.is (.int .i64 x1), Lft.is (.slice (some ⟨bs, os, none⟩) n1 k1), Lft.is (.int .i64 k), Lft.is (.pointer (some ⟨bs, os + k * 3, none⟩)), Lft.is (.pointer (some ⟨bs, os + k * 3 + 1, none⟩)), Lft.is (.int .i64 x2), Lft.is (.slice (some ⟨bs, os, none⟩) n1 k1), Lft.is (.int .i64 k), Lft.is (.pointer (some ⟨bs, os + k * 3, none⟩)), Lft.is (.pointer (some ⟨bs, os + k * 3 + 2, none⟩)), Lft.is (.int .i64 x3), Lft.stay (fun v _ => RMv ep er x1 x2 x3 f v) (fun u w1 w2 h g => h), Lft.stay (fun v _ => RMv ep er x1 x2 x3 f v) (fun u w1 w2 h g => h), Lft.stay (fun v _ => ∃ cs' e' f', v = .agg cs' ∧ RC cs' e' f' ∧ (er = 0 → e' = ep + 1 ∧ f' = fun x => if x1 ≤ x ∧ x < x2 then x3 else f x)) (fun u w1 w2 h g => h), Lft.is (.int .i64 er), Lft.own (fun v w' => ∃ b, v = .pointer (some ⟨b, 0, none⟩) ∧ RB w' b 0 (fun _ => 0)) (fun u w1 w2 h g => by obtain ⟨b, e, h⟩ := h; exact ⟨b, e, h.fr g id⟩)] 21 19 _ _ _ _ (.int .i64 er) (fun vs w5 => PV W ep er x1 x2 x3 f (vs 20) w5) (by kernel_rfl) rfl rfl rfl rfl rfl rfl rfl (by kernel_rfl) (by kernel_rfl) (fun vs => by simp only [putAll, Act.put, List.setIfInBounds_toArray, List.set_cons_succ, List.set_cons_zero, Nat.zero_add, Nat.reduceAdd]; exact rfl) rfl (by kernel_rfl) ⟨?_, ?_, ?_, ?_, ?_, ?_, ?_, ?_, ?_, ?_, ?_, ?_, ?_, ?_, ?_, ?_, ?_, ?_, ?_, ?_, ?_, trivial⟩ ?_ ?_ ?_ ?_
          · exact StepN.quiet rfl _ rfl (fun vs w2 hf hp => by exact exec_load_ref _ rfl rb rfl ((hf.block rb (lt_of_block HB9.out) id).trans HB9.out) HC9.out)
          · exact StepN.quiet rfl _ rfl (fun vs w2 hf hp => by go_simp)
          · exact StepN.quiet rfl _ rfl (fun vs w2 hf hp => by go_simp)
          · exact StepN.quiet rfl _ rfl (fun vs w2 hf hp => by obtain ⟨g1, g2, -⟩ := hp; have g1 : vs 1 = .slice (some ⟨bs, os, none⟩) n1 k1 := g1; have g2 : vs 2 = .int .i64 k := g2; go_simp)
          · exact StepN.quiet rfl _ rfl (fun vs w2 hf hp => by obtain ⟨g3, -⟩ := hp; have g3 : vs 3 = .pointer (some ⟨bs, os + k * 3, none⟩) := g3; go_simp)
          · exact StepN.quiet rfl _ rfl (fun vs w2 hf hp => by obtain ⟨g4, -⟩ := hp; have g4 : vs 4 = .pointer (some ⟨bs, os + k * 3, none⟩) := g4; have ce3 := cell_fr0 hf e3; go_simp)
          · exact StepN.quiet rfl _ rfl (fun vs w2 hf hp => by go_simp)
          · exact StepN.quiet rfl _ rfl (fun vs w2 hf hp => by go_simp)
          · exact StepN.quiet rfl _ rfl (fun vs w2 hf hp => by obtain ⟨g6, g7, -⟩ := hp; have g6 : vs 6 = .slice (some ⟨bs, os, none⟩) n1 k1 := g6; have g7 : vs 7 = .int .i64 k := g7; go_simp)
          · exact StepN.quiet rfl _ rfl (fun vs w2 hf hp => by obtain ⟨g8, -⟩ := hp; have g8 : vs 8 = .pointer (some ⟨bs, os + k * 3, none⟩) := g8; go_simp)
          · exact StepN.quiet rfl _ rfl (fun vs w2 hf hp => by obtain ⟨g9, -⟩ := hp; have g9 : vs 9 = .pointer (some ⟨bs, os + k * 3 + 1, none⟩) := g9; have ce4 := cell_fr0 hf e4; go_simp)
          · exact StepN.quiet rfl _ rfl (fun vs w2 hf hp => by go_simp)
          · exact StepN.quiet rfl _ rfl (fun vs w2 hf hp => by go_simp)
          · exact StepN.quiet rfl _ rfl (fun vs w2 hf hp => by obtain ⟨g11, g12, -⟩ := hp; have g11 : vs 11 = .slice (some ⟨bs, os, none⟩) n1 k1 := g11; have g12 : vs 12 = .int .i64 k := g12; go_simp)
          · exact StepN.quiet rfl _ rfl (fun vs w2 hf hp => by obtain ⟨g13, -⟩ := hp; have g13 : vs 13 = .pointer (some ⟨bs, os + k * 3, none⟩) := g13; go_simp)
          · exact StepN.quiet rfl _ rfl (fun vs w2 hf hp => by obtain ⟨g14, -⟩ := hp; have g14 : vs 14 = .pointer (some ⟨bs, os + k * 3 + 2, none⟩) := g14; have ce5 := cell_fr0 hf e5; go_simp)
          · refine StepN.call rfl 21 (fun _ => #[.agg cs9, .int .i64 x1, .int .i64 x2, .int .i64 x3]) (fun vs w2 hf hp => by obtain ⟨g0, g5, g10, g15, -⟩ := hp; have g0 : vs 0 = .agg cs9 := g0; have g5 : vs 5 = .int .i64 x1 := g5; have g10 : vs 10 = .int .i64 x2 := g10; have g15 : vs 15 = .int .i64 x3 := g15; go_simp) (fun vs w2 hf hp => ?_)
            obtain ⟨g0, g5, g10, g15, -⟩ := hp; have g0 : vs 0 = .agg cs9 := g0; have g5 : vs 5 = .int .i64 x1 := g5; have g10 : vs 10 = .int .i64 x2 := g10; have g15 : vs 15 = .int .i64 x3 := g15
            refine (HMV2.out w2 hf).mono ?_
            rintro e w3 ⟨⟨cs', e', f', rfl, hc', hi'⟩, hf3⟩
            rw [HER.out] at hi' ⊢
            exact ⟨_, rfl, ⟨cs', e', f', rfl, hc', hi'⟩, hf3, by intro h; cases h⟩
          · refine StepN.run rfl (fun vs w2 hf hp => ?_)
            obtain ⟨g16, -⟩ := hp; obtain ⟨cs', e', f', g16, hc', hi'⟩ := g16
            exact ⟨.tuple #[.agg cs', .int .i64 er], w2, by go_simp, ⟨cs', e', f', rfl, hc', hi'⟩, Fr.refl _ _, by intro h; cases h⟩
          · refine StepN.run rfl (fun vs w2 hf hp => ?_)
            obtain ⟨g17, -⟩ := hp; obtain ⟨cs', e', f', g17, hc', hi'⟩ := g17
            exact ⟨.agg cs', w2, by go_simp, ⟨cs', e', f', rfl, hc', hi'⟩, Fr.refl _ _, by intro h; cases h⟩
          · refine StepN.run rfl (fun vs w2 hf hp => ?_)
            obtain ⟨g17, -⟩ := hp; obtain ⟨cs', e', f', g17, hc', hi'⟩ := g17
            exact ⟨.int .i64 er, w2, by go_simp, rfl, Fr.refl _ _, by intro h; cases h⟩
          · refine StepN.run rfl (fun vs w2 hf hp => ?_)
            exact ⟨_, _, exec_alloc_ref rfl, ⟨_, rfl, RB.made rc_zeroRef w2⟩, Fr.alloc _ _ _, fun _ b hb => by cases hb; simp⟩
          · intro vs w2 hfw he w'
            obtain ⟨cs', e', f', g17, hc', hi'⟩ := (he 17 (by decide) (by decide)).1
            have g17 : vs 17 = .tuple #[.agg cs', .int .i64 er] := g17
            go_simp
          · intro vs w2 v h
            exact h
          · intro vs w2 hfw he
            obtain ⟨cs3, e3', f3, g18, hc3, hi3⟩ := (he 18 (by decide) (by decide)).1
            have g18 : vs 18 = .agg cs3 := g18
            obtain ⟨nb2, g20, hr20⟩ := (he 20 (by decide) (by decide)).1
            have g20 : vs 20 = .pointer (some ⟨nb2, 0, none⟩) := g20
            obtain ⟨hb20, -⟩ := (he 20 (by decide) (by decide)).2 rfl nb2 (by rw [g20]; rfl)
            refine wp_store_ref _ _ rfl nb2 g20 g18 hr20 hc3 ?_
            intro w5 hR5 hF5
            exact ⟨rfl, nb2, e3', f3, g20, hb20, hR5, ((hfw.mono (S' := fun k => k = nb2) (fun _ _ h => h.elim)).trans hF5 (fun _ _ h => h)).fresh (fun k hk => by omega), hi3⟩
          · intro vs w5 hP g19
            obtain ⟨nb2, e3', f3, g20, hb20, hR5, hf5, hi3⟩ := hP
            have HB20 := hide hb20
            have HI3 := hide hi3
            clear hb20 hi3
            refine run_val (.int .i64 er) (by go_simp) ?_
            rw [g20]
            have hm5 := HMk.out.fr0 (HFW.out.trans hf5 (fun _ _ h => h))
            have hn5 := HMW.out.fr0 hf5
            have HM5 := hide hm5
            have HN5 := hide hn5
            have HR5 := hide (show RB w5 rb ep f from HBk.out.fr (HFW.out.trans hf5 (fun _ _ h => h)) id)
            have HV5 := hide hR5
            have HF5 := hide (HFk.out.trans (HFW.out.trans hf5 (fun _ _ h => h)) (fun _ _ h => h))
            have hnn : nb2 ≠ rb ∧ nb2 ≠ mb ∧ nb2 ≠ nb := ⟨fun e => by have := lt_of_block HB9.out; have := HB20.out; omega, fun e => by have := HMk.out.lt; have := HFW.out.size; have := HB20.out; omega, fun e => by have := HMW.out.lt; have := HB20.out; omega⟩
            have hee : (er != er) = false := by simp
            have n0 := hn5.c0
            have n1' := hn5.c1
            have m0 := hm5.c0
            have m1 := hm5.c1
            have m2 : w5.frozen? ⟨mb, 0, none⟩ = false := free_of_block hm5.1
            have m3 : w5.frozen? ⟨mb, 1, none⟩ = false := free_of_block hm5.1
            clear g19 g20 hR5 hf5 hm5 hn5 e3 e4 e5 b0
            by_cases her0 : er = 0
            case' pos =>
              subst her0
              go_upto_region 20 with fail
              obtain ⟨w6, hw6⟩ : ∃ w6, (w5.setCell ⟨mb, 0, none⟩ (.int .i64 ep2)).setCell ⟨mb, 1, none⟩ (.slice a2 n2' c2) = w6 := ⟨_, rfl⟩
              rw [hw6]
              obtain ⟨s1, s2⟩ := MV.stored HM5.out.1 HN5.out.2 ep2
              rw [hw6] at s1 s2
              have HS1 := hide s1
              have HV6 := hide (HV5.out.fr s2 (by omega))
              have HR6 := hide (HR5.out.fr s2 (by omega))
              have HF6 := hide (((HF5.out.mono (S' := fun k => k = mb) (fun _ _ h => h.elim)).trans s2 (fun _ _ h => h)).fresh (fun k hk => by have := HW.out; omega))
              clear s1 s2 hw6 n0 n1' m0 m1 m2 m3
              go_upto_region 21 with (first
                | (refine wpList_load_ref rfl _ rfl nb2 rfl e3' f3 HV6.out ?_; intro c4 hc4)
                | (refine wpList_store_ref rfl _ _ rfl rb c4 rfl rfl e3' ep f3 f HR6.out hc4 ?_; intro W6 hR7 hF7))
              have PK : ∃ ep6 a6 n6 c6 l6 f6, MV W6 mb ep6 a6 n6 c6 l6 ∧ rightM ep6 l6 = true ∧ RB W6 rb ep6 f6 ∧ OW l6 f6 ∧ (∀ b, a6 = some b → b.block ≠ rb) ∧ Fr (fun _ => False) w W6 := by
                obtain ⟨q1, q2, q3, q4, q5⟩ := HQ3.out rfl
                obtain ⟨p1, p2⟩ := HI3.out rfl
                rw [q1] at q3 HS1
                rw [q2] at q3 HS1
                rw [p1, p2] at hR7
                exact ⟨_, _, _, _, _, _, HS1.out.frB hF7 (by omega) HNW.out, q3, hR7, ow_move HRk.out HOk.out x1 x2 x3 ⟨q4, q5⟩, HNW.out, ((HF6.out.mono (S' := fun k => k = rb) (fun _ _ h => h.elim)).trans hF7 (fun _ _ h => h)).fresh (fun k hk => by have := HW.out; omega)⟩
              clear hF7 hR7
            case' neg =>
              have her1 : (er == 0) = false := by simp [her0]
              go_upto_region 21 with fail
              have PK : ∃ ep6 a6 n6 c6 l6 f6, MV w5 mb ep6 a6 n6 c6 l6 ∧ rightM ep6 l6 = true ∧ RB w5 rb ep6 f6 ∧ OW l6 f6 ∧ (∀ b, a6 = some b → b.block ≠ rb) ∧ Fr (fun _ => False) w w5 :=
                ⟨_, _, _, _, _, _, HM5.out, HRk.out, HR5.out, HOk.out, HNk.out, HF5.out⟩
              obtain ⟨W6, hW6⟩ : ∃ W6, w5 = W6 := ⟨_, rfl⟩
              rw [hW6] at PK ⊢
              clear hW6 n0 n1' m0 m1 m2 m3
            all_goals
              obtain ⟨ep6, a6, n6, c6, l6, f6, hm6, hr6, hb6, ho6, hne6, hf6⟩ := PK
              have HM6 := hide hm6
              have HR6 := hide hr6
              have HB6 := hide hb6
              have HO6 := hide ho6
              have HNE6 := hide hne6
              have HF6 := hide hf6
              have p0 := hm6.c0
              have p1 := hm6.c1
              clear hm6 hr6 hb6 ho6 hne6 hf6
              go_wp2_with fail
              refine (save_any W6 ep6 a6 n6 c6 l6 HM6.out.2).mono ?_
              rintro e w7 ⟨v7, rfl, ho7, hf7⟩
              have hr7 := Reads.of_own ho7
              clear ho7 p0 p1
              go_wp2_with fail
              refine (loadSaved w7 v7 ep6 l6 HR6.out hr7).mono ?_
              rintro e w8 ⟨a8, n8, c8, rfl, hd8, hf8⟩
              have hf68 := hf7.trans hf8 (fun _ _ h => h)
              have HM8 := hide (HM6.out.fr0 hf68)
              have HB8 := hide (HB6.out.fr hf68 id)
              have HF8 := hide (HF6.out.trans hf68 (fun _ _ h => h))
              have HD8 := hide hd8
              clear hr7 hf7 hf8 hf68 hd8
              go_upto_region 22 with fail
              have m9 := MV.made ep6 HD8.out
              have hf9 : Fr (fun _ => False) w8 _ := Fr.alloc (fun _ => False) w8 (.cells #[.int .i64 ep6, .slice a8 n8 c8] 25)
              obtain ⟨w9, hw9⟩ : ∃ w9, w8.alloc (.cells #[.int .i64 ep6, .slice a8 n8 c8] 25) = w9 := ⟨_, rfl⟩
              obtain ⟨kb, hkb⟩ : ∃ kb, w8.heap.size = kb := ⟨_, rfl⟩
              rw [hw9] at m9 hf9 ⊢
              rw [hkb] at m9 ⊢
              have HM9 := hide (HM8.out.fr0 hf9)
              have HB9b := hide (HB8.out.fr hf9 id)
              have HF9 := hide (HF8.out.trans hf9 (fun _ _ h => h))
              have HK9 := hide m9
              clear m9 hf9 hw9 hkb
              have hm9 := HM9.out
              have hk9 := HK9.out
              have p0 := hm9.c0
              have p1 := hm9.c1
              have q0 := hk9.c0
              have q1 := hk9.c1
              obtain ⟨csb, hbb, hcb⟩ := HB9b.out
              have HBB := hide hbb
              have HCB := hide hcb
              clear hm9 hk9 hbb hcb
              go_wp2_with (refine wpList_load_ref_on (by rfl) _ rfl rb rfl HBB.out HCB.out ?_)
              refine (sameT w9 ep6 a6 n6 c6 l6 HM9.out.2 HR6.out csb f6 HCB.out HO6.out).mono ?_
              rintro e w10 ⟨rfl, hf10⟩
              have hm10 := HM9.out.fr0 hf10
              have hk10 := HK9.out.fr0 hf10
              have hbb10 := (hf10.block rb (lt_of_block HBB.out) id).trans HBB.out
              have HF10 := hide (HF9.out.trans hf10 (fun _ _ h => h))
              have HM10 := hide hm10
              have HK10 := hide hk10
              have HBB10 := hide hbb10
              clear p0 p1 q0 q1
              have p0 := hm10.c0
              have p1 := hm10.c1
              have q0 := hk10.c0
              have q1 := hk10.c1
              clear hm10 hk10 hbb10 hf10
              go_wp2_with (refine wpList_load_ref_on (by rfl) _ rfl rb rfl HBB10.out HCB.out ?_)
              refine (sameT w10 ep6 a8 n8 c8 l6 HK10.out.2 HR6.out csb f6 HCB.out HO6.out).mono ?_
              rintro e w11 ⟨rfl, hf11⟩
              go_wp2_with fail
              go_roundw
              case rel =>
                exact ⟨k + 1, by go_num, by omega, by omega, ep6, a6, n6, c6, l6, f6, HM10.out.fr0 hf11, HR6.out, RB.fr ⟨csb, HBB10.out, HCB.out⟩ hf11 id, HO6.out, HNE6.out, HF10.out.trans hf11 (fun _ _ h => h)⟩
              case measure => simp [intOf]; omega
        --DEV>
      · have hcc : ((k : Int) < (n1 : Int) ∧ ¬ (k : Int) < 20) ∨ ¬ (k : Int) < (n1 : Int) := by omega
        clear hlt m0 m1
        rcases hcc with ⟨ik1, ik2⟩ | ik1
        all_goals
          go_wp2_with fail
          go_meet
          case rel => exact HSk.out
    case rest =>
      obtain ⟨w7, rfl⟩ : ∃ w7, w7 = wc := ⟨_, rfl⟩
      have HS7 := hcut
      clear hcut HS
      go_upto_if 148 with fail
      go_cut [3] from 146 to 150 (fun v wx => wx = w7 ∧ ∃ (n8 : Nat) (ops8 : List O4), v = .slice s2 n8 k2 ∧ Hid (Reads w (.slice s2 n8 k2) n8 4 (rowO ops8)) ∧ n8 ≤ 10 ∧ Hid (ops8.length = n8) ∧ Hid (∀ x ∈ ops8, x.2.1.size ≤ maxLen))
      case first =>
        by_cases h8 : 10 < n2
        · have i8 : (10 : Int) < (n2 : Int) := by omega
          have i9 : 10 ≤ k2 := by omega
          go_wp2_with fail
          go_meet
          case rel => exact ⟨rfl, 10, l2.take 10, rfl, (by have := reads_pre HR2.out (show 10 ≤ n2 by omega); rw [rowO_take] at this; exact this), by omega, (by have := HN2.out; show (l2.take 10).length = 10; rw [List.length_take, this]; omega), fun x hx => HG2.out x (List.mem_of_mem_take hx)⟩
        · have i8 : ¬ (10 : Int) < (n2 : Int) := by omega
          go_wp2_with fail
          go_meet
          case rel => exact ⟨rfl, n2, l2, rfl, HR2.out, by omega, HN2.out, HG2.out⟩
      case rest =>
        obtain ⟨hwc, n8, ops8, rfl, HOPS0, hle8, HN8, HSZ8⟩ := hcut
        obtain ⟨w9, hw9⟩ : ∃ w9, w7 = w9 := ⟨_, rfl⟩
        rw [hw9] at hwc HS7
        rw [hwc]
        clear hwc hw9
        obtain ⟨ep, a, n, c, l, f, hmk, hrk, hbk, hok, hnk, hfk⟩ := HS7.out
        have HMk := hide hmk
        have HRk := hide hrk
        have HOk := hide hok
        have HFk := hide hfk
        have hro : ∀ wx, Fr (fun _ => False) w9 wx → Reads wx (.slice s2 n8 k2) n8 4 (rowO ops8) := fun wx hf => reads_old HOPS0.out (HFk.out.trans hf (fun _ _ h => h)) (fun _ _ => id)
        obtain ⟨csb, hbb, hcb⟩ := hbk
        have HOPS := hide hro
        have HBB6 := hide hbb
        have HCB := hide hcb
        clear hro hbb hcb hmk hrk hok hnk hfk
        go_upto_region 27 with fail
        go_loopw [20] (fun i wx => ∃ i' : Nat, i = .int .i64 i' ∧ i' ≤ n8 ∧ Hid (Fr (fun _ => False) w9 wx)) (fun i _ => n8 - (intOf i).toNat)
        case atStart => exact ⟨0, rfl, Nat.zero_le _, Fr.refl _ _⟩
        case round =>
          obtain ⟨i', rfl, hi', HFi⟩ := hrel
          have hmi := HMk.out.fr0 HFi.out
          have m0 := hmi.c0
          have m1 := hmi.c1
          have HMi := hide hmi
          clear hmi
          by_cases hil : i' < n8
          · have ii1 : (i' : Int) < (n8 : Int) := by omega
            have ii0 : (0 : Int) ≤ (i' : Int) := by omega
            obtain ⟨x, hx⟩ : ∃ x, ops8[i']? = some x := ⟨_, List.getElem?_eq_getElem (by have := HN8.out; omega)⟩
            have hxs := HSZ8.out x (List.mem_of_getElem? hx)
            obtain ⟨bo, oo, rfl, hlo, hco⟩ := row_cells oc_len (HOPS.out w9 (Fr.refl _ _)) hx (by decide)
            obtain ⟨G, hG⟩ : ∃ G, ownF l (hashF x.2.1) = G := ⟨_, rfl⟩
            have hfG : f (hashF x.2.1) = G := by
              obtain ⟨h0, h1⟩ := hashF_lt x.2.1
              rw [HOk.out _ h0 h1, hG]
            have hown : ∀ wx, Fr (fun _ => False) wr wx → Calls Try.prog 12 #[.agg #[.int .i64 ep, .slice a n c], .string x.2.1] wx fun e w' => e = .returned (.tuple #[.int .i64 G, .bool true]) ∧ Fr (fun _ => False) wx w' := fun wx hf => by
              have := ownerM wx ep a n c l (HMi.out.fr0 hf).2 HRk.out x.2.1 hxs
              rwa [hG] at this
            have hrown : ∀ wx, Calls Try.prog 23 #[.agg csb, .string x.2.1] wx fun e w' => e = .returned (.int .i64 G) ∧ Fr (fun _ => False) wx w' := fun wx => by
              have := refOwner_any wx csb ep f HCB.out x.2.1 hxs
              rwa [hfG] at this
            have hcc2 : ∀ wx, Fr (fun _ => False) wr wx → wx.cell? ⟨mb, 0, none⟩ = some (.int .i64 ep) ∧ wx.cell? ⟨mb, 1, none⟩ = some (.slice a n c) ∧ wx.cell? ⟨bo, oo + i' * 4 + 1, none⟩ = some (.string x.2.1) := fun wx hf =>
              ⟨(HMi.out.fr0 hf).c0, (HMi.out.fr0 hf).c1, hco 1 (.string x.2.1) rfl wx ((HFi.out.trans hf (fun _ _ h => h)).block bo hlo id)⟩
            obtain ⟨-, -, t5⟩ := hcc2 wr (Fr.refl _ _)
            generalize x.2.1 = str at *
            have HCC2 := hide hcc2
            have HOW := hide hown
            have HRO := hide hrown
            have FR0 := hide ((Fr.refl (fun _ => False) wr).drew)
            clear hx hxs hco hG hfG hown hrown hcc2
            go_wp2_with fail
            go_region_held3 (fun w' => w'.cell? ⟨mb, 0, none⟩ = some (.int .i64 ep) ∧ w'.cell? ⟨mb, 1, none⟩ = some (.slice a n c) ∧ w'.cell? ⟨bo, oo + i' * 4 + 1, none⟩ = some (.string str)) (go_keep)
              ((go_at_call 12; with_reducible refine (HOW.out _ FR0.out).mono ?_; rintro e y1 ⟨rfl, hfy⟩; have hfz := FR0.out.trans hfy (fun _ _ h => h); obtain ⟨p0, p1, p2⟩ := HCC2.out y1 hfz; have T1 := hide hfz; clear hfy hfz))
            all_goals
              have HBB := hide (((HFi.out.trans T1.out (fun _ _ h => h)).block rb (lt_of_block HBB6.out) id).trans HBB6.out)
              have t5 := p2
              go_upto_region 30 with fail
              refine wp_region_news [Lft.is (.bool true), Lft.is (.bool false), Lft.is (.bool false), Lft.is (.int .i64 G), Lft.is (.agg csb), Lft.is (.slice (some ⟨bo, oo, none⟩) n8 k2), Lft.is (.int .i64 i'), Lft.is (.pointer (some ⟨bo, oo + i' * 4, none⟩)), Lft.is (.pointer (some ⟨bo, oo + i' * 4 + 1, none⟩)), Lft.is (.string str), Lft.is (.int .i64 G), Lft.is (.bool false), Lft.is (.bool false)] _ (by kernel_rfl) (by kernel_rfl) (fun vs => by simp only [putAll, Act.put, List.setIfInBounds_toArray, List.set_cons_succ, List.set_cons_zero, Nat.zero_add, Nat.reduceAdd]; exact rfl) ⟨?_, ?_, ?_, ?_, ?_, ?_, ?_, ?_, ?_, ?_, ?_, ?_, ?_, trivial⟩ ?_
              · exact StepN.quiet rfl _ rfl (fun vs w2 hf hp => by go_simp)
              · exact StepN.quiet rfl _ rfl (fun vs w2 hf hp => by obtain ⟨g0, -⟩ := hp; have g0 : vs 0 = .bool true := g0; go_simp)
              · exact StepN.quiet rfl _ rfl (fun vs w2 hf hp => by obtain ⟨g1, -⟩ := hp; have g1 : vs 1 = .bool false := g1; go_simp)
              · exact StepN.on (fun vs w2 hf hp => by obtain ⟨g2, -⟩ := hp; have g2 : vs 2 = .bool false := g2; exact ⟨by simp [Region.wanted, yielded, g2], .int .i64 G, w2, by clear g2; go_simp, rfl, Fr.refl _ _, by intro h; cases h⟩)
              · exact StepN.on (fun vs w2 hf hp => by obtain ⟨g2, -⟩ := hp; have g2 : vs 2 = .bool false := g2; exact ⟨by simp [Region.wanted, yielded, g2], .agg csb, w2, by clear g2; exact exec_load_ref _ rfl rb rfl ((hf.block rb (lt_of_block HBB.out) id).trans HBB.out) HCB.out, rfl, Fr.refl _ _, by intro h; cases h⟩)
              · exact StepN.on (fun vs w2 hf hp => by obtain ⟨g2, -⟩ := hp; have g2 : vs 2 = .bool false := g2; exact ⟨by simp [Region.wanted, yielded, g2], .slice (some ⟨bo, oo, none⟩) n8 k2, w2, by clear g2; go_simp, rfl, Fr.refl _ _, by intro h; cases h⟩)
              · exact StepN.on (fun vs w2 hf hp => by obtain ⟨g2, -⟩ := hp; have g2 : vs 2 = .bool false := g2; exact ⟨by simp [Region.wanted, yielded, g2], .int .i64 i', w2, by clear g2; go_simp, rfl, Fr.refl _ _, by intro h; cases h⟩)
              · exact StepN.on (fun vs w2 hf hp => by obtain ⟨g5, g6, g2, -⟩ := hp; have g5 : vs 5 = .slice (some ⟨bo, oo, none⟩) n8 k2 := g5; have g6 : vs 6 = .int .i64 i' := g6; have g2 : vs 2 = .bool false := g2; exact ⟨by simp [Region.wanted, yielded, g2], .pointer (some ⟨bo, oo + i' * 4, none⟩), w2, by clear g2; go_simp, rfl, Fr.refl _ _, by intro h; cases h⟩)
              · exact StepN.on (fun vs w2 hf hp => by obtain ⟨g7, g2, -⟩ := hp; have g7 : vs 7 = .pointer (some ⟨bo, oo + i' * 4, none⟩) := g7; have g2 : vs 2 = .bool false := g2; exact ⟨by simp [Region.wanted, yielded, g2], .pointer (some ⟨bo, oo + i' * 4 + 1, none⟩), w2, by clear g2; go_simp, rfl, Fr.refl _ _, by intro h; cases h⟩)
              · exact StepN.on (fun vs w2 hf hp => by obtain ⟨g8, g2, -⟩ := hp; have g8 : vs 8 = .pointer (some ⟨bo, oo + i' * 4 + 1, none⟩) := g8; have g2 : vs 2 = .bool false := g2; have ct5 := cell_fr0 hf t5; exact ⟨by simp [Region.wanted, yielded, g2], .string str, w2, by clear g2; go_simp, rfl, Fr.refl _ _, by intro h; cases h⟩)
              · refine StepN.onCall 23 (fun _ => #[.agg csb, .string str]) (fun vs w2 hf hp => ?_)
                obtain ⟨g4, g9, -, g2, -⟩ := hp; have g4 : vs 4 = .agg csb := g4; have g9 : vs 9 = .string str := g9; have g2 : vs 2 = .bool false := g2
                refine ⟨by simp [Region.wanted, yielded, g2], by clear g2; go_simp, ?_⟩
                refine (HRO.out w2).mono ?_
                rintro e w3 ⟨rfl, hf3⟩
                exact ⟨_, rfl, rfl, hf3, by intro h; cases h⟩
              · exact StepN.on (fun vs w2 hf hp => by obtain ⟨g3, g10, g2, -⟩ := hp; have g3 : vs 3 = .int .i64 G := g3; have g10 : vs 10 = .int .i64 G := g10; have g2 : vs 2 = .bool false := g2; exact ⟨by simp [Region.wanted, yielded, g2], .bool false, w2, by clear g2; go_simp, rfl, Fr.refl _ _, by intro h; cases h⟩)
              · exact StepN.quiet rfl _ rfl (fun vs w2 hf hp => by obtain ⟨g2, g11, -⟩ := hp; have g2 : vs 2 = .bool false := g2; have g11 : vs 11 = .bool false := g11; go_simp)
              · intro vs w2 hf he _
                have HFx := hide ((HFi.out.trans T1.out (fun _ _ h => h)).trans hf (fun _ _ h => h))
                have h12 : vs 12 = .bool false := (he.get 12 (by decide)).1
                clear he hf
                rw [h12]
                go_wp2_with fail
                go_roundw
                case rel => exact ⟨i' + 1, by go_num, by omega, HFx.out⟩
                case measure => simp [intOf]; omega
          · have hie : n8 = i' := by omega
            subst hie
            have ii1 : ¬ (n8 : Int) < (n8 : Int) := by omega
            have hspl := split_any wr ep a n c l HMi.out.2 HRk.out s2 n8 k2 ops8 (HOPS.out wr HFi.out) HN8.out (by omega) HSZ8.out
            obtain ⟨S, hS⟩ : ∃ S, splitG (ownAt l ops8) n8 3 = S := ⟨_, rfl⟩
            have hS3 := splitG_len (ownAt l ops8) n8 3
            have HML := hide (show ∀ x ∈ S, x.2.length ≤ n8 from fun x hx => by rw [← hS] at hx; exact mem_len 3 hx)
            have hrs : ∀ wx, Fr (fun _ => False) wr wx → Calls Try.prog 24 #[.agg csb, .slice s2 n8 k2] wx fun e w' => ∃ vg va vs, e = .returned (.tuple #[vg, va]) ∧ SP w' wx.heap.size vg va S vs ∧ Fr (fun _ => False) wx w' := fun wx hf => by
              have := refSplit_any wx csb ep f HCB.out s2 n8 k2 ops8 (HOPS.out wx (HFi.out.trans hf (fun _ _ h => h))) HN8.out (by omega) HSZ8.out
              rw [splitG_congr n8 (ow_at HOk.out ops8 n8 HN8.out) 3, hS] at this
              exact this
            rw [hS] at hspl hS3
            have HSPL := hide hspl
            have HRS := hide hrs
            clear hspl hrs hS
            go_wp2_with fail
            refine HSPL.out.mono ?_
            rintro e w7 ⟨vg, va, vs, rfl, hsp, hf7⟩
            obtain ⟨Ln, hLn⟩ : ∃ Ln, S.length = Ln := ⟨_, rfl⟩
            have HSP := hide hsp
            have HBB7 := hide ((hf7.block rb (by have := lt_of_block HBB6.out; have := HFi.out.size; omega) id).trans ((HFi.out.block rb (lt_of_block HBB6.out) id).trans HBB6.out))
            have HF7 := hide hf7
            have HLn := hide hLn
            clear hsp hf7 m0 m1
            go_wp2_with (refine wpList_load_ref_on (by rfl) _ rfl rb rfl HBB7.out HCB.out ?_)
            refine (HRS.out w7 HF7.out).mono ?_
            rintro e w8 ⟨vg2, va2, vs2, rfl, hsp2, hf8⟩
            have hsp := HSP.out.fr hf8 (fun _ _ => id)
            have hgo := hsp.g
            have hao := hsp.a
            have hvl := hsp.len
            have hgo2 := hsp2.g
            have hao2 := hsp2.a
            have hvl2 := hsp2.len
            rw [hLn] at hgo hao hvl hgo2 hao2 hvl2 hS3
            obtain ⟨ag, cg, rfl⟩ := own_shape hgo
            obtain ⟨aa, ca, rfl⟩ := own_shape hao
            obtain ⟨ag2, cg2, rfl⟩ := own_shape hgo2
            obtain ⟨aa2, ca2, rfl⟩ := own_shape hao2
            have hsg := same_any w8 (.slice ag Ln cg) (.slice ag2 Ln cg2) (S.map (·.1)) (S.map (·.1)) (by have := Reads.of_own hgo; rw [List.length_map, List.map_map, hLn]; exact this) (by have := Reads.of_own hgo2; rw [List.length_map, List.map_map, hLn]; exact this) (by rw [List.length_map]; omega)
            rw [show decide (S.map (·.1) = S.map (·.1)) = true from by simp] at hsg
            have HSG := hide hsg
            have HAO := hide (Reads.of_own hao)
            have HAO2 := hide (Reads.of_own hao2)
            have HSP8 := hide hsp
            have HSP28 := hide hsp2
            have HVL := hide hvl
            have HVL2 := hide hvl2
            have HF8 := hide (HFi.out.trans (HF7.out.trans hf8 (fun _ _ h => h)) (fun _ _ h => h))
            have hll : ((Ln : Int) != (Ln : Int)) = false := by simp
            clear hsp hgo hao hvl hgo2 hao2 hvl2 hsp2 hf8 hsg
            go_wp2_with fail
            refine HSG.out.mono ?_
            rintro e w9 ⟨rfl, m9, rfl⟩
            go_upto_region 37 with fail
            go_loopw [27] (fun i wx => ∃ j : Nat, i = .int .i64 j ∧ j ≤ Ln ∧ Hid (Fr (fun _ => False) w8 wx)) (fun i _ => Ln - (intOf i).toNat)
            case atStart => exact ⟨0, rfl, Nat.zero_le _, (Fr.refl _ _).drewN m9⟩
            case round =>
              obtain ⟨j, rfl, hj, HFj⟩ := hrel
              by_cases hjl : j < Ln
              · have ij1 : (j : Int) < (Ln : Int) := by omega
                have ij0 : (0 : Int) ≤ (j : Int) := by omega
                obtain ⟨x, hx⟩ : ∃ x, S[j]? = some x := ⟨_, List.getElem?_eq_getElem (by have := HLn.out; omega)⟩
                obtain ⟨v, hv⟩ : ∃ v, vs[j]? = some v := ⟨_, List.getElem?_eq_getElem (by have := HVL.out; omega)⟩
                obtain ⟨v', hv'⟩ : ∃ v, vs2[j]? = some v := ⟨_, List.getElem?_eq_getElem (by have := HVL2.out; omega)⟩
                obtain ⟨hrd, _⟩ := HSP8.out.rd j x v hx hv
                obtain ⟨hrd', _⟩ := HSP28.out.rd j x v' hx hv'
                obtain ⟨-, aa1, ca1, ea, -, -, hca⟩ := id HAO.out
                cases ea
                obtain ⟨ba, oa, rfl, hac⟩ := hca j _ hv
                obtain ⟨-, aa3, ca3, ea3, -, -, hca3⟩ := id HAO2.out
                cases ea3
                obtain ⟨ba2, oa2, rfl, hac2⟩ := hca3 j _ hv'
                have hba := World.block_lt_of_cell? w8 _ hac
                have hba2 := World.block_lt_of_cell? w8 _ hac2
                have hxl : x.2.length ≤ 9223372036854775807 := by
                  have := HML.out x (List.mem_of_getElem? hx)
                  omega
                have hsm : ∀ wx, Fr (fun _ => False) wr wx → Calls Try.prog 25 #[v, v'] wx fun e w' => e = .returned (.bool true) ∧ Fr (fun _ => False) wx w' := fun wx hf => by
                  have hf9 := HFj.out.trans hf (fun _ _ h => h)
                  refine (same_any wx v v' x.2 x.2 (reads_old hrd hf9 (fun _ _ => id)) (reads_old hrd' hf9 (fun _ _ => id)) hxl).mono ?_
                  rintro e w' ⟨rfl, m, rfl⟩
                  exact ⟨by simp, (Fr.refl _ _).drewN m⟩
                have hcc : ∀ wx, Fr (fun _ => False) wr wx → wx.cell? ⟨ba, oa + j, none⟩ = some v ∧ wx.cell? ⟨ba2, oa2 + j, none⟩ = some v' := fun wx hf => by
                  have hf9 := HFj.out.trans hf (fun _ _ h => h)
                  exact ⟨by rw [World.cell?_of_block (w := w8) (hf9.block ba hba id)]; exact hac, by rw [World.cell?_of_block (w := w8) (hf9.block ba2 hba2 id)]; exact hac2⟩
                obtain ⟨-, av, cv, rfl, -, -, -⟩ := id hrd
                obtain ⟨-, av', cv', rfl, -, -, -⟩ := id hrd'
                obtain ⟨u0, u1⟩ := hcc wr (Fr.refl _ _)
                generalize x.2.length = Lx at *
                have HCC := hide hcc
                have HSM := hide hsm
                have FR0 := hide ((Fr.refl (fun _ => False) wr).drew)
                clear hx hv hv' hrd hrd' hca hca3 hac hac2 hxl hsm hcc
                go_wp2_with fail
                go_region_held3 (fun w' => w'.cell? ⟨ba, oa + j, none⟩ = some (.slice av Lx cv) ∧ w'.cell? ⟨ba2, oa2 + j, none⟩ = some (.slice av' Lx cv')) (go_keep)
                  ((go_at_call 25; with_reducible refine (HSM.out _ FR0.out).mono ?_; rintro e y1 ⟨rfl, hfy⟩; have hfz := FR0.out.trans hfy (fun _ _ h => h); obtain ⟨p0, p1⟩ := HCC.out y1 hfz; have T1 := hide hfz; clear hfy hfz))
                all_goals
                  go_wp2_with fail
                  go_roundw
                  case rel => exact ⟨j + 1, by go_num, by omega, HFj.out.trans T1.out (fun _ _ h => h)⟩
                  case measure => simp [intOf]; omega
              · have hje : Ln = j := by omega
                subst hje
                have ij1 : ¬ (Ln : Int) < (Ln : Int) := by omega
                go_wp2_with fail
                refine (known_any _).mono ?_
                rintro e wk ⟨rfl, hfk⟩
                go_wp2_with fail
                go_ret
                exact ⟨rfl, ((((HFk.out.trans HF8.out (fun _ _ h => h)).trans HFj.out (fun _ _ h => h)).trans hfk (fun _ _ h => h))).toBelow (Nat.le_refl _) (fun j hj h => h.elim)⟩
end Go.Proofs.Ytkaibekeokkpnaa.RangesPlays
