/- LogPlays's walk. -/
import Derived.Test.YtpjdepepgfimeaaRefLog3
import Derived.Test.YtpjdepepgfimeaaKnownLog
import Derived.Test.YtpjdepepgfimeaaTexts
import Derived.Test.YtpjdepepgfimeaaSameInt
import Derived.Test.YtpjdepepgfimeaaRows2
namespace Go.Proofs.Ytpjdepepgfimeaa.LogPlays
open Go.RowKit Go.Maps Go.Cv
set_option linter.unusedVariables false

/-- One call: kind, number, text. -/
abbrev Ask3 := Int × Int × ByteArray
abbrev cellsAsk (a : Ask3) : List Value := [.int .i64 a.1, .int .i64 a.2.1, .string a.2.2]

/-- What holds of a log's parts. -/
structure LI (f : Int → Option ByteArray) (base taken : Int) : Prop where
  b0 : 0 ≤ base
  bt : base ≤ taken
  t5 : taken ≤ 512
  out : ∀ t, t < base ∨ 512 ≤ t → f t = none
  inn : ∀ t, base ≤ t → t < taken → ∃ u, f t = some u
theorem LI.next {f : Int → Option ByteArray} {base taken : Int} (h : LI f base taken) : ∃ R : Nat, IsNext f base (taken + R) ∧ taken + R ≤ 512 := by
  have key : ∀ m : Nat, (∀ s, base ≤ s → s < taken + m → ∃ u, f s = some u) ∨ ∃ R : Nat, R < m ∧ IsNext f base (taken + R) := by
    intro m
    induction m with
    | zero => left; intro s h1 h2; exact h.inn s h1 (by omega)
    | succ m ih =>
      rcases ih with ih | ⟨R, h1, h2⟩
      · cases e : f (taken + m) with
        | none => right; exact ⟨m, by omega, by have := h.bt; omega, ih, e⟩
        | some u =>
          left; intro s h1 h2
          by_cases h3 : s < taken + m
          · exact ih s h1 h3
          · exact ⟨u, by rw [← e]; congr 1; omega⟩
      · right; exact ⟨R, by omega, h2⟩
  have t5 := h.t5
  have bt := h.bt
  rcases key ((512 - taken).toNat + 1) with h1 | ⟨R, h1, h2⟩
  · obtain ⟨u, hu⟩ := h1 512 (by omega) (by omega)
    rw [h.out 512 (by omega)] at hu; cases hu
  · exact ⟨R, h2, by omega⟩
theorem Lg.mono {w : World} {lb bm n : Nat} {f : Int → Option ByteArray} {base taken : Int} (h : Lg w lb bm n f base taken) : Lg w lb bm (n + 1) f base taken := ⟨h.blk, h.map.mono (Nat.le_succ _), h.ne⟩

def POp (fn : FuncId) (xs : List Value) (q : Int) (lb bm n : Nat) (f f' : Int → Option ByteArray) (base base' taken taken' : Int) : Prop :=
  ∀ w, Lg w lb bm n f base taken → Calls Try.prog fn (#[.pointer (some ⟨lb, 0, none⟩)] ++ xs.toArray) w fun e w' => e = .returned (.int .i64 q) ∧ Lg w' lb bm (n + 1) f' base' taken' ∧ Fr (fun k => k = lb ∨ k = bm) w w'
def ROp (fn : FuncId) (xs : List Value) (q : Int) (rb : Nat) (f f' : Int → Option ByteArray) (base base' taken taken' : Int) : Prop :=
  ∀ w, RL w rb f base taken → Calls Try.prog fn (#[.pointer (some ⟨rb, 0, none⟩)] ++ xs.toArray) w fun e w' => e = .returned (.int .i64 q) ∧ RL w' rb f' base' taken' ∧ Fr (fun k => k = rb) w w'

theorem learn_step {f : Int → Option ByteArray} {base taken : Int} (I : LI f base taken) (lb bm n rb : Nat) (hn : n < 1000) (s : Int) (v : ByteArray) (hs : -9223372036854775808 ≤ s ∧ s < 9223372036854775808) :
    ∃ q f', LI f' base taken ∧ POp 10 [.int .i64 s, .string v] q lb bm n f f' base base taken taken ∧ ROp 22 [.int .i64 s, .string v] q rb f f' base base taken taken := by
  have b0 := I.b0
  have old : ∀ r : Int, ((s < 0 ∨ 512 ≤ s) ∧ r = 1 ∨ (0 ≤ s ∧ s < 512 ∧ s < base ∧ r = 0) ∨ (0 ≤ s ∧ s < 512 ∧ base ≤ s ∧ ∃ u, f s = some u ∧ ((u = v ∧ r = 0) ∨ (u ≠ v ∧ r = 37)))) →
      ∃ q f', LI f' base taken ∧ POp 10 [.int .i64 s, .string v] q lb bm n f f' base base taken taken ∧ ROp 22 [.int .i64 s, .string v] q rb f f' base base taken taken := by
    intro r hr
    refine ⟨r, f, I, fun w h => (learn_old w lb bm n f base taken h s v r hs.1 hs.2 hr).mono ?_, fun w h => (rLearn_old w rb f base taken h s v r hr).mono ?_⟩
    · rintro e w' ⟨rfl, rfl⟩; exact ⟨rfl, Lg.mono h, Fr.refl _ _⟩
    · rintro e w' ⟨rfl, rfl⟩; exact ⟨rfl, h, Fr.refl _ _⟩
  by_cases h1 : s < 0 ∨ 512 ≤ s
  · exact old 1 (.inl ⟨h1, rfl⟩)
  by_cases h2 : s < base
  · exact old 0 (.inr (.inl ⟨by omega, by omega, h2, rfl⟩))
  cases h3 : f s with
  | some u =>
    by_cases h4 : u = v
    · exact old 0 (.inr (.inr ⟨by omega, by omega, by omega, u, h3, .inl ⟨h4, rfl⟩⟩))
    · exact old 37 (.inr (.inr ⟨by omega, by omega, by omega, u, h3, .inr ⟨h4, rfl⟩⟩))
  | none =>
    refine ⟨0, fput f s v, ⟨I.b0, I.bt, I.t5, fun t ht => ?_, fun t t1 t2 => ?_⟩, fun w h => (learn_new w lb bm n f base taken h (by unfold maxLen; omega) s v (by omega) (by omega) (by omega) h3).mono ?_, fun w h => (rLearn_new w rb f base taken h s v (by omega) (by omega) (by omega) h3).mono ?_⟩
    · unfold fput; rw [if_neg (by omega)]; exact I.out t ht
    · unfold fput
      by_cases e : t = s
      · rw [if_pos e]; exact ⟨v, rfl⟩
      · rw [if_neg e]; exact I.inn t t1 t2
    · rintro e w' ⟨rfl, h5, h6⟩; exact ⟨rfl, h5, h6.mono (fun _ _ h => .inr h)⟩
    · rintro e w' ⟨rfl, h5, h6⟩; exact ⟨rfl, h5, h6⟩

theorem LI.forget {f : Int → Option ByteArray} {base taken : Int} (I : LI f base taken) (k t' : Int) (h0 : base ≤ k) (h1 : k ≤ t') (h2 : t' ≤ 512) (h3 : t' ≤ taken ∨ k = t') : LI (fdel f k) k t' := by
  have := I.b0
  refine ⟨by omega, h1, h2, fun t ht => ?_, fun t t1 t2 => ?_⟩
  · unfold fdel
    by_cases e : t < k
    · rw [if_pos e]
    · rw [if_neg e]; exact I.out t (by omega)
  · unfold fdel
    rw [if_neg (by omega)]
    exact I.inn t (by omega) (by omega)
theorem compact_step {f : Int → Option ByteArray} {base taken : Int} (I : LI f base taken) (lb bm n rb : Nat) (k : Int) :
    ∃ q f' base', LI f' base' taken ∧ POp 15 [.int .i64 k] q lb bm n f f' base base' taken taken ∧ ROp 24 [.int .i64 k] q rb f f' base base' taken taken := by
  have b0 := I.b0
  have t5 := I.t5
  by_cases hk : k < base ∨ taken < k
  · refine ⟨1, f, base, I, fun w h => (compact_no w lb bm n f base taken h k hk).mono ?_, fun w h => (rCompact_no w rb f base taken h k hk).mono ?_⟩
    · rintro e w' ⟨rfl, rfl⟩; exact ⟨rfl, Lg.mono h, Fr.refl _ _⟩
    · rintro e w' ⟨rfl, rfl⟩; exact ⟨rfl, h, Fr.refl _ _⟩
  · refine ⟨0, fdel f k, k, I.forget k taken (by omega) (by omega) t5 (.inl (Int.le_refl _)), fun w h => (compact_yes w lb bm n f base taken h k (by omega) (by omega) (by omega) (by omega)).mono ?_, fun w h => (rCompact_yes w rb f base taken h k (by omega) (by omega) (by omega) (by omega)).mono ?_⟩
    · rintro e w' ⟨rfl, h5, h6⟩; exact ⟨rfl, Lg.mono h5, h6⟩
    · rintro e w' ⟨rfl, h5, h6⟩; exact ⟨rfl, h5, h6⟩
theorem jump_step {f : Int → Option ByteArray} {base taken : Int} (I : LI f base taken) (lb bm n rb : Nat) (k : Int) :
    ∃ q f' base' taken', LI f' base' taken' ∧ POp 20 [.int .i64 k] q lb bm n f f' base base' taken taken' ∧ ROp 25 [.int .i64 k] q rb f f' base base' taken taken' := by
  have b0 := I.b0
  have t5 := I.t5
  have bt := I.bt
  have old : ∀ r : Int, ((k < 0 ∨ 512 < k) ∧ r = 1 ∨ (0 ≤ k ∧ k ≤ 512 ∧ k ≤ taken ∧ r = 0)) →
      ∃ q f' base' taken', LI f' base' taken' ∧ POp 20 [.int .i64 k] q lb bm n f f' base base' taken taken' ∧ ROp 25 [.int .i64 k] q rb f f' base base' taken taken' := by
    intro r hr
    refine ⟨r, f, base, taken, I, fun w h => (jump_no w lb bm n f base taken h k r hr).mono ?_, fun w h => (rJump_no w rb f base taken h k r hr).mono ?_⟩
    · rintro e w' ⟨rfl, rfl⟩; exact ⟨rfl, Lg.mono h, Fr.refl _ _⟩
    · rintro e w' ⟨rfl, rfl⟩; exact ⟨rfl, h, Fr.refl _ _⟩
  by_cases h1 : k < 0 ∨ 512 < k
  · exact old 1 (.inl ⟨h1, rfl⟩)
  by_cases h2 : k ≤ taken
  · exact old 0 (.inr ⟨by omega, by omega, h2, rfl⟩)
  refine ⟨0, fdel f k, k, k, I.forget k k (by omega) (Int.le_refl _) (by omega) (.inr rfl), fun w h => (jump_yes w lb bm n f base taken h k (by omega) (by omega) (by omega)).mono ?_, fun w h => (rJump_yes w rb f base taken h k (by omega) (by omega) (by omega)).mono ?_⟩
  · rintro e w' ⟨rfl, h5, h6⟩; exact ⟨rfl, Lg.mono h5, h6⟩
  · rintro e w' ⟨rfl, h5, h6⟩; exact ⟨rfl, h5, h6⟩

def valsB (f : Int → Option ByteArray) (taken : Int) (m : Nat) : List ByteArray := (List.range m).map fun (i : Nat) => (f (taken + (i : Int))).getD ⟨#[]⟩
theorem vals_B (f : Int → Option ByteArray) (taken : Int) (m : Nat) : vals f taken m = (valsB f taken m).map .string := by simp [vals, valsB]
theorem valsB_len (f : Int → Option ByteArray) (taken : Int) (m : Nat) : (valsB f taken m).length = m := by simp [valsB]

theorem wf_bnd {x : Int} (h : (Lit.int .i64 x).wf = true) : -9223372036854775808 ≤ x ∧ x ≤ 9223372036854775807 := by
  simp [Lit.wf, IntKind.min, IntKind.max, IntKind.signed, IntKind.bits] at h; omega
theorem own_shape {w : World} {base e s : Nat} {v : Value} {n : Nat} {xs : List Value} (h : w.ownsRow base e s v n xs) : ∃ a c, v = .slice a n c := by
  rcases h.2 with ⟨rfl, rfl⟩ | ⟨g, cap, cur, rfl, _⟩
  · exact ⟨_, _, rfl⟩
  · exact ⟨_, _, rfl⟩
/-- Both logs. -/
structure LP (w : World) (B lb bm rb n : Nat) (f : Int → Option ByteArray) (base taken : Int) : Prop where
  l : Lg w lb bm n f base taken
  r : RL w rb f base taken
  hl : B ≤ lb
  hm : B ≤ bm
  hr : B ≤ rb
  n1 : lb ≠ rb
  n2 : bm ≠ rb
theorem LP.fr {w w' : World} {B lb bm rb n : Nat} {f : Int → Option ByteArray} {base taken : Int} (h : LP w B lb bm rb n f base taken) (g : Fr (fun _ => False) w w') : LP w' B lb bm rb n f base taken :=
  ⟨h.l.fr g id id, h.r.fr g id, h.hl, h.hm, h.hr, h.n1, h.n2⟩
theorem LP.lts {w : World} {B lb bm rb n : Nat} {f : Int → Option ByteArray} {base taken : Int} (h : LP w B lb bm rb n f base taken) : lb < w.heap.size ∧ bm < w.heap.size ∧ rb < w.heap.size := ⟨lt_of_block h.l.blk, h.l.map.lt, h.r.lt⟩

set_option maxRecDepth 100000 in
set_option maxHeartbeats 12800000 in
theorem walk (w : World) (v0 : Value) (l0 : List Ask3) (h0 : Reads w v0 l0.length 3 (l0.flatMap cellsAsk)) (hg0 : ∀ a ∈ l0, (Lit.int .i64 a.1).wf = true ∧ (Lit.int .i64 a.2.1).wf = true) (hl0 : l0.length ≤ 9223372036854775807) :
    Calls Try.prog 7 #[v0] w fun e w' => e = .returned (.bool true) ∧ Below w.heap.size w w' := by
  obtain ⟨n1, hn1⟩ : ∃ n, l0.length = n := ⟨_, rfl⟩
  rw [hn1] at h0 hl0
  obtain ⟨-, s1, k1, rfl, -, -, -⟩ := id h0
  have hn9 : (n1 : Int) ≤ 9223372036854775807 := by omega
  have HR := hide h0
  have HN := hide hn1
  have HG := hide hg0
  clear h0 hn1 hg0
  go_enter Try.func7, Try.ntmps7
  go_wp2_with fail
  refine (new_any w).mono ?_
  rintro e w1 ⟨lb, bm, rfl, hb1, hb2, hl1, hf1⟩
  have HL1 := hide hl1
  have HF1 := hide hf1
  clear hl1 hf1
  go_upto_region 3 with (first
    | (refine wpList_build_log rfl rfl ?_; intro cs hcs)
    | (refine wpList_box_log rfl _ rfl cs rfl hcs ?_; intro w2 hr2 hf2))
  have hPR : LP w2 w.heap.size lb bm w1.heap.size 0 (fun _ => none) 0 0 :=
    ⟨HL1.out.fr hf2 id id, hr2, hb1, hb2, by have := HF1.out.size; omega, by have := lt_of_block HL1.out.blk; omega, by have := HL1.out.map.lt; omega⟩
  obtain ⟨rb, hrb⟩ : ∃ rb, w1.heap.size = rb := ⟨_, rfl⟩
  obtain ⟨B, hB⟩ : ∃ B, w.heap.size = B := ⟨_, rfl⟩
  rw [hrb, hB] at hPR
  rw [hrb]
  have HP0 := hide hPR
  have HF2 := hide ((HF1.out.trans hf2 (fun _ _ h => h)).mono (S' := fun k => B ≤ k) (fun _ _ h => h.elim))
  have HB := hide hB
  clear hPR hcs hr2 hf2 HL1 HF1 hrb hB hb1 hb2
  go_wp2_with fail
  go_loopw [5] (fun i wr => ∃ (k n : Nat) (f : Int → Option ByteArray) (base taken : Int), i = .int .i64 k ∧ k ≤ n1 ∧ n ≤ k ∧ k ≤ 80 ∧ LP wr B lb bm rb n f base taken ∧ LI f base taken ∧ Fr (fun k => B ≤ k) w wr)
      (fun i _ => n1 - (intOf i).toNat)
  case atStart => exact ⟨0, 0, _, 0, 0, rfl, Nat.zero_le _, Nat.le_refl _, by omega, HP0.out, ⟨by omega, by omega, by omega, fun _ _ => rfl, fun t t1 t2 => by omega⟩, HF2.out⟩
  case round =>
    obtain ⟨k, n, f, base, taken, rfl, hk1, hk3, hk2, hp, hi, hf⟩ := hrel
    have HP := hide hp
    have HI := hide hi
    have HF := hide hf
    clear hp hi hf
    by_cases hgo : k < n1 ∧ k < 80
    · obtain ⟨hg1, hg2⟩ := hgo
      have ik1 : (k : Int) < (n1 : Int) := by omega
      have ik2 : (k : Int) < 80 := by omega
      have ik0 : (0 : Int) ≤ (k : Int) := by omega
      obtain ⟨x, hx⟩ : ∃ x, l0[k]? = some x := ⟨_, List.getElem?_eq_getElem (by have := HN.out; omega)⟩
      obtain ⟨w1', w2'⟩ := HG.out x (List.mem_of_getElem? hx)
      obtain ⟨b0, o0, rfl, hlt0, hcells⟩ := row_cells (toC := cellsAsk) (fun _ => rfl) HR.out hx (by decide)
      obtain ⟨kd, N, v⟩ := x
      simp only at w1' w2'
      have hNr := wf_bnd w2'
      have hbl := HF.out.block b0 hlt0 (by have := HB.out; omega)
      have e0 := hcells 0 (.int .i64 kd) rfl wr hbl
      rw [Nat.add_zero] at e0
      have e1 := hcells 1 (.int .i64 N) rfl wr hbl
      have e2 := hcells 2 (.string v) rfl wr hbl
      obtain ⟨xb, hxb⟩ : ∃ xb, wr.heap.size = xb := ⟨_, rfl⟩
      obtain ⟨wc, hwc⟩ : ∃ wc, wr.alloc (.cells #[.int .i64 kd, .int .i64 N, .string v] 38) = wc := ⟨_, rfl⟩
      have hfc : Fr (fun _ => False) wr wc := by rw [← hwc]; exact Fr.alloc _ _ _
      have hbc : wc.heap[xb]? = some (.cells #[.int .i64 kd, .int .i64 N, .string v] 38 (0, 0)) := by rw [← hwc, ← hxb]; exact block_alloc _ _
      have hPc := HP.out.fr hfc
      have hlts : lb < xb ∧ bm < xb ∧ rb < xb := by rw [← hxb]; exact HP.out.lts
      have hcell : ∀ wx, Fr (fun j => j ≠ xb) wc wx → wx.cell? ⟨xb, 0, none⟩ = some (.int .i64 kd) ∧ wx.cell? ⟨xb, 1, none⟩ = some (.int .i64 N) ∧ wx.cell? ⟨xb, 2, none⟩ = some (.string v) := fun wx hf => by
        have := (hf.block xb (lt_of_block hbc) (fun h => h rfl)).trans hbc
        exact ⟨by rw [cell_of_block this]; rfl, by rw [cell_of_block this]; rfl, by rw [cell_of_block this]; rfl⟩
      obtain ⟨z0, z1, z2⟩ := hcell wc (Fr.refl _ _)
      have HPC := hide hPc
      have HCELL := hide hcell
      have HLT := hide hlts
      have HFC := hide (HF.out.trans hfc (fun _ _ h => h.elim))
      have HWC := hide hwc
      have HXB := hide hxb
      clear hx hcells hbl hfc hbc hPc hlts hcell hwc hxb
      have hkind : ((kd == 1) = true) ∨ ((kd == 1) = false ∧ (kd == 2) = true) ∨ ((kd == 1) = false ∧ (kd == 2) = false ∧ (kd == 3) = true) ∨ ((kd == 1) = false ∧ (kd == 2) = false ∧ (kd == 3) = false) := by
        cases h1 : kd == 1 <;> cases h2 : kd == 2 <;> cases h3 : kd == 3 <;> simp
      go_upto_region 12 with fail
      rw [HWC.out, HXB.out]
      rcases hkind with kd1 | ⟨kd1, kd2⟩ | ⟨kd1, kd2, kd3⟩ | ⟨kd1, kd2, kd3⟩
      case' inl =>
        obtain ⟨q, f2, hI2, hpo, hro⟩ := learn_step HI.out lb bm n rb (by omega) N v (by omega)
        have hqq : (q != q) = false := by simp
        have hd1 := hpo wc.drew (HPC.out.fr (Fr.refl (fun _ => False) wc).drew).l
        have HD1 : Hid (Calls Try.prog 10 #[.pointer (some ⟨lb, 0, none⟩), .int .i64 N, .string v] wc.drew fun e w' => e = .returned (.int .i64 q) ∧ Lg w' lb bm (n + 1) f2 base taken ∧ Fr (fun k => k = lb ∨ k = bm) wc.drew w') := hd1
        have HD2 : Hid (∀ y, RL y rb f base taken → Calls Try.prog 22 #[.pointer (some ⟨rb, 0, none⟩), .int .i64 N, .string v] y fun e w' => e = .returned (.int .i64 q) ∧ RL w' rb f2 base taken ∧ Fr (fun k => k = rb) y w') := hro
        have HI2 := hide hI2
        have HNE : Hid (¬ (rb = lb ∨ rb = bm)) := by
          have h1 := HPC.out.n1
          have h2 := HPC.out.n2
          exact (fun e => e.elim (fun e => h1 e.symm) (fun e => h2 e.symm))
        clear hd1 hI2 hpo hro
        go_wp2_with fail
        go_region_held3 (fun w' => w'.cell? ⟨xb, 1, none⟩ = some (.int .i64 N) ∧ w'.cell? ⟨xb, 2, none⟩ = some (.string v)) (go_keep)
          (first
            | (go_at_call 10; with_reducible refine HD1.out.mono ?_; rintro e y1 ⟨rfl, hl, hf⟩; have hx := ((Fr.refl (fun j => j ≠ xb) wc).drew).trans (hf.mono (S' := fun j => j ≠ xb) (fun j _ h => by have := HLT.out; omega)) (fun _ _ h => h); obtain ⟨p0, p1, p2⟩ := HCELL.out y1 hx; have HL := hide hl; have HX1 := hide hx; have HFL := hide hf; clear hl hf hx)
            | (go_at_call 22; with_reducible refine (HD2.out _ (HPC.out.r.fr ((Fr.refl (fun k => k = lb ∨ k = bm) wc).drew.trans HFL.out (fun _ _ h => h)) HNE.out)).mono ?_; rintro e y2 ⟨rfl, hr, hf⟩; have hx := HX1.out.trans (hf.mono (S' := fun j => j ≠ xb) (fun j _ h => by have := HLT.out; omega)) (fun _ _ h => h); obtain ⟨p4, p5, p6⟩ := HCELL.out y2 hx; have HX2 := hide hx; have HR2 := hide hr; have HFR := hide hf; clear hr hf hx))
        all_goals
          go_upto_region 21 with fail
          obtain ⟨n', f', base', taken', hn', HP', HI', HX', HF'⟩ : ∃ (n' : Nat) (f' : Int → Option ByteArray) (base' taken' : Int), n' ≤ k + 1 ∧ Hid (LP y2 B lb bm rb n' f' base' taken') ∧ Hid (LI f' base' taken') ∧ Hid (Fr (fun j => j ≠ xb) wc y2) ∧ Hid (Fr (fun k => B ≤ k) w y2) := by
            have hp := HPC.out
            refine ⟨n + 1, f2, base, taken, by omega, ⟨HL.out.fr HFR.out hp.n1 hp.n2, HR2.out, hp.hl, hp.hm, hp.hr, hp.n1, hp.n2⟩, HI2.out, HX2.out, ?_⟩
            have h1 := hp.hl
            have h2 := hp.hm
            have h3 := hp.hr
            exact ((HFC.out.trans (Fr.refl (fun k => B ≤ k) wc).drew (fun _ _ h => h)).trans HFL.out (fun j _ h => by rcases h with rfl | rfl <;> assumption)).trans HFR.out (fun j _ h => by subst h; exact h3)
          clear p0 p1 p2 p4 p5 p6 HD1 HD2 HL HX1 HX2 HFL HFR HR2 HI2 HNE hqq z0 z1 z2
          generalize y2 = wE at *
      case' inr.inl =>
        obtain ⟨R, hnx, hR5⟩ := HI.out.next
        have ht1 := take_any wc lb bm n f base taken R HPC.out.l HI.out.b0 HI.out.bt hnx hR5
        have HT1 := hide ht1
        have HNX := hide hnx
        clear ht1 hnx
        go_wp2_with fail
        refine HT1.out.mono ?_
        rintro e y1 ⟨u1, rfl, ho1, hl1, hf1⟩
        have hr1 := HPC.out.r.fr hf1 HPC.out.n1.symm
        have ht2 := rTake_any y1 rb f base taken R hr1 HI.out.b0 HI.out.bt HNX.out hR5
        have hrd1 := Reads.of_own ho1
        have hle1 : wc.heap.size ≤ y1.heap.size := hf1.size
        obtain ⟨-, a1, c1, rfl, -, -, -⟩ := id hrd1
        have HT2 := hide ht2
        have HL1 := hide hl1
        have HF1 := hide hf1
        have HRD1 := hide hrd1
        have HO1 := hide ho1
        clear ht2 hl1 hf1 hrd1 hr1 ho1
        go_wp2_with fail
        refine HT2.out.mono ?_
        rintro e y2 ⟨u2', rfl, ho2, hl2, hf2⟩
        have hrd2 := Reads.of_own ho2
        obtain ⟨-, a2, c2, rfl, -, -, -⟩ := id hrd2
        have hrd1 : Reads y2 (.slice a1 R c1) R 1 (vals f taken R) := Reads.of_own (ownsRow_fr HO1.out hf2 (fun j hj e => by have := (HO1.out.lt j hj).1; have := HPC.out.lts; omega))
        rw [vals_B] at hrd1 hrd2
        have htx := texts_any y2 _ _ (valsB f taken R) (valsB f taken R) (by rw [valsB_len]; exact hrd1) (by rw [valsB_len]; exact hrd2) (by rw [valsB_len]; have := HI.out.b0; have := HI.out.bt; omega)
        rw [show decide (valsB f taken R = valsB f taken R) = true by simp] at htx
        have HTX := hide htx
        have HL2 := hide hl2
        have HF2' := hide hf2
        clear htx hl2 hf2 hrd1 hrd2 ho2
        go_wp2_with fail
        refine HTX.out.mono ?_
        rintro e y3 ⟨rfl, m3, rfl⟩
        go_upto_region 21 with fail
        obtain ⟨n', f', base', taken', hn', HP', HI', HX', HF'⟩ : ∃ (n' : Nat) (f' : Int → Option ByteArray) (base' taken' : Int), n' ≤ k + 1 ∧ Hid (LP (y2.drewN m3) B lb bm rb n' f' base' taken') ∧ Hid (LI f' base' taken') ∧ Hid (Fr (fun j => j ≠ xb) wc (y2.drewN m3)) ∧ Hid (Fr (fun k => B ≤ k) w (y2.drewN m3)) := by
          have hp := HPC.out
          have hi := HI.out
          have h1 := hp.hl
          have h2 := hp.hm
          have h3 := hp.hr
          have hlt := HLT.out
          have hd : Fr (fun _ => False) y2 (y2.drewN m3) := (Fr.refl (fun _ => False) y2).drewN m3
          refine ⟨n, f, base, taken + R, by omega, ⟨(HL1.out.fr HF2'.out hp.n1 hp.n2).fr hd id id, HL2.out.fr hd id, h1, h2, h3, hp.n1, hp.n2⟩, ⟨hi.b0, by have := hi.bt; omega, hR5, hi.out, fun t t1 t2 => ?_⟩, ?_, ?_⟩
          · exact HNX.out.2.1 t t1 t2
          · exact (((HF1.out.mono (S' := fun j => j ≠ xb) (fun j _ h => by omega)).trans HF2'.out (fun j _ h => by show j ≠ xb; omega))).drewN m3
          · exact ((HFC.out.trans HF1.out (fun j _ h => by show B ≤ j; omega)).trans HF2'.out (fun j _ h => by show B ≤ j; omega)).drewN m3
        clear HT1 HT2 HTX HL1 HF1 HRD1 HO1 HL2 HF2' HNX z0 z1 z2
        generalize y2.drewN m3 = wE at *
      case' inr.inr.inl =>
        obtain ⟨q, f2, base2, hI2, hpo, hro⟩ := compact_step HI.out lb bm n rb N
        have hqq : (q != q) = false := by simp
        have hd1 := hpo wc.drew (HPC.out.fr (Fr.refl (fun _ => False) wc).drew).l
        have HD1 : Hid (Calls Try.prog 15 #[.pointer (some ⟨lb, 0, none⟩), .int .i64 N] wc.drew fun e w' => e = .returned (.int .i64 q) ∧ Lg w' lb bm (n + 1) f2 base2 taken ∧ Fr (fun k => k = lb ∨ k = bm) wc.drew w') := hd1
        have HD2 : Hid (∀ y, RL y rb f base taken → Calls Try.prog 24 #[.pointer (some ⟨rb, 0, none⟩), .int .i64 N] y fun e w' => e = .returned (.int .i64 q) ∧ RL w' rb f2 base2 taken ∧ Fr (fun k => k = rb) y w') := hro
        have HI2 := hide hI2
        have HNE : Hid (¬ (rb = lb ∨ rb = bm)) := by
          have h1 := HPC.out.n1
          have h2 := HPC.out.n2
          exact (fun e => e.elim (fun e => h1 e.symm) (fun e => h2 e.symm))
        clear hd1 hI2 hpo hro
        go_wp2_with fail
        go_region_held3 (fun w' => w'.cell? ⟨xb, 1, none⟩ = some (.int .i64 N) ∧ True) (go_keep)
          (first
            | (go_at_call 15; with_reducible refine HD1.out.mono ?_; rintro e y1 ⟨rfl, hl, hf⟩; have hx := ((Fr.refl (fun j => j ≠ xb) wc).drew).trans (hf.mono (S' := fun j => j ≠ xb) (fun j _ h => by have := HLT.out; omega)) (fun _ _ h => h); obtain ⟨p0, p1, p2⟩ := HCELL.out y1 hx; have HL := hide hl; have HX1 := hide hx; have HFL := hide hf; clear hl hf hx)
            | (go_at_call 24; with_reducible refine (HD2.out _ (HPC.out.r.fr ((Fr.refl (fun k => k = lb ∨ k = bm) wc).drew.trans HFL.out (fun _ _ h => h)) HNE.out)).mono ?_; rintro e y2 ⟨rfl, hr, hf⟩; have hx := HX1.out.trans (hf.mono (S' := fun j => j ≠ xb) (fun j _ h => by have := HLT.out; omega)) (fun _ _ h => h); obtain ⟨p4, p5, p6⟩ := HCELL.out y2 hx; have HX2 := hide hx; have HR2 := hide hr; have HFR := hide hf; clear hr hf hx))
        all_goals
          go_upto_region 21 with fail
          obtain ⟨n', f', base', taken', hn', HP', HI', HX', HF'⟩ : ∃ (n' : Nat) (f' : Int → Option ByteArray) (base' taken' : Int), n' ≤ k + 1 ∧ Hid (LP y2 B lb bm rb n' f' base' taken') ∧ Hid (LI f' base' taken') ∧ Hid (Fr (fun j => j ≠ xb) wc y2) ∧ Hid (Fr (fun k => B ≤ k) w y2) := by
            have hp := HPC.out
            refine ⟨n + 1, f2, base2, taken, by omega, ⟨HL.out.fr HFR.out hp.n1 hp.n2, HR2.out, hp.hl, hp.hm, hp.hr, hp.n1, hp.n2⟩, HI2.out, HX2.out, ?_⟩
            have h1 := hp.hl
            have h2 := hp.hm
            have h3 := hp.hr
            exact ((HFC.out.trans (Fr.refl (fun k => B ≤ k) wc).drew (fun _ _ h => h)).trans HFL.out (fun j _ h => by rcases h with rfl | rfl <;> assumption)).trans HFR.out (fun j _ h => by subst h; exact h3)
          clear p0 p1 p2 p4 p5 p6 HD1 HD2 HL HX1 HX2 HFL HFR HR2 HI2 HNE hqq z0 z1 z2
          generalize y2 = wE at *
      case' inr.inr.inr =>
        obtain ⟨q, f2, base2, taken2, hI2, hpo, hro⟩ := jump_step HI.out lb bm n rb N
        have hqq : (q != q) = false := by simp
        have hd1 := hpo wc.drew (HPC.out.fr (Fr.refl (fun _ => False) wc).drew).l
        have HD1 : Hid (Calls Try.prog 20 #[.pointer (some ⟨lb, 0, none⟩), .int .i64 N] wc.drew fun e w' => e = .returned (.int .i64 q) ∧ Lg w' lb bm (n + 1) f2 base2 taken2 ∧ Fr (fun k => k = lb ∨ k = bm) wc.drew w') := hd1
        have HD2 : Hid (∀ y, RL y rb f base taken → Calls Try.prog 25 #[.pointer (some ⟨rb, 0, none⟩), .int .i64 N] y fun e w' => e = .returned (.int .i64 q) ∧ RL w' rb f2 base2 taken2 ∧ Fr (fun k => k = rb) y w') := hro
        have HI2 := hide hI2
        have HNE : Hid (¬ (rb = lb ∨ rb = bm)) := by
          have h1 := HPC.out.n1
          have h2 := HPC.out.n2
          exact (fun e => e.elim (fun e => h1 e.symm) (fun e => h2 e.symm))
        clear hd1 hI2 hpo hro
        go_wp2_with fail
        go_region_held3 (fun w' => w'.cell? ⟨xb, 1, none⟩ = some (.int .i64 N) ∧ True) (go_keep)
          (first
            | (go_at_call 20; with_reducible refine HD1.out.mono ?_; rintro e y1 ⟨rfl, hl, hf⟩; have hx := ((Fr.refl (fun j => j ≠ xb) wc).drew).trans (hf.mono (S' := fun j => j ≠ xb) (fun j _ h => by have := HLT.out; omega)) (fun _ _ h => h); obtain ⟨p0, p1, p2⟩ := HCELL.out y1 hx; have HL := hide hl; have HX1 := hide hx; have HFL := hide hf; clear hl hf hx)
            | (go_at_call 25; with_reducible refine (HD2.out _ (HPC.out.r.fr ((Fr.refl (fun k => k = lb ∨ k = bm) wc).drew.trans HFL.out (fun _ _ h => h)) HNE.out)).mono ?_; rintro e y2 ⟨rfl, hr, hf⟩; have hx := HX1.out.trans (hf.mono (S' := fun j => j ≠ xb) (fun j _ h => by have := HLT.out; omega)) (fun _ _ h => h); obtain ⟨p4, p5, p6⟩ := HCELL.out y2 hx; have HX2 := hide hx; have HR2 := hide hr; have HFR := hide hf; clear hr hf hx))
        all_goals
          go_upto_region 21 with fail
          obtain ⟨n', f', base', taken', hn', HP', HI', HX', HF'⟩ : ∃ (n' : Nat) (f' : Int → Option ByteArray) (base' taken' : Int), n' ≤ k + 1 ∧ Hid (LP y2 B lb bm rb n' f' base' taken') ∧ Hid (LI f' base' taken') ∧ Hid (Fr (fun j => j ≠ xb) wc y2) ∧ Hid (Fr (fun k => B ≤ k) w y2) := by
            have hp := HPC.out
            refine ⟨n + 1, f2, base2, taken2, by omega, ⟨HL.out.fr HFR.out hp.n1 hp.n2, HR2.out, hp.hl, hp.hm, hp.hr, hp.n1, hp.n2⟩, HI2.out, HX2.out, ?_⟩
            have h1 := hp.hl
            have h2 := hp.hm
            have h3 := hp.hr
            exact ((HFC.out.trans (Fr.refl (fun k => B ≤ k) wc).drew (fun _ _ h => h)).trans HFL.out (fun j _ h => by rcases h with rfl | rfl <;> assumption)).trans HFR.out (fun j _ h => by subst h; exact h3)
          clear p0 p1 p2 p4 p5 p6 HD1 HD2 HL HX1 HX2 HFL HFR HR2 HI2 HNE hqq z0 z1 z2
          generalize y2 = wE at *
      all_goals
        obtain ⟨q0, q1, q2⟩ := HCELL.out wE HX'.out
        have hc3 : ∀ wx, Fr (fun _ => False) wE wx → wx.cell? ⟨rb, 1025, none⟩ = some (.int .i64 taken') ∧ wx.cell? ⟨rb, 1024, none⟩ = some (.int .i64 base') ∧ wx.cell? ⟨xb, 1, none⟩ = some (.int .i64 N) := fun wx hf => by
          obtain ⟨_, r1, _⟩ := HCELL.out wx (HX'.out.trans hf (fun _ _ h => h.elim))
          have hr := (HP'.out.fr hf).r
          exact ⟨hr.ct, hr.cb, r1⟩
        obtain ⟨R', hnx', hR5'⟩ := HI'.out.next
        obtain ⟨r, hr⟩ : ∃ r, taken' + (R' : Int) = r := ⟨_, rfl⟩
        rw [hr] at hnx' hR5'
        obtain ⟨M, hM⟩ : ∃ M : Nat, (M : Int) = max 0 (min N 512 - r) := ⟨(max 0 (min N 512 - r)).toNat, by omega⟩
        have hd : Fr (fun _ => False) wE wE.drew := (Fr.refl (fun _ => False) wE).drew
        have HNXT := hide (next_any wE.drew lb bm n' f' base' taken' r (HP'.out.fr hd).l HI'.out.b0 hnx' hR5')
        have HRNX := hide (rNext_any wE.drew rb f' base' taken' r (HP'.out.fr hd).r HI'.out.b0 hnx' hR5')
        have HTK := hide (taken_any wE.drew lb bm n' f' base' taken' (HP'.out.fr hd).l)
        have HBS := hide (base_any wE.drew lb bm n' f' base' taken' (HP'.out.fr hd).l)
        have HGP := hide (gaps_any wE.drew lb bm n' f' base' taken' r (HP'.out.fr hd).l HI'.out.b0 hnx' hR5' N M hM)
        have HRG : Hid (∀ y, Fr (fun _ => False) wE.drew y → Calls Try.prog 28 #[.pointer (some ⟨rb, 0, none⟩), .int .i64 N] y fun e w' => ∃ v, e = .returned v ∧ w'.ownsRow y.heap.size 3 1 v (gaps f' r M).length ((gaps f' r M).map (.int .i64)) ∧ Fr (fun _ => False) y w') :=
          fun y hy => rGaps_any y rb f' base' taken' r ((HP'.out.fr hd).r.fr hy id) HI'.out.b0 hnx' hR5' N M hM
        have HLEN : Hid ((gaps f' r M).length ≤ 9223372036854775807) := by
          have := gaps_len f' r M
          have := hnx'.1
          have := HI'.out.b0
          show _ ≤ _; omega
        have HGET := hide (get_any wE lb bm n' f' base' taken' HP'.out.l N hNr.1 (by omega))
        have HRGET := hide (rGet_any wE rb f' base' taken' HP'.out.r N (fun h => HI'.out.out N (by have := HI'.out.b0; omega)))
        obtain ⟨gl, hgl⟩ : ∃ gl, gaps f' r M = gl := ⟨_, rfl⟩
        obtain ⟨u, hu⟩ : ∃ u, (f' N).getD ⟨#[]⟩ = u := ⟨_, rfl⟩
        obtain ⟨ok, hok⟩ : ∃ ok, (f' N).isSome = ok := ⟨_, rfl⟩
        rw [hgl] at HGP HRG HLEN
        rw [hu, hok] at HGET HRGET
        have huu : (u.toList != u.toList) = false := by simp
        have hoo : (ok != ok) = false := by simp
        have hrr : (r != r) = false := by simp
        have htt : (taken' != taken') = false := by simp
        have hbb : (base' != base') = false := by simp
        have HC3 := hide hc3
        have HD := hide hd
        obtain ⟨t1, t2, t3⟩ := hc3 wE (Fr.refl _ _)
        clear hc3 hd hgl hu hok hr hnx' hR5' hM
        go_wp2_with fail
        refine HGET.out.mono ?_
        rintro e w' ⟨rfl, rfl⟩
        go_wp2_with fail
        refine HRGET.out.mono ?_
        rintro e w' ⟨rfl, rfl⟩
        go_wp2_with fail
        go_region_held3 (fun w' => w'.cell? ⟨rb, 1025, none⟩ = some (.int .i64 taken') ∧ w'.cell? ⟨rb, 1024, none⟩ = some (.int .i64 base') ∧ w'.cell? ⟨xb, 1, none⟩ = some (.int .i64 N)) (go_keep)
          (first
            | (go_at_call 12; with_reducible refine HNXT.out.mono ?_; rintro e w' ⟨rfl, rfl⟩)
            | (go_at_call 27; with_reducible refine HRNX.out.mono ?_; rintro e w' ⟨rfl, rfl⟩)
            | (go_at_call 17; with_reducible refine HTK.out.mono ?_; rintro e w' ⟨rfl, rfl⟩)
            | (go_at_call 16; with_reducible refine HBS.out.mono ?_; rintro e w' ⟨rfl, rfl⟩)
            | (go_at_call 19; with_reducible refine HGP.out.mono ?_; rintro e y1 ⟨g1, rfl, ho1, _, hf1⟩; obtain ⟨a1, c1, rfl⟩ := own_shape ho1; obtain ⟨p0, p1, p2⟩ := HC3.out y1 (HD.out.trans hf1 (fun _ _ h => h)); have HO1 := hide (Reads.of_own ho1); have HY1 := hide hf1; clear ho1 hf1)
            | (go_at_call 28; with_reducible refine (HRG.out _ HY1.out).mono ?_; rintro e y2 ⟨g2, rfl, ho2, hf2⟩; obtain ⟨a2, c2, rfl⟩ := own_shape ho2; have hy2 := HD.out.trans (HY1.out.trans hf2 (fun _ _ h => h)) (fun _ _ h => h); obtain ⟨p3, p4, p5⟩ := HC3.out y2 hy2; have HO2 := hide (Reads.of_own ho2); have HO1' := hide (reads_old HO1.out hf2 (fun _ _ => id)); have HY2 := hide hy2; clear ho2 hf2 hy2)
            | (go_at_call 21; with_reducible refine (same_any _ _ _ gl gl HO1'.out HO2.out HLEN.out).mono ?_; rintro e y3 ⟨rfl, m3, rfl⟩; have hy3 := HY2.out.drewN m3; obtain ⟨p6, p7, p8⟩ := HC3.out _ hy3; have HY3 := hide hy3; clear hy3))
        all_goals
          go_wp2_with fail
          go_roundw
          case rel => exact ⟨k + 1, n', f', base', taken', by go_num, by omega, hn', by omega, HP'.out.fr HY3.out, HI'.out, HF'.out.trans HY3.out (fun _ _ h => h.elim)⟩
          case measure => simp [intOf]; omega
    · have hex : (k : Int) < (n1 : Int) ∧ ¬ (k : Int) < 80 ∨ ¬ (k : Int) < (n1 : Int) := by omega
      clear hgo
      rcases hex with ⟨ik1, ik2⟩ | ik1
      all_goals
        go_wp2_with fail
        refine (known_any _).mono ?_
        rintro e w10 ⟨rfl, hf10⟩
        go_wp2_with fail
        go_ret
        exact ⟨rfl, (HF.out.trans hf10 (fun j _ hj => hj.elim)).toBelow (Nat.le_refl _) (fun j hj h => by have := HB.out; omega)⟩
end Go.Proofs.Ytpjdepepgfimeaa.LogPlays
