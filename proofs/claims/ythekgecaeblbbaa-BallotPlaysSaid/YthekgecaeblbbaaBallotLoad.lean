/- Load of ballot. -/
import Derived.Test.YthekgecaeblbbaaBallotSave
import Derived.Test.YthekgecaeblbbaaWireR
import Derived.Deep.CutBlock
namespace Go.Proofs.Ythekgecaeblbbaa
open Go.RowKit Go.Maps Go.Cv Go.Shelf
set_option linter.unusedVariables false

/-- A ballot read. -/
def RS.bal (bs : List UInt8) (r : RS) : Bt × RS := ((IntKind.i64.wrap ((r.get bs 8).1 : Int), IntKind.i64.wrap (((r.get bs 8).2.get bs 8).1 : Int)), ((r.get bs 8).2.get bs 8).2)

set_option maxRecDepth 100000 in
theorem getB_any (w : World) (rb : Nat) (v : Value) (bs : List UInt8) (r : RS) (h : Rd w rb v bs r) :
    Calls Try.prog 37 #[.pointer (some ⟨rb, 0, none⟩)] w fun e w' => e = .returned (.agg (bcells (r.bal bs).1)) ∧ Rd w' rb v bs (r.bal bs).2 ∧ Fr (fun k => k = rb) w w' := by
  unfold RS.bal
  obtain ⟨⟨i1, r1⟩, h1⟩ : ∃ p, r.get bs 8 = p := ⟨_, rfl⟩
  rw [h1]
  obtain ⟨⟨i2, r2⟩, h2⟩ : ∃ p, r1.get bs 8 = p := ⟨_, rfl⟩
  simp only [h2]
  obtain ⟨k1, hk1⟩ : ∃ k : Int, IntKind.i64.wrap (i1 : Int) = k := ⟨_, rfl⟩
  obtain ⟨k2, hk2⟩ : ∃ k : Int, IntKind.i64.wrap (i2 : Int) = k := ⟨_, rfl⟩
  rw [hk1, hk2]
  obtain ⟨qb, hqb⟩ : ∃ q, w.heap.size = q := ⟨_, rfl⟩
  obtain ⟨y, hy⟩ : ∃ y, w.alloc (.cells #[.int .i64 0, .int .i64 0] 23) = y := ⟨_, rfl⟩
  have hfy : Fr (fun _ => False) w y := by rw [← hy]; exact Fr.alloc _ _ _
  have hby : y.heap[qb]? = some (.cells #[.int .i64 0, .int .i64 0] 23 (0, 0)) := by rw [← hy, ← hqb]; exact block_alloc _ _
  have hrb := lt_of_block h.blk
  have hqr : qb ≠ rb := by omega
  have hvq : ∀ k, v.ownBlock = some k → k < qb := fun k hk => by have := (h.own.lt k hk).2; omega
  have hy1 := h.fr hfy id (fun _ _ => id)
  have c1 := rdEight_any y rb v bs r hy1
  rw [h1] at c1
  have c2 : ∀ wx, Rd wx rb v bs r1 → _ := fun wx hx => rdEight_any wx rb v bs r1 hx
  rw [h2] at c2
  simp only [hk1, hk2] at c1 c2
  have C1 := hide c1
  have C2 := hide c2
  have HY := hide hy
  have HQB := hide hqb
  have HFY := hide hfy
  have HBY := hide hby
  clear c1 c2 hy hqb hfy hby h1 h2 hk1 hk2 h hy1
  show Calls _ _ _ w fun e w' => e = .returned (.agg #[.int .i64 k1, .int .i64 k2]) ∧ _
  go_enter Try.func37, Try.ntmps37
  go_upto_region 1 with fail
  rw [HY.out, HQB.out]
  go_wp2_with fail
  refine C1.out.mono ?_
  rintro e y1 ⟨rfl, hr1, hf1⟩
  have HF1 := hide hf1
  have hc2 := C2.out y1 hr1
  have C3 := hide hc2
  clear hr1 hf1 hc2
  go_wp2_with fail
  refine C3.out.mono ?_
  rintro e y2 ⟨rfl, hr2, hf2⟩
  have hb2 := (hf2.block qb (lt_of_block ((HF1.out.block qb (lt_of_block HBY.out) hqr).trans HBY.out)) hqr).trans ((HF1.out.block qb (lt_of_block HBY.out) hqr).trans HBY.out)
  have x0 : y2.cell? ⟨qb, 0, none⟩ = some (.int .i64 0) := by rw [cell_of_block hb2]; rfl
  have x1 : y2.cell? ⟨qb, 1, none⟩ = some (.int .i64 0) := by rw [cell_of_block hb2]; rfl
  have x2 : y2.frozen? ⟨qb, 0, none⟩ = false := free_of_block hb2
  have x3 : y2.frozen? ⟨qb, 1, none⟩ = false := free_of_block hb2
  obtain ⟨y3, hy3⟩ : ∃ y, (y2.setCell ⟨qb, 0, none⟩ (.int .i64 k1)).setCell ⟨qb, 1, none⟩ (.int .i64 k2) = y := ⟨_, rfl⟩
  have hf3 : Fr (fun k => k = qb) y2 y3 := by rw [← hy3]; exact (Fr.setCell (S := fun k => k = qb) _ _ _ rfl).trans (Fr.setCell (S := fun k => k = qb) _ _ _ rfl) (fun _ _ h => h)
  have hb3 : y3.heap[qb]? = some (.cells #[.int .i64 k1, .int .i64 k2] 23 (0, 0)) := by rw [← hy3]; exact block_setCell (block_setCell hb2 _) _
  have u0 : y3.cell? ⟨qb, 0, none⟩ = some (.int .i64 k1) := by rw [cell_of_block hb3]; rfl
  have u1 : y3.cell? ⟨qb, 1, none⟩ = some (.int .i64 k2) := by rw [cell_of_block hb3]; rfl
  have hr3 := hr2.fr hf3 (fun e => hqr e.symm) (fun k hk e => by have := hvq k hk; omega)
  have HR3 := hide hr3
  have HF := hide (((HFY.out.mono (S' := fun k => k = rb ∨ qb ≤ k) (fun _ _ h => h.elim)).trans (HF1.out.trans hf2 (fun _ _ h => h)) (fun _ _ h => .inl h)).trans hf3 (fun k _ hk => .inr (by omega)))
  have HY3 := hide hy3
  clear hf2 hb2 hf3 hb3 hr2 hr3 hy3
  go_wp2_with fail
  rw [HY3.out]
  clear x0 x1 x2 x3
  exact bodyPost_ret (v := .agg #[.int .i64 k1, .int .i64 k2]) (by simp [results, Try.results37, go_sem, u0, u1]) rfl ⟨rfl, HR3.out, HF.out.mono (fun k hk h => h.elim id (fun h2 => by have := HQB.out; omega))⟩

/-- One vote read: where the Reader is, whether all is fine, the last slot, the votes. -/
abbrev LdS := RS × Bool × Int × List Vt
def ldStep (bs : List UInt8) (p : Bt) (s : LdS) : LdS :=
  let c := s.1.get bs 4
  let d := c.2.bal bs
  let t := d.2.text bs bs.length
  (t.2, s.2.1 && decide (s.2.2.1 < (c.1 : Int)) && decide ((c.1 : Int) < 512) && less (0, 0) d.1 && !less p d.1, (c.1 : Int), putV s.2.2.2 ((c.1 : Int), d.1, ⟨t.1.toArray⟩))
def ldK (bs : List UInt8) (p : Bt) (s : LdS) : Nat → LdS
  | 0 => s
  | j + 1 => ldStep bs p (ldK bs p s j)
/-- What Load answers. -/
def loadT (bs : List UInt8) : Option (Bt × List Vt) :=
  let g := (⟨0, 0, 0⟩ : RS).bal bs
  let c := g.2.count bs 512
  let s := ldK bs g.1 (c.2, !less g.1 (0, 0), -1, []) c.1
  if (s.1.end_ bs).1 ≠ 0 ∨ s.2.1 = false then none else some (g.1, s.2.2.2)

def Loaded (bs : List UInt8) (w : World) (e : Ending) (w' : World) : Prop :=
  (loadT bs = none ∧ e = .returned (.tuple #[.pointer none, .int .i64 12])) ∨
  ∃ p l ab mb, loadT bs = some (p, l) ∧ e = .returned (.tuple #[.pointer (some ⟨ab, 0, none⟩), .int .i64 0]) ∧ Ac w' ab mb 512 p l ∧ w.heap.size ≤ ab ∧ w.heap.size ≤ mb

theorem put_range {l : List Vt} {x : Vt} (h : ∀ y ∈ l, 0 ≤ y.1 ∧ y.1 < 512) (hx : 0 ≤ x.1 ∧ x.1 < 512) : ∀ y ∈ putV l x, 0 ≤ y.1 ∧ y.1 < 512 := by
  intro y hy
  simp only [putV, List.mem_append, List.mem_filter, List.mem_singleton] at hy
  rcases hy with (⟨hy, _⟩ | rfl) | ⟨hy, _⟩
  · exact h y hy
  · exact hx
  · exact h y hy

set_option maxRecDepth 100000 in
set_option maxHeartbeats 12800000 in
theorem load_any (w : World) (v : Value) (bs : List UInt8) (h : Reads w v bs.length 1 (bc bs)) (hlen : bs.length ≤ 140737488355328) :
    Calls Try.prog 20 #[v] w fun e w' => Loaded bs w e w' ∧ Fr (fun _ => False) w w' := by
  obtain ⟨bn, hbn⟩ : ∃ n, bs.length = n := ⟨_, rfl⟩
  have hNR := newReader_any w v bs h hlen
  rw [hbn] at h hlen
  obtain ⟨_, a, cp, rfl, _, _, _⟩ := h
  have HNR := hide hNR
  have HBN := hide hbn
  obtain ⟨⟨⟨p1, p2⟩, r1⟩, hg⟩ : ∃ p, (⟨0, 0, 0⟩ : RS).bal bs = p := ⟨_, rfl⟩
  obtain ⟨⟨cn, r2⟩, hc⟩ : ∃ p, r1.count bs 512 = p := ⟨_, rfl⟩
  have hcn : cn ≤ 512 := by
    have : (r1.count bs 512).1 = cn := by rw [hc]
    have h2 := count_most bs r1 512
    omega
  obtain ⟨fi0, hfi⟩ : ∃ f, (!less (p1, p2) (0, 0)) = f := ⟨_, rfl⟩
  have hT : loadT bs = (if ((ldK bs (p1, p2) (r2, fi0, -1, []) cn).1.end_ bs).1 ≠ 0 ∨ (ldK bs (p1, p2) (r2, fi0, -1, []) cn).2.1 = false then none else some ((p1, p2), (ldK bs (p1, p2) (r2, fi0, -1, []) cn).2.2.2)) := by
    unfold loadT; rw [hg]; simp only [hc, hfi]
  have HT := hide hT
  have HC := hide hc
  have HG := hide hg
  have HFI := hide hfi
  clear hT hc hg hNR hbn hfi
  go_enter Try.func20, Try.ntmps20
  go_wp2_with fail
  refine HNR.out.mono ?_
  rintro e w1 ⟨rb, v1, rfl, hrb, hv1, hR1, hf1⟩
  have HR1 := hide hR1
  have HF1 := hide hf1
  have HV1 := hide hv1
  clear hR1 hf1 hv1
  go_wp2_with fail
  refine (newAc_any w1).mono ?_
  rintro e w2 ⟨ab, mb, rfl, hab, hmb, hac, hf2⟩
  have hR2 := HR1.out.fr hf2 id (fun _ _ => id)
  have hrw := lt_of_block HR1.out.blk
  have hvw : ∀ k, v1.ownBlock = some k → k < w1.heap.size := fun k hk => (HR1.out.own.lt k hk).2
  have hgb := getB_any w2 rb v1 bs _ hR2
  rw [HG.out] at hgb
  have HGB := hide (show Calls Try.prog 37 #[.pointer (some ⟨rb, 0, none⟩)] w2 fun e w' => e = .returned (.agg #[.int .i64 p1, .int .i64 p2]) ∧ Rd w' rb v1 bs r1 ∧ Fr (fun k => k = rb) w2 w' from hgb)
  have HAC := hide hac
  have HF2 := hide ((HF1.out.trans hf2 (fun _ _ h => h)).mono (S' := fun k => w.heap.size ≤ k) (fun _ _ h => h.elim))
  have HVW := hide hvw
  clear hR2 hgb hac hf2 hvw
  go_wp2_with fail
  refine HGB.out.mono ?_
  rintro e w3 ⟨rfl, hR3, hf3⟩
  have ha3 := HAC.out.fr hf3 (by omega) (by omega)
  have k0 : w3.cell? ⟨ab, 0, none⟩ = some (.int .i64 0) := by rw [cell_of_block ha3.blk]; rfl
  have k1 : w3.cell? ⟨ab, 1, none⟩ = some (.int .i64 0) := by rw [cell_of_block ha3.blk]; rfl
  have k2 : w3.frozen? ⟨ab, 0, none⟩ = false := free_of_block ha3.blk
  have k3 : w3.frozen? ⟨ab, 1, none⟩ = false := free_of_block ha3.blk
  obtain ⟨w4, hw4⟩ : ∃ y, (w3.setCell ⟨ab, 0, none⟩ (.int .i64 p1)).setCell ⟨ab, 1, none⟩ (.int .i64 p2) = y := ⟨_, rfl⟩
  have hf4 : Fr (fun k => k = ab) w3 w4 := by rw [← hw4]; exact (Fr.setCell (S := fun k => k = ab) _ _ _ rfl).trans (Fr.setCell (S := fun k => k = ab) _ _ _ rfl) (fun _ _ h => h)
  have hb4 : w4.heap[ab]? = some (.cells #[.int .i64 p1, .int .i64 p2, .map (some mb)] 59 (0, 0)) := by
    rw [← hw4, block_setCell (block_setCell ha3.blk _)]; rfl
  have hm4 : mapF w4 Try.prog 3 mb 0 (vm []) := ha3.map.of_block (hf4.block mb ha3.map.lt (fun e => ha3.ne e.symm))
  obtain ⟨zb, hzb⟩ : ∃ z, w4.heap.size = z := ⟨_, rfl⟩
  obtain ⟨w5, hw5⟩ : ∃ y, w4.alloc (.cells #[.int .i64 0, .int .i64 0] 23) = y := ⟨_, rfl⟩
  have hf5 : Fr (fun _ => False) w4 w5 := by rw [← hw5]; exact Fr.alloc _ _ _
  have hz5 : w5.heap[zb]? = some (.cells #[.int .i64 0, .int .i64 0] 23 (0, 0)) := by rw [← hw5, ← hzb]; exact block_alloc _ _
  have hb5 := (hf5.block ab (lt_of_block hb4) id).trans hb4
  have hm5 := hm4.of_block (hf5.block mb hm4.lt id)
  have hR5 := (hR3.fr hf4 (by omega) (fun k hk e => by have := HVW.out k hk; omega)).fr hf5 id (fun _ _ => id)
  have hzab : ab < zb := by rw [← hzb]; exact lt_of_block hb4
  have hzmb : mb < zb := by rw [← hzb]; exact hm4.lt
  have hne := HAC.out.ne
  have HF5 := hide ((((HF2.out.trans hf3 (fun k _ hk => by omega)).trans hf4 (fun k _ hk => by omega))).trans hf5 (fun _ _ h => h.elim))
  have HW4 := hide hw4
  have HW5 := hide hw5
  have HZB := hide hzb
  have HB5 := hide hb5
  have HM5 := hide hm5
  have HR5 := hide hR5
  have HZ5 := hide hz5
  clear hR3 hf3 ha3 hw4 hf4 hb4 hm4 hw5 hzb hf5 hz5 hb5 hm5 hR5
  go_upto_region 4 with fail
  rw [HW4.out]
  go_upto_region 5 with fail
  rw [HW5.out, HZB.out]
  have hcl : ∀ wx, Fr (fun k => k = rb ∨ k = mb ∨ zb < k) w5 wx → wx.heap[ab]? = some (.cells #[.int .i64 p1, .int .i64 p2, .map (some mb)] 59 (0, 0)) ∧ wx.heap[zb]? = some (.cells #[.int .i64 0, .int .i64 0] 23 (0, 0)) := fun wx hf =>
    ⟨(hf.block ab (lt_of_block HB5.out) (by omega)).trans HB5.out, (hf.block zb (lt_of_block HZ5.out) (by omega)).trans HZ5.out⟩
  have hL5 : ∀ wx, Calls Try.prog 9 #[.agg #[.int .i64 p1, .int .i64 p2], .agg #[.int .i64 0, .int .i64 0]] wx fun e w' => e = .returned (.bool (!fi0)) ∧ Fr (fun _ => False) wx w' := fun wx => by
    have := less_any wx (p1, p2) (0, 0)
    rwa [show less (p1, p2) (0, 0) = !fi0 by rw [← HFI.out, Bool.not_not]] at this
  have hce : ∀ wx, Fr (fun _ => False) w5 wx → wx.cell? ⟨ab, 0, none⟩ = some (.int .i64 p1) ∧ wx.cell? ⟨ab, 1, none⟩ = some (.int .i64 p2) ∧ wx.cell? ⟨zb, 0, none⟩ = some (.int .i64 0) ∧ wx.cell? ⟨zb, 1, none⟩ = some (.int .i64 0) := fun wx hf => by
    obtain ⟨h1, h2⟩ := hcl wx (hf.mono (fun _ _ h => h.elim))
    exact ⟨by rw [cell_of_block h1]; rfl, by rw [cell_of_block h1]; rfl, by rw [cell_of_block h2]; rfl, by rw [cell_of_block h2]; rfl⟩
  have HCL := hide hcl
  have HL5 := hide hL5
  have HCE := hide hce
  obtain ⟨c0, c1, c2, c3⟩ := hce w5 (Fr.refl _ _)
  clear hcl hL5 hce k0 k1 k2 k3
  go_region_held3 (fun w' => w'.cell? ⟨ab, 0, none⟩ = some (.int .i64 p1) ∧ w'.cell? ⟨ab, 1, none⟩ = some (.int .i64 p2) ∧ w'.cell? ⟨zb, 0, none⟩ = some (.int .i64 0) ∧ w'.cell? ⟨zb, 1, none⟩ = some (.int .i64 0))
    (go_keep)
    ((go_at_call 9; refine (HL5.out _).mono ?_; rintro e w6 ⟨rfl, hf6⟩; have hf6' := (Fr.refl (fun _ => False) w5).drew.trans hf6 (fun _ _ h => h); obtain ⟨d0, d1, d2, d3⟩ := HCE.out w6 hf6'; have HF6 := hide hf6'; clear hf6 hf6'))
  all_goals
    clear c0 c1 c2 c3 d0 d1 d2 d3
    go_upto_region 7 with fail
    have hR6 := HR5.out.fr HF6.out id (fun _ _ => id)
    have hcnt := count_any w6 rb v1 bs r1 hR6 512
    rw [HC.out] at hcnt
    have HCNT := hide hcnt
    clear hR6 hcnt
    go_wp2_with fail
    refine HCNT.out.mono ?_
    rintro e w7 ⟨rfl, hR7, hf7⟩
    have HR7 := hide hR7
    have HF7 := hide ((HF6.out.mono (S' := fun k => k = rb ∨ k = mb ∨ zb < k) (fun _ _ h => h.elim)).trans hf7 (fun k _ hk => .inl hk))
    have HM7 := hide ((HM5.out.of_block (HF6.out.block mb HM5.out.lt id)).of_block (hf7.block mb (Nat.lt_of_lt_of_le HM5.out.lt HF6.out.size) (by omega)))
    clear hR7 hf7
    go_wp2_with fail
    go_loopw [7, 8, 9] (fun fi la nn wr => ∃ (j q : Nat), nn = .int .i64 q ∧ j + q = cn ∧ fi = .bool (ldK bs (p1, p2) (r2, fi0, -1, []) j).2.1 ∧ la = .int .i64 (ldK bs (p1, p2) (r2, fi0, -1, []) j).2.2.1 ∧ Rd wr rb v1 bs (ldK bs (p1, p2) (r2, fi0, -1, []) j).1 ∧ mapF wr Try.prog 3 mb j (vm (ldK bs (p1, p2) (r2, fi0, -1, []) j).2.2.2) ∧ Sorted (ldK bs (p1, p2) (r2, fi0, -1, []) j).2.2.2 ∧ ((ldK bs (p1, p2) (r2, fi0, -1, []) j).2.1 = true → ∀ x ∈ (ldK bs (p1, p2) (r2, fi0, -1, []) j).2.2.2, 0 ≤ x.1 ∧ x.1 < 512) ∧ Fr (fun k => k = rb ∨ k = mb ∨ zb < k) w5 wr)
      (fun _ _ nn _ => (intOf nn).toNat)
    case atStart => exact ⟨0, cn, rfl, by omega, rfl, rfl, HR7.out, HM7.out, List.Pairwise.nil, (fun _ x hx => by cases hx), HF7.out⟩
    case round =>
      obtain ⟨j, q, rfl, hjq, rfl, rfl, hr, hm, hst, hsl, hf⟩ := hrel
      have hstep : ldK bs (p1, p2) (r2, fi0, -1, []) (j + 1) = ldStep bs (p1, p2) (ldK bs (p1, p2) (r2, fi0, -1, []) j) := rfl
      obtain ⟨⟨rj, fj, la, lj⟩, hs⟩ : ∃ s, ldK bs (p1, p2) (r2, fi0, -1, []) j = s := ⟨_, rfl⟩
      rw [hs] at hstep hr hm hst hsl ⊢
      simp only at hr hm hst hsl
      have HR := hide hr
      have HM := hide hm
      have HST := hide hst
      have HSL := hide hsl
      have HF := hide hf
      have HS := hide hs
      clear hr hm hst hsl hf hs
      by_cases hq : q = 0
      · subst hq
        have hjc : j = cn := by omega
        subst hjc
        have hT := HT.out
        rw [HS.out] at hT
        simp only at hT
        obtain ⟨⟨wy, fin⟩, hE⟩ : ∃ p, rj.end_ bs = p := ⟨_, rfl⟩
        have cE := end_any wr rb v1 bs rj HR.out
        rw [hE] at cE hT
        simp only at cE hT
        have CE := hide cE
        have hcase : (wy ≠ 0 ∧ loadT bs = none) ∨ (wy = 0 ∧ fj = false ∧ loadT bs = none) ∨ (wy = 0 ∧ fj = true ∧ loadT bs = some ((p1, p2), lj)) := by
          by_cases h1 : wy = 0
          · cases fj with
            | false => right; left; exact ⟨h1, rfl, by rw [hT, if_pos (.inr rfl)]⟩
            | true => right; right; exact ⟨h1, rfl, by rw [hT, if_neg (by simp [h1])]⟩
          · left; exact ⟨h1, by rw [hT, if_pos (.inl h1)]⟩
        have hFw : ∀ wx, Fr (fun k => k = rb) wr wx → Fr (fun _ => False) w wx := fun wx hfx => ((HF5.out.trans HF.out (fun k _ hk => by have := HF5.out.size; omega)).trans hfx (fun k _ hk => by omega)).fresh (fun _ h => h)
        have HFW := hide hFw
        clear hT hE cE hstep hFw
        rcases hcase with ⟨hwy, hl⟩ | ⟨rfl, rfl, hl⟩ | ⟨rfl, rfl, hl⟩
        · have hwb : (wy != 0) = true := by rw [bne_iff_ne]; exact hwy
          have HL := hide hl
          clear hl hwy
          go_wp2_with fail
          refine CE.out.mono ?_
          rintro e y1 ⟨rfl, hr, hf⟩
          have HFy := hide hf
          clear hr hf
          go_wp2_with fail
          go_ret2
          exact ⟨.inl ⟨HL.out, rfl⟩, HFW.out _ HFy.out⟩
        · have HL := hide hl
          clear hl
          go_wp2_with fail
          refine CE.out.mono ?_
          rintro e y1 ⟨rfl, hr, hf⟩
          have HFy := hide hf
          clear hr hf
          go_wp2_with fail
          go_ret2
          exact ⟨.inl ⟨HL.out, rfl⟩, HFW.out _ HFy.out⟩
        · have HL := hide hl
          clear hl
          go_wp2_with fail
          refine CE.out.mono ?_
          rintro e y1 ⟨rfl, hr, hf⟩
          have hmy := HM.out.of_block (hf.block mb HM.out.lt (by omega))
          have hby := (HCL.out y1 (HF.out.trans hf (fun k _ hk => .inl hk))).1
          have HMY := hide (hmy.mono (n' := 512) (by omega))
          have HBY := hide hby
          have HFy := hide hf
          clear hr hf hmy hby
          go_wp2_with fail
          go_ret2
          exact ⟨.inr ⟨(p1, p2), lj, ab, mb, HL.out, rfl, ⟨HBY.out, HMY.out, hne, HST.out, HSL.out (by first | trivial | rfl)⟩, by omega, by omega⟩, HFW.out _ HFy.out⟩
      · obtain ⟨⟨iv, ra⟩, hA⟩ : ∃ p, rj.get bs 4 = p := ⟨_, rfl⟩
        obtain ⟨⟨⟨x2, x3⟩, rb1⟩, hB⟩ : ∃ p, ra.bal bs = p := ⟨_, rfl⟩
        obtain ⟨⟨tt, rc⟩, hC⟩ : ∃ p, rb1.text bs (bn : Int) = p := ⟨_, rfl⟩
        obtain ⟨t0, ht0⟩ : ∃ c : ByteArray, ByteArray.mk tt.toArray = c := ⟨_, rfl⟩
        have hivl : iv < 4294967296 := by
          have h1 : (rj.get bs 4).1 = iv := by rw [hA]
          have h2 := getN_lt' (rj.take bs 4).1 4 (take_length bs rj 4) (by omega)
          have h3 : (rj.get bs 4).1 = getN (rj.take bs 4).1 := rfl
          omega
        have hst2 : ldK bs (p1, p2) (r2, fi0, -1, []) (j + 1) = (rc, fj && decide (la < (iv : Int)) && decide ((iv : Int) < 512) && less (0, 0) (x2, x3) && !less (p1, p2) (x2, x3), (iv : Int), putV lj ((iv : Int), (x2, x3), t0)) := by
          rw [hstep]; unfold ldStep; simp only [HBN.out, hA, hB, hC, ht0]
        have cA := rdFour_any wr rb v1 bs rj HR.out
        rw [hA] at cA
        have cB : ∀ wx, Rd wx rb v1 bs ra → _ := fun wx hx => getB_any wx rb v1 bs ra hx
        rw [hB] at cB
        have cB' : ∀ wx, Rd wx rb v1 bs ra → Calls Try.prog 37 #[.pointer (some ⟨rb, 0, none⟩)] wx fun e w' => e = .returned (.agg #[.int .i64 x2, .int .i64 x3]) ∧ Rd w' rb v1 bs rb1 ∧ Fr (fun k => k = rb) wx w' := cB
        have cC : ∀ wx, Rd wx rb v1 bs rb1 → _ := fun wx hx => rdText_any wx rb v1 bs rb1 hx bn
        rw [hC] at cC
        simp only [ht0] at cA cC
        obtain ⟨l1, hl1⟩ : ∃ q, less (0, 0) (x2, x3) = q := ⟨_, rfl⟩
        obtain ⟨l2, hl2⟩ : ∃ q, less (p1, p2) (x2, x3) = q := ⟨_, rfl⟩
        have hL1 : ∀ wx, Calls Try.prog 9 #[.agg #[.int .i64 0, .int .i64 0], .agg #[.int .i64 x2, .int .i64 x3]] wx fun e w' => e = .returned (.bool l1) ∧ Fr (fun _ => False) wx w' := fun wx => by
          have := less_any wx (0, 0) (x2, x3); rwa [hl1] at this
        have hL2 : ∀ wx, Calls Try.prog 9 #[.agg #[.int .i64 p1, .int .i64 p2], .agg #[.int .i64 x2, .int .i64 x3]] wx fun e w' => e = .returned (.bool l2) ∧ Fr (fun _ => False) wx w' := fun wx => by
          have := less_any wx (p1, p2) (x2, x3); rwa [hl2] at this
        rw [hl1, hl2] at hst2
        have HSTEP := hide hst2
        have CA := hide cA
        have CB := hide cB'
        have CC := hide cC
        have HL1 := hide hL1
        have HL2 := hide hL2
        have hq1 : (0 : Int) < (q : Int) := by omega
        clear hst2 hstep hA hB hC ht0 cA cB cB' cC hq hl1 hl2 hL1 hL2
        go_wp2_with fail
        refine CA.out.mono ?_
        rintro e y1 ⟨rfl, hr, hf⟩
        have G1 := hide (HF.out.trans hf (fun k _ hk => .inl hk))
        have M1 := hide (HM.out.of_block (hf.block mb HM.out.lt (by omega)))
        have cb := CB.out y1 hr
        have CB1 := hide cb
        clear hr hf cb
        go_wp2_with fail
        refine CB1.out.mono ?_
        rintro e y2 ⟨rfl, hr, hf⟩
        have G2 := hide (G1.out.trans hf (fun k _ hk => .inl hk))
        have M2 := hide (M1.out.of_block (hf.block mb M1.out.lt (by omega)))
        have cc := CC.out y2 hr
        have CC1 := hide cc
        clear hr hf cc
        go_wp2_with fail
        refine CC1.out.mono ?_
        rintro e y3 ⟨rfl, hr, hf⟩
        have hg3 := G2.out.trans hf (fun k _ hk => .inl hk)
        have hm3 := M2.out.of_block (hf.block mb M2.out.lt (by omega))
        obtain ⟨xb, hxb⟩ : ∃ xb, y3.heap.size = xb := ⟨_, rfl⟩
        obtain ⟨y4, hy4⟩ : ∃ wa, y3.alloc (.cells #[.int .i64 iv, .int .i64 x2, .int .i64 x3, .string t0] 40) = wa := ⟨_, rfl⟩
        have hb4 : y4.heap[xb]? = some (.cells #[.int .i64 iv, .int .i64 x2, .int .i64 x3, .string t0] 40 (0, 0)) := by rw [← hy4, ← hxb]; exact block_alloc _ _
        have hfa : Fr (fun _ => False) y3 y4 := by rw [← hy4]; exact Fr.alloc _ _ _
        have R4 := hide (hr.fr hfa id (fun _ _ => id))
        have M4 := hide (hm3.of_block (hfa.block mb hm3.lt id))
        have G4 := hide (hg3.trans hfa (fun _ _ h => h.elim))
        have hce4 : ∀ wx, Fr (fun _ => False) y4 wx → wx.cell? ⟨ab, 0, none⟩ = some (.int .i64 p1) ∧ wx.cell? ⟨ab, 1, none⟩ = some (.int .i64 p2) ∧ wx.cell? ⟨zb, 0, none⟩ = some (.int .i64 0) ∧ wx.cell? ⟨zb, 1, none⟩ = some (.int .i64 0) ∧ wx.cell? ⟨xb, 0, none⟩ = some (.int .i64 iv) ∧ wx.cell? ⟨xb, 1, none⟩ = some (.int .i64 x2) ∧ wx.cell? ⟨xb, 2, none⟩ = some (.int .i64 x3) := fun wx hfx => by
          obtain ⟨h1, h2⟩ := HCL.out wx (G4.out.trans hfx (fun _ _ h => h.elim))
          have h3 := (hfx.block xb (lt_of_block hb4) id).trans hb4
          exact ⟨by rw [cell_of_block h1]; rfl, by rw [cell_of_block h1]; rfl, by rw [cell_of_block h2]; rfl, by rw [cell_of_block h2]; rfl, by rw [cell_of_block h3]; rfl, by rw [cell_of_block h3]; rfl, by rw [cell_of_block h3]; rfl⟩
        have HB4 := hide hb4
        have HCE4 := hide hce4
        have HY4 := hide hy4
        have HXB := hide hxb
        have W0 := hide ((Fr.refl (fun _ => False) y4).drew)
        clear hr hf hg3 hm3 hb4 hfa hce4 hy4 hxb
        obtain ⟨f', hf'⟩ : ∃ f', (fj && decide (la < (iv : Int)) && decide ((iv : Int) < 512) && l1 && !l2) = f' := ⟨_, rfl⟩
        have hstp := HSTEP.out
        rw [hf'] at hstp
        have HSTP := hide hstp
        have hrange : f' = true → fj = true ∧ (iv : Int) < 512 := fun h => by
          rw [← hf'] at h
          simp only [Bool.and_eq_true, decide_eq_true_eq] at h
          exact ⟨h.1.1.1.1, h.1.1.2⟩
        have HRANGE := hide hrange
        have hcase : (fj = false ∧ f' = false) ∨ (fj = true ∧ decide (la < (iv : Int)) = false ∧ f' = false) ∨ (fj = true ∧ decide (la < (iv : Int)) = true ∧ decide ((iv : Int) < 512) = false ∧ f' = false) ∨
            (fj = true ∧ decide (la < (iv : Int)) = true ∧ decide ((iv : Int) < 512) = true ∧ l1 = false ∧ f' = false) ∨ (fj = true ∧ decide (la < (iv : Int)) = true ∧ decide ((iv : Int) < 512) = true ∧ l1 = true ∧ l2 = !f') := by
          rw [← hf']
          cases fj <;> cases decide (la < (iv : Int)) <;> cases decide ((iv : Int) < 512) <;> cases l1 <;> cases l2 <;> simp
        clear hf' hstp hrange
        go_upto_region 11 with fail
        rw [HY4.out, HXB.out]
        rcases hcase with ⟨rfl, rfl⟩ | ⟨rfl, hd1, rfl⟩ | ⟨rfl, hd1, hd2, rfl⟩ | ⟨rfl, hd1, hd2, rfl, rfl⟩ | ⟨rfl, hd1, hd2, rfl, rfl⟩
        case' inl =>
          obtain ⟨f0, f1, f2, f3, f4, f5, f6⟩ := HCE4.out y4 (Fr.refl _ _)
          go_quiet (fail)
          obtain ⟨y5, hy5⟩ : ∃ y, y4.drewN nq = y := ⟨_, rfl⟩
          have HF5 : Hid (Fr (fun _ => False) y4 y5) := by rw [← hy5]; exact (Fr.refl _ _).drewN _
          rw [hy5]
          clear hy5
          clear f0 f1 f2 f3 f4 f5 f6
        case' inr.inl =>
          obtain ⟨f0, f1, f2, f3, f4, f5, f6⟩ := HCE4.out y4 (Fr.refl _ _)
          go_quiet (fail)
          obtain ⟨y5, hy5⟩ : ∃ y, y4.drewN nq = y := ⟨_, rfl⟩
          have HF5 : Hid (Fr (fun _ => False) y4 y5) := by rw [← hy5]; exact (Fr.refl _ _).drewN _
          rw [hy5]
          clear hy5
          clear f0 f1 f2 f3 f4 f5 f6
        case' inr.inr.inl =>
          obtain ⟨f0, f1, f2, f3, f4, f5, f6⟩ := HCE4.out y4 (Fr.refl _ _)
          go_quiet (fail)
          obtain ⟨y5, hy5⟩ : ∃ y, y4.drewN nq = y := ⟨_, rfl⟩
          have HF5 : Hid (Fr (fun _ => False) y4 y5) := by rw [← hy5]; exact (Fr.refl _ _).drewN _
          rw [hy5]
          clear hy5
          clear f0 f1 f2 f3 f4 f5 f6
        case' inr.inr.inr.inl =>
          obtain ⟨f0, f1, f2, f3, f4, f5, f6⟩ := HCE4.out _ W0.out
          first
            | go_region_with ((go_at_call 9; with_reducible refine (HL1.out _).mono ?_; rintro e y5 ⟨rfl, hf5⟩; have HF5 := hide (W0.out.trans hf5 (fun _ _ h => h)); clear hf5))
            | fail
          all_goals
            skip
            clear f0 f1 f2 f3 f4 f5 f6
        case' inr.inr.inr.inr =>
          obtain ⟨f0, f1, f2, f3, f4, f5, f6⟩ := HCE4.out _ W0.out
          go_region_held3 (fun w' => w'.cell? ⟨ab, 0, none⟩ = some (.int .i64 p1) ∧ w'.cell? ⟨ab, 1, none⟩ = some (.int .i64 p2) ∧ w'.cell? ⟨zb, 0, none⟩ = some (.int .i64 0) ∧ w'.cell? ⟨zb, 1, none⟩ = some (.int .i64 0) ∧ w'.cell? ⟨xb, 0, none⟩ = some (.int .i64 iv) ∧ w'.cell? ⟨xb, 1, none⟩ = some (.int .i64 x2) ∧ w'.cell? ⟨xb, 2, none⟩ = some (.int .i64 x3))
            (go_keep)
            (first
              | ((go_at_call 9; with_reducible refine (HL1.out _).mono ?_; rintro e y45 ⟨rfl, hf5⟩; have hf5' := W0.out.trans hf5 (fun _ _ h => h); obtain ⟨d0, d1, d2, d3, d4, d5, d6⟩ := HCE4.out y45 hf5'; have HF45 := hide hf5'; clear hf5 hf5'))
              | ((go_at_call 9; with_reducible refine (HL2.out _).mono ?_; rintro e y5 ⟨rfl, hf5⟩; have hf5' := HF45.out.trans hf5 (fun _ _ h => h); obtain ⟨g0, g1, g2, g3, g4, g5, g6⟩ := HCE4.out y5 hf5'; have HF5 := hide hf5'; clear hf5 hf5')))
          all_goals
            clear f0 f1 f2 f3 f4 f5 f6 d0 d1 d2 d3 d4 d5 d6 g0 g1 g2 g3 g4 g5 g6
        all_goals
          have hb5 := (HF5.out.block xb (lt_of_block HB4.out) id).trans HB4.out
          have x0 : y5.cell? ⟨xb, 0, none⟩ = some (.int .i64 iv) := by rw [cell_of_block hb5]; rfl
          have hb5d : y5.drew.heap[xb]? = some (.cells #[.int .i64 iv, .int .i64 x2, .int .i64 x3, .string t0] 40 (0, 0)) := hb5
          have z0 : y5.drew.cell? ⟨xb, 0, none⟩ = some (.int .i64 iv) := by rw [cell_of_block hb5d]; rfl
          have z1 : y5.drew.cell? ⟨xb, 1, none⟩ = some (.int .i64 x2) := by rw [cell_of_block hb5d]; rfl
          have z2 : y5.drew.cell? ⟨xb, 2, none⟩ = some (.int .i64 x3) := by rw [cell_of_block hb5d]; rfl
          have z3 : y5.drew.cell? ⟨xb, 3, none⟩ = some (.string t0) := by rw [cell_of_block hb5d]; rfl
          have G5 := hide ((G4.out.trans HF5.out (fun _ _ h => h.elim)).drew)
          have z4 : y5.drew.cell? ⟨ab, 2, none⟩ = some (.map (some mb)) := by rw [cell_of_block (HCL.out _ G5.out).1]; rfl
          have hkey : keyOf Try.prog 3 (.int .i64 (iv : Int)) = some (.int .i64 (iv : Int)) := keyOf_int_mk Try.underlying3 (WalkArith.wf_i64 (by omega))
          have hm5 : mapF y5.drew Try.prog 3 mb j (vm lj) := M4.out.of_block (HF5.out.block mb M4.out.lt id)
          obtain ⟨w6, hrun, hm6, ht6⟩ := hm5.store law Try.underlying57 (by unfold maxLen; omega) (.agg #[.int .i64 iv, .int .i64 x2, .int .i64 x3, .string t0]) hkey
          have R5 := hide (R4.out.fr (HF5.out.drew) id (fun _ _ => id))
          have M6 := hide (hm6.congr (fun k => vm_put lj ((iv : Int), (x2, x3), t0) k))
          have T6 := hide ht6
          clear hb5 hb5d hm5 hm6 ht6
          go_upto_region 13 with fail
          go_region_law (fail)
          all_goals
            go_wp2_with fail
            go_roundw
            case rel =>
              refine ⟨j + 1, q - 1, by first | (congr 1; omega) | go_num, by omega, ?_, ?_, ?_, ?_, ?_, ?_, G5.out.trans (Fr.turned (S := fun k => k = rb ∨ k = mb ∨ zb < k) T6.out (.inr (.inl rfl))) (fun _ _ h => h)⟩
              · rw [HSTP.out]
              · rw [HSTP.out]
              · rw [HSTP.out]
                exact R5.out.fr (Fr.turned (S := fun k => k = mb) T6.out rfl) (by omega) (fun k hk e => by have := HVW.out k hk; omega)
              · rw [HSTP.out]; exact M6.out
              · rw [HSTP.out]; exact sorted_put HST.out _
              · rw [HSTP.out]
                intro hh
                obtain ⟨h1, h2⟩ := HRANGE.out hh
                exact put_range (HSL.out (by first | trivial | exact h1 | cases h1)) ⟨by omega, h2⟩
            case measure => simp [intOf]; omega
end Go.Proofs.Ythekgecaeblbbaa
