/- Reply of a transaction. -/
import Derived.Test.YtehneddmamnmiaaTxNew
namespace Go.Proofs.Ytehneddmamnmiaa
open Go.RowKit Go.Maps Go.Cv Go.Shelf
set_option linter.unusedVariables false

def voteOf (r : TxR) (g : Int) : List ByteArray := ((r.V.find? (fun x => decide (x.1 = g))).map (·.2)).getD []
/-- The first k texts of a group put into their places. -/
def place (out : List ByteArray) (ats : List Int) (ts : List ByteArray) : Nat → List ByteArray
  | 0 => out
  | k + 1 => (place out ats ts k).set (ats.getD k 0).toNat (ts.getD k ⟨#[]⟩)
def fillT (r : TxR) : Nat → List ByteArray
  | 0 => List.replicate r.ops.length ⟨#[]⟩
  | n + 1 => match r.S[n]? with | some x => place (fillT r n) x.2 (voteOf r x.1) x.2.length | none => fillT r n
def textsR (r : TxR) : List ByteArray := if r.o = 1 then fillT r r.S.length else []
theorem place_len (out : List ByteArray) (ats : List Int) (ts : List ByteArray) (k : Nat) : (place out ats ts k).length = out.length := by
  induction k with
  | zero => rfl
  | succ k ih => rw [place, List.length_set, ih]
theorem fillT_len (r : TxR) (n : Nat) : (fillT r n).length = r.ops.length := by
  induction n with
  | zero => rw [fillT, List.length_replicate]
  | succ n ih => rw [fillT]; split <;> first | rw [place_len, ih] | exact ih

theorem textsR_len (r : TxR) : (textsR r).length ≤ r.ops.length := by
  unfold textsR; split
  · rw [fillT_len]; exact Nat.le_refl _
  · simp
/-- What makes a transaction's Reply sound. -/
structure OkR (r : TxR) : Prop where
  pl : ∀ x ∈ r.S, ∀ a ∈ x.2, 0 ≤ a ∧ a < r.ops.length
  all : r.o = 1 → ∀ x ∈ r.S, ∃ ts, (x.1, ts) ∈ r.V ∧ ts.length = x.2.length
  len : r.ops.length ≤ 4
  few : r.S.length ≤ 3
  wf : ∀ x ∈ r.S, (Lit.int .i64 x.1).wf = true
  pn : ∀ x ∈ r.S, x.2.length ≤ 4
theorem voteOf_eq {r : TxR} (hn : (r.V.map (·.1)).Nodup) {g : Int} {ts : List ByteArray} (h : (g, ts) ∈ r.V) : voteOf r g = ts := by
  unfold voteOf
  have : r.V.find? (fun x => decide (x.1 = g)) = some (g, ts) := by
    have hg : ∀ l : List (Int × List ByteArray), (l.map (·.1)).Nodup → (g, ts) ∈ l → l.find? (fun x => decide (x.1 = g)) = some (g, ts) := by
      intro l
      induction l with
      | nil => intro _ h; cases h
      | cons x t ih =>
        intro hn h
        rw [List.map_cons, List.nodup_cons] at hn
        rcases List.mem_cons.1 h with rfl | h
        · simp
        · have : x.1 ≠ g := fun e => hn.1 (by rw [e]; exact List.mem_map_of_mem (f := (·.1)) h)
          rw [List.find?_cons_of_neg (by simpa using this)]
          exact ih hn.2 h
    exact hg _ hn h
  rw [this]; rfl

theorem own_cell {w : World} {base e : Nat} {g c n : Nat} {xs : List Value} (h : w.ownsRow base e 1 (.slice (some ⟨g, 0, none⟩) n c) n xs) {k : Nat} (hk : k < n) : ∃ u, xs[k]? = some u ∧ w.cell? ⟨g, k, none⟩ = some u ∧ w.frozen? ⟨g, k, none⟩ = false := by
  have hl := h.1
  obtain ⟨u, hu⟩ : ∃ u, xs[k]? = some u := ⟨_, List.getElem?_eq_getElem (by omega)⟩
  rcases h.2 with ⟨e0, _⟩ | ⟨g', cap, cur, e0, hb, hg, hn, hm, hs, ht⟩
  · cases e0
  · cases e0
    refine ⟨u, hu, ?_, free_of_block hg⟩
    rw [cell_of_block hg]
    rw [← ht, List.getElem?_take] at hu
    rw [if_pos (by omega)] at hu
    simpa using hu

set_option maxRecDepth 100000 in
set_option maxHeartbeats 3200000 in
theorem reply_any (w : World) (X : Nat → Prop) (b0 tb : Nat) (r : TxR) (h : TX w X b0 tb r) (ok : OkR r) :
    Calls Try.prog 13 #[.pointer (some ⟨tb, 0, none⟩)] w fun e w' => ∃ a n c, e = .returned (.agg #[.int .i64 r.o, .slice a n c, .int .i64 r.pos, .int .i64 r.why]) ∧ Reads w' (.slice a n c) (textsR r).length 1 ((textsR r).map .string) ∧ Fr (fun _ => False) w w' ∧ ∀ b, foot (.slice a n c) = some b → w.heap.size ≤ b ∧ b < w'.heap.size := by
  obtain ⟨B, vb, kb, vo, vp, vg, va, vs, vals, h⟩ := h
  have c8 : w.cell? ⟨tb, 8, none⟩ = some (.int .i64 r.o) := h.c 8
  have c9 : w.cell? ⟨tb, 9, none⟩ = some (.int .i64 r.pos) := h.c 9
  have c10 : w.cell? ⟨tb, 10, none⟩ = some (.int .i64 r.why) := h.c 10
  have htb := h.lt
  obtain ⟨o, ho⟩ : ∃ o, r.o = o := ⟨_, rfl⟩
  obtain ⟨pos, hpos⟩ : ∃ o, r.pos = o := ⟨_, rfl⟩
  obtain ⟨why, hwhy⟩ : ∃ o, r.why = o := ⟨_, rfl⟩
  rw [ho] at c8
  rw [hpos] at c9
  rw [hwhy] at c10
  have n1 := World.new_ne w ⟨tb, 8, none⟩ c8
  have n2 := World.new_ne w ⟨tb, 9, none⟩ c9
  have n3 := World.new_ne w ⟨tb, 10, none⟩ c10
  have HH := hide h
  have HOK := hide ok
  have HO := hide ho
  have HP := hide hpos
  have HY := hide hwhy
  rw [ho, hpos, hwhy]
  clear h ok ho hpos hwhy
  go_enter Try.func13, Try.ntmps13
  go_upto_region 1 with fail
  go_region_held3 (fun w' => w'.cell? ⟨tb, 8, none⟩ = some (.int .i64 o) ∧ w'.cell? ⟨tb, 9, none⟩ = some (.int .i64 pos) ∧ w'.cell? ⟨tb, 10, none⟩ = some (.int .i64 why)) (go_keep) (fail)
  obtain ⟨qb, hqb⟩ : ∃ qb, w.heap.size = qb := ⟨_, rfl⟩
  obtain ⟨w2, hw2⟩ : ∃ w2, ((w.alloc (.cells #[.int .i64 0, .slice none 0 0, .int .i64 0, .int .i64 0] 44)).alloc (.cells #[.int .i64 o, .slice none 0 0, .int .i64 pos, .int .i64 why] 44)).drew = w2 := ⟨_, rfl⟩
  have hf2 : Fr (fun _ => False) w w2 := by rw [← hw2]; exact (((Fr.alloc _ _ _).trans (Fr.alloc (fun _ => False) _ _) (fun _ _ h => h))).drew
  have hq : w2.heap[qb]? = some (.cells #[.int .i64 0, .slice none 0 0, .int .i64 0, .int .i64 0] 44 (0, 0)) := by
    rw [← hw2, ← hqb]
    show ((w.alloc _).alloc _).heap[w.heap.size]? = _
    rw [Below.heap_alloc _ _ _ (by simp)]; exact block_alloc _ _
  have hr : w2.heap[qb + 1]? = some (.cells #[.int .i64 o, .slice none 0 0, .int .i64 pos, .int .i64 why] 44 (0, 0)) := by
    rw [← hw2, ← hqb]
    show ((w.alloc _).alloc _).heap[w.heap.size + 1]? = _
    have := block_alloc (w.alloc (.cells #[.int .i64 0, .slice none 0 0, .int .i64 0, .int .i64 0] 44)) (.cells #[.int .i64 o, .slice none 0 0, .int .i64 pos, .int .i64 why] 44)
    simpa using this
  have hsz2 : w2.heap.size = qb + 2 := by rw [← hw2, ← hqb]; simp [World.drew]
  rw [hw2, hqb]
  have HW2 := hide hw2
  have HQB := hide hqb
  have HF2 := hide hf2
  have HQ := hide hq
  have HR := hide hr
  have HZ := hide hsz2
  rw [hqb] at n1 n2 n3
  have hd8 : w2.cell? ⟨tb, 8, none⟩ = some (.int .i64 o) := by have := (HH.out.fr0 hf2).c 8; rw [this]; show some (Value.int .i64 r.o) = _; rw [HO.out]
  have r0 : w2.cell? ⟨qb + 1, 0, none⟩ = some (.int .i64 o) := by rw [cell_of_block hr]; rfl
  have r1 : w2.cell? ⟨qb + 1, 1, none⟩ = some (.slice none 0 0) := by rw [cell_of_block hr]; rfl
  have r2 : w2.cell? ⟨qb + 1, 2, none⟩ = some (.int .i64 pos) := by rw [cell_of_block hr]; rfl
  have r3 : w2.cell? ⟨qb + 1, 3, none⟩ = some (.int .i64 why) := by rw [cell_of_block hr]; rfl
  have fr1 : w2.frozen? ⟨qb + 1, 1, none⟩ = false := free_of_block hr
  clear hw2 hqb hf2 hq hr hsz2 c8 c9 c10 n1 n2 n3 htb
  by_cases h1 : o = 1
  · subst h1
    have q0 : w2.cell? ⟨qb + 1, 0, none⟩ = some (.int .i64 1) := r0
    have hlen := HH.out.ops
    obtain ⟨-, ao, co, rfl, -, -, -⟩ := hlen
    have hd1 : w2.cell? ⟨tb, 1, none⟩ = some (.slice ao r.ops.length co) := (HH.out.fr0 HF2.out).c 1
    obtain ⟨N, hN⟩ : ∃ N, r.ops.length = N := ⟨_, rfl⟩
    have hN4 := HOK.out.len
    rw [hN] at hd1 hN4
    have HN := hide hN
    clear hN
    obtain ⟨i0, hi0, hz0, hz1, hz2⟩ := info_parts infoCStr
    have b2 : i0.bytes * N ≤ 281474976710656 := by rw [hz2]; omega
    have b3 : N ≤ maxLen := by unfold maxLen; omega
    have hgg := HH.out.sp.g
    have hga := HH.out.sp.a
    obtain ⟨nS, hnS⟩ : ∃ nS, r.S.length = nS := ⟨_, rfl⟩
    rw [hnS] at hgg hga
    obtain ⟨ag, cg, rfl⟩ := own_shape hgg
    obtain ⟨aa, ca, rfl⟩ := own_shape hga
    have hnS3 := HOK.out.few
    rw [hnS] at hnS3
    have HNS := hide hnS
    clear hgg hga hnS
    go_upto_region 5 with (first
      | (at_make; refine wpList_make_full _ rfl _ _ _ rfl w2.heap.size 9 i0 _ 1 Try.underlying22 hi0 hz0 hz1 .i64 .i64 _ _ N rfl rfl (by go_num) (by go_num) b2 b3 (Nat.le_refl _) ?_; intro w3 ho3 hg3; have hf3 := Fr.grown (S := fun _ => False) hg3 (by intro k hk; cases hk); have hb3 : w3.heap[qb + 1]? = some (.cells #[.int .i64 1, .slice none 0 0, .int .i64 pos, .int .i64 why] 44 (0, 0)) := (hf3.block (qb + 1) (lt_of_block HR.out) id).trans HR.out; have q1 : w3.cell? ⟨qb + 1, 1, none⟩ = some (.slice none 0 0) := (by rw [cell_of_block hb3]; rfl); have g1 : w3.frozen? ⟨qb + 1, 1, none⟩ = false := free_of_block hb3; have HO3 := hide ho3; have HF3 := hide hf3; have HB3 := hide hb3; clear ho3 hg3 hf3 hb3)
      | fail)
    obtain ⟨w4, hw4⟩ : ∃ w4, w3.setCell ⟨qb + 1, 1, none⟩ (.slice (some ⟨w2.heap.size, 0, none⟩) N N) = w4 := ⟨_, rfl⟩
    rw [hw4]
    obtain ⟨xb, hxb⟩ : ∃ xb, w2.heap.size = xb := ⟨_, rfl⟩
    have hxq := HZ.out
    rw [hxb] at hxq
    have hb4 : w4.heap[qb + 1]? = some (.cells #[.int .i64 1, .slice (some ⟨xb, 0, none⟩) N N, .int .i64 pos, .int .i64 why] 44 (0, 0)) := by
      rw [← hw4, block_setCell HB3.out, hxb]; rfl
    have hf4 : Fr (fun k => k = qb + 1) w3 w4 := by rw [← hw4]; exact Fr.setCell _ _ _ rfl
    have hfw4 : Fr (fun _ => False) w w4 := (HF2.out.trans HF3.out (fun _ _ h => h)).trans hf4 (fun k hk e => by have := HQB.out; omega)
    have ho4 : w4.ownsRow (qb + 2) 9 1 (.slice (some ⟨xb, 0, none⟩) N N) N ((fillT r 0).map .string) := by
      have h1 := HO3.out
      rw [hxb] at h1
      have h2 := ownsRow_fr h1 hf4 (fun k hk e => by cases hk; simp at e; omega)
      rw [hxq] at h2 ⊢
      have h3 : (madeCells (Value.string ⟨#[]⟩ : Value).cells (N * 1)).toList = (fillT r 0).map .string := by
        rw [fillT, HN.out]
        simp [madeCells, Value.cells, List.map_replicate]
        apply List.ext_getElem?
        intro i
        simp [List.getElem?_replicate]
        by_cases h : i < N <;> simp [h, Nat.mod_one]
      rw [h3] at h2; exact h2
    rw [hxb]
    have hq4b : w4.heap[qb]? = some (.cells #[.int .i64 0, .slice none 0 0, .int .i64 0, .int .i64 0] 44 (0, 0)) := by
      rw [hf4.block qb (Nat.lt_of_lt_of_le (lt_of_block HQ.out) HF3.out.size) (by omega), HF3.out.block qb (lt_of_block HQ.out) id]
      exact HQ.out
    have HQ4b := hide hq4b
    clear hq4b
    have HB4 := hide hb4
    have HFW4 := hide hfw4
    have HO4 := hide ho4
    have hq4 : ∀ wx, Fr (fun k => k = xb) w4 wx → Fr (fun _ => False) w wx := fun wx hx => HFW4.out.trans hx (fun k hk e => by have := HQB.out; omega)
    have HQ4 := hide hq4
    have HXQ := hide hxq
    clear hb4 hf4 hfw4 ho4 hw4 hxb hq4 q1 g1 q0 r0 r1 r2 r3 fr1 hd8 hd1 hxq
    have d4 : w4.cell? ⟨tb, 4, none⟩ = some (.slice ag nS cg) := (HH.out.fr0 HFW4.out).c 4
    go_wp2_with fail
    clear d4
    go_loopw [39] (fun i wr => ∃ n : Nat, i = .int .i64 n ∧ n ≤ nS ∧ Fr (fun k => k = xb) w4 wr ∧ wr.ownsRow (qb + 2) 9 1 (.slice (some ⟨xb, 0, none⟩) N N) N ((fillT r n).map .string)) (fun i _ => nS - (intOf i).toNat)
    case atStart => exact ⟨0, rfl, Nat.zero_le _, Fr.refl _ _, HO4.out⟩
    case round =>
      obtain ⟨n, rfl, hn, hf, hown⟩ := hrel
      by_cases hlt : n < nS
      · have in1 : (n : Int) < (nS : Int) := by omega
        have in0 : (0 : Int) ≤ (n : Int) := by omega
        have hT := HH.out.fr0 (HQ4.out wr hf)
        obtain ⟨x, hx⟩ : ∃ x, r.S[n]? = some x := ⟨_, List.getElem?_eq_getElem (by have := HNS.out; omega)⟩
        have hxm := List.mem_of_getElem? hx
        obtain ⟨pv, hpv⟩ : ∃ pv, vs[n]? = some pv := ⟨_, List.getElem?_eq_getElem (by have := HH.out.sp.len; have := HNS.out; omega)⟩
        obtain ⟨hpr, _⟩ := hT.sp.rd n x pv hx hpv
        obtain ⟨ts, htV, htl⟩ := HOK.out.all HO.out x hxm
        have hvo := voteOf_eq HH.out.nd htV
        have hrd := hT.rd _ htV
        have htp := HOK.out.pl x hxm
        have hpn := HOK.out.pn x hxm
        have hro := hown
        obtain ⟨g, ats⟩ := x
        obtain ⟨na, hna⟩ : ∃ na, ats.length = na := ⟨_, rfl⟩
        simp only at hpr htV htl hvo hrd htp hpn
        rw [hna] at hpr htl hpn
        rw [htl] at hrd
        obtain ⟨-, ap, cp, rfl, -, -, hcp⟩ := id hpr
        obtain ⟨-, av, cv, hav, -, -, hcv⟩ := id hrd
        have hgr := hT.groups
        have hgl : (grp r).length = nS := by unfold grp; rw [List.length_map]; exact HNS.out
        obtain ⟨-, ag2, cg2, eg, -, -, hcg⟩ := hgr
        injection eg with e1 e2 e3
        subst e1 e3
        clear e2
        obtain ⟨bg, og, rfl, hcgn⟩ := hcg n (.int .i64 g) (by unfold ints grp; rw [List.map_map, List.getElem?_map, hx]; rfl)
        obtain ⟨-, aa2, ca2, ea, -, -, hca⟩ := Reads.of_own hT.sp.a
        injection ea with e1 e2 e3
        subst e1 e3
        clear e2
        obtain ⟨ba, oa, rfl, hcan⟩ := hca n _ hpv
        have d5 : wr.cell? ⟨tb, 5, none⟩ = some (.slice (some ⟨ba, oa, none⟩) nS ca) := hT.c 5
        have HPV := hide hpv
        have HT := hide hT
        have HX := hide hx
        have HPR := hide hpr
        have HRD := hide hrd
        have HTP := hide htp
        have HVO := hide hvo
        have HNA := hide hna
        have HTL := hide htl
        have HHO := hide hown
        have HF := hide hf
        have HAV := hide hav
        have HTV := hide htV
        clear hx hxm hpv htV htl hvo hrd htp hro hna hgl hT hown hf hav hcg hca hpr
        go_wp2_with fail
        clear d5 hcgn hcan
        go_loopw [52] (fun i wx => ∃ k : Nat, i = .int .i64 k ∧ k ≤ na ∧ Fr (fun k => k = xb) w4 wx ∧ wx.ownsRow (qb + 2) 9 1 (.slice (some ⟨xb, 0, none⟩) N N) N ((place (fillT r n) ats ts k).map .string)) (fun i _ => na - (intOf i).toNat)
        case atStart => exact ⟨0, rfl, Nat.zero_le _, HF.out, HHO.out⟩
        case round =>
          obtain ⟨k, rfl, hk, hf, hown⟩ := hrel
          by_cases hlt2 : k < na
          · have ik1 : (k : Int) < (na : Int) := by omega
            have ik0 : (0 : Int) ≤ (k : Int) := by omega
            have hT := HH.out.fr0 (HQ4.out wr hf)
            obtain ⟨a, ha⟩ : ∃ a, ats[k]? = some a := ⟨_, List.getElem?_eq_getElem (by have := HNA.out; omega)⟩
            obtain ⟨t, ht⟩ : ∃ t, ts[k]? = some t := ⟨_, List.getElem?_eq_getElem (by have := HTL.out; omega)⟩
            obtain ⟨ha0, ha1⟩ := HTP.out a (List.mem_of_getElem? ha)
            obtain ⟨K, rfl⟩ : ∃ K : Nat, a = (K : Int) := ⟨a.toNat, by omega⟩
            have hKN : K < N := by have := HN.out; omega
            have iK0 : (0 : Int) ≤ (K : Int) := by omega
            have iK1 : (K : Int) < (N : Int) := by omega
            have hpr := HPR.out
            have hrd := HRD.out
            obtain ⟨pv, hpv⟩ : ∃ pv, vs[n]? = some pv := ⟨_, List.getElem?_eq_getElem (by have := HH.out.sp.len; have := HNS.out; omega)⟩
            have hpr2 : Reads wr (.slice ap na cp) na 1 (ints ats) := by
              have h1 := (hT.sp.rd n _ _ HX.out HPV.out).1
              rw [show ((g, ats) : Int × List Int).2 = ats from rfl, HNA.out] at h1; exact h1
            clear hpv pv
            obtain ⟨-, ap2, cp2, ep, -, -, hcp2⟩ := hpr2
            injection ep with e1 e2 e3
            subst e1 e3
            clear e2
            obtain ⟨bp, op, rfl, hcpk⟩ := hcp2 k (.int .i64 K) (by unfold ints; rw [List.getElem?_map, ha]; rfl)
            have hrd2 := hT.rd _ HTV.out
            rw [show ((g, ts) : Int × List ByteArray).1 = g from rfl, HAV.out] at hrd2
            obtain ⟨-, av2, cv2, ev, -, -, hcv2⟩ := hrd2
            injection ev with e1 e2 e3
            subst e1 e3
            clear e2
            obtain ⟨bv, ov, rfl, hcvk⟩ := hcv2 k (.string t) (by rw [List.getElem?_map, ht]; rfl)
            have hkey : keyOf Try.prog 3 (.int .i64 g) = some (.int .i64 g) := keyOf_int_mk Try.underlying3 (HOK.out.wf _ (List.mem_of_getElem? HX.out))
            have hS : ∀ wx, Fr (fun k => k = xb) w4 wx → wx.cell? ⟨qb + 1, 1, none⟩ = some (.slice (some ⟨xb, 0, none⟩) N N) ∧ wx.cell? ⟨tb, 6, none⟩ = some (.map (some vb)) ∧ wx.cell? ⟨bv, ov + k, none⟩ = some (.string t) ∧ (Instr.lookup 82 (.map (some vb)) (.int .i64 g) false).run Try.prog wx = .ok (.slice (some ⟨bv, ov, none⟩) na cv) wx := fun wx hx => by
              have hT := HH.out.fr0 (HQ4.out wx hx)
              have hb4 := (hx.block (qb + 1) (lt_of_block HB4.out) (by have := HXQ.out; omega)).trans HB4.out
              refine ⟨by rw [cell_of_block hb4]; rfl, hT.c 6, ?_, ?_⟩
              · have hrd2 := hT.rd _ HTV.out
                rw [show ((g, ts) : Int × List ByteArray).1 = g from rfl, HAV.out] at hrd2
                obtain ⟨-, av2, cv2, ev, -, -, hcv2⟩ := hrd2
                injection ev with e1 e2 e3
                subst e1 e3
                obtain ⟨bv2, ov2, e4, hcvk⟩ := hcv2 k (.string t) (by rw [List.getElem?_map, ht]; rfl)
                cases e4
                exact hcvk
              · rw [hT.vm.toF.run law Try.underlying82 (zeroStrs _) hkey]
                have : votF r.V vals (.int .i64 g) = some (vals g) := by show (if g ∈ r.V.map (·.1) then some (vals g) else none) = _; exact if_pos (List.mem_map_of_mem (f := (·.1)) HTV.out)
                rw [this, HAV.out]; rfl
            obtain ⟨d1, d6, d7, d9⟩ := hS wr hf
            obtain ⟨z1, z6, z7, z9⟩ := hS wr.drew hf.drew
            obtain ⟨y1, y6, y7, y9⟩ := hS (wr.setCell ⟨xb, K, none⟩ (.string t)).drew (hf.trans (Fr.setCell (S := fun k => k = xb) wr ⟨xb, K, none⟩ (.string t) rfl) (fun _ _ h => h)).drew
            have HOW := hide hown
            obtain ⟨uK, -, hcx, hfx⟩ := own_cell hown hKN
            have hcx : wr.drew.cell? ⟨xb, K, none⟩ = some uK := hcx
            have hfx : wr.drew.frozen? ⟨xb, K, none⟩ = false := hfx
            clear hS
            go_upto_region 11 with fail
            go_region_held3 (fun w' => w'.cell? ⟨qb + 1, 1, none⟩ = some (.slice (some ⟨xb, 0, none⟩) N N) ∧ w'.cell? ⟨tb, 6, none⟩ = some (.map (some vb)) ∧ w'.cell? ⟨bv, ov + k, none⟩ = some (.string t) ∧ (Instr.lookup 82 (.map (some vb)) (.int .i64 g) false).run Try.prog w' = .ok (.slice (some ⟨bv, ov, none⟩) na cv) w') (go_keep) (fail)
            clear y1 y6 y7 y9 z1 z6 z7 z9 d1 d6 d7 d9 hcx hfx
            go_wp2_with fail
            go_roundw
            case rel =>
              refine ⟨k + 1, by go_num, by omega, (hf.trans (Fr.setCell (S := fun k => k = xb) wr ⟨xb, K, none⟩ (.string t) rfl) (fun _ _ h => h)).drew, ?_⟩
              have h1 := ownsRow_fr (own_set HOW.out K (.string t)) ((Fr.refl (fun _ => False) _).drew) (fun _ _ => id)
              have h2 : (place (fillT r n) ats ts (k + 1)).map Value.string = ((place (fillT r n) ats ts k).map .string).set K (.string t) := by
                rw [place, List.map_set]
                congr 1
                · rw [List.getD_eq_getElem?_getD, ha]; simp
                · rw [List.getD_eq_getElem?_getD, ht]; rfl
              rw [h2]; exact h1
            case measure => simp [intOf]; omega
          · have ik1 : ¬ (k : Int) < (na : Int) := by omega
            have : k = na := by omega
            subst this
            go_wp2_with fail
            go_roundw
            case rel =>
              refine ⟨n + 1, by go_num, by omega, hf, ?_⟩
              rw [fillT, HX.out]
              show wr.ownsRow _ _ _ _ _ ((place (fillT r n) ats (voteOf r g) ats.length).map .string)
              rw [HVO.out, HNA.out]; exact hown
            case measure => simp [intOf]; omega
      · have in1 : ¬ (n : Int) < (nS : Int) := by omega
        have : n = nS := by omega
        subst this
        have hb := (hf.block (qb + 1) (lt_of_block HB4.out) (by have := HXQ.out; omega)).trans HB4.out
        have hqr : wr.heap[qb]? = some (.cells #[.int .i64 0, .slice none 0 0, .int .i64 0, .int .i64 0] 44 (0, 0)) := by
          rw [hf.block qb (by have := lt_of_block HB4.out; omega) (by have := HXQ.out; omega)]
          exact HQ4b.out
        have q0 : wr.cell? ⟨qb, 0, none⟩ = some (.int .i64 0) := by rw [cell_of_block hqr]; rfl
        have q1 : wr.cell? ⟨qb, 1, none⟩ = some (.slice none 0 0) := by rw [cell_of_block hqr]; rfl
        have q2 : wr.cell? ⟨qb, 2, none⟩ = some (.int .i64 0) := by rw [cell_of_block hqr]; rfl
        have q3 : wr.cell? ⟨qb, 3, none⟩ = some (.int .i64 0) := by rw [cell_of_block hqr]; rfl
        have f0 : wr.frozen? ⟨qb, 0, none⟩ = false := free_of_block hqr
        have f1 : wr.frozen? ⟨qb, 1, none⟩ = false := free_of_block hqr
        have f2 : wr.frozen? ⟨qb, 2, none⟩ = false := free_of_block hqr
        have f3 : wr.frozen? ⟨qb, 3, none⟩ = false := free_of_block hqr
        have p0 : wr.cell? ⟨qb + 1, 0, none⟩ = some (.int .i64 1) := by rw [cell_of_block hb]; rfl
        have p1 : wr.cell? ⟨qb + 1, 1, none⟩ = some (.slice (some ⟨xb, 0, none⟩) N N) := by rw [cell_of_block hb]; rfl
        have p2 : wr.cell? ⟨qb + 1, 2, none⟩ = some (.int .i64 pos) := by rw [cell_of_block hb]; rfl
        have p3 : wr.cell? ⟨qb + 1, 3, none⟩ = some (.int .i64 why) := by rw [cell_of_block hb]; rfl
        have HQR := hide hqr
        have HF := hide hf
        have HOW := hide hown
        clear hb hqr hf hown
        go_wp2_with fail
        have hte : textsR r = fillT r n := by unfold textsR; rw [HO.out, if_pos rfl, HNS.out]
        rw [hte]
        obtain ⟨w5, hw5⟩ : ∃ w5, ((((wr.setCell ⟨qb, 0, none⟩ (.int .i64 1)).setCell ⟨qb, 1, none⟩ (.slice (some ⟨xb, 0, none⟩) N N)).setCell ⟨qb, 2, none⟩ (.int .i64 pos)).setCell ⟨qb, 3, none⟩ (.int .i64 why)) = w5 := ⟨_, rfl⟩
        have hq5 : w5.heap[qb]? = some (.cells #[.int .i64 1, .slice (some ⟨xb, 0, none⟩) N N, .int .i64 pos, .int .i64 why] 44 (0, 0)) := by
          rw [← hw5, block_setCell (block_setCell (block_setCell (block_setCell HQR.out _) _) _) _]; rfl
        have hf5 : Fr (fun k => k = qb) wr w5 := by
          rw [← hw5]
          exact (((Fr.setCell (S := fun k => k = qb) _ _ _ rfl).trans (Fr.setCell (S := fun k => k = qb) _ _ _ rfl) (fun _ _ h => h)).trans (Fr.setCell (S := fun k => k = qb) _ _ _ rfl) (fun _ _ h => h)).trans (Fr.setCell (S := fun k => k = qb) _ _ _ rfl) (fun _ _ h => h)
        rw [hw5]
        have z0 : w5.cell? ⟨qb, 0, none⟩ = some (.int .i64 1) := by rw [cell_of_block hq5]; rfl
        have z1 : w5.cell? ⟨qb, 1, none⟩ = some (.slice (some ⟨xb, 0, none⟩) N N) := by rw [cell_of_block hq5]; rfl
        have z2 : w5.cell? ⟨qb, 2, none⟩ = some (.int .i64 pos) := by rw [cell_of_block hq5]; rfl
        have z3 : w5.cell? ⟨qb, 3, none⟩ = some (.int .i64 why) := by rw [cell_of_block hq5]; rfl
        have hrd5 := Reads.of_own (ownsRow_fr HOW.out hf5 (fun k hk e => by cases hk; simp at e; have := HXQ.out; omega))
        have hl5 : (fillT r n).length = N := by rw [fillT_len]; exact HN.out
        exact bodyPost_ret (v := .agg #[.int .i64 1, .slice (some ⟨xb, 0, none⟩) N N, .int .i64 pos, .int .i64 why]) (by simp [results, Try.results13, go_sem, z0, z1, z2, z3]) rfl
          ⟨_, _, _, rfl, by rw [hl5]; exact hrd5, (HQ4.out _ HF.out).trans hf5 (fun k hk e => by have := HQB.out; omega), fun b hb => by
            have h1 := (HOW.out.lt xb rfl).2
            have h2 := hf5.size
            cases hb
            have := HXQ.out; have := HQB.out
            exact ⟨by show w.heap.size ≤ xb; omega, by show xb < _; omega⟩⟩
  · have hob : (o != 1) = true := by rw [bne_iff_ne]; exact h1
    clear h1
    have q0 : w2.cell? ⟨qb, 0, none⟩ = some (.int .i64 0) := by rw [cell_of_block HQ.out]; rfl
    have q1 : w2.cell? ⟨qb, 1, none⟩ = some (.slice none 0 0) := by rw [cell_of_block HQ.out]; rfl
    have q2 : w2.cell? ⟨qb, 2, none⟩ = some (.int .i64 0) := by rw [cell_of_block HQ.out]; rfl
    have q3 : w2.cell? ⟨qb, 3, none⟩ = some (.int .i64 0) := by rw [cell_of_block HQ.out]; rfl
    have f0 : w2.frozen? ⟨qb, 0, none⟩ = false := free_of_block HQ.out
    have f1 : w2.frozen? ⟨qb, 1, none⟩ = false := free_of_block HQ.out
    have f2 : w2.frozen? ⟨qb, 2, none⟩ = false := free_of_block HQ.out
    have f3 : w2.frozen? ⟨qb, 3, none⟩ = false := free_of_block HQ.out
    go_wp2_with fail
    have hte : textsR r = [] := by unfold textsR; rw [HO.out, if_neg (by rw [bne_iff_ne] at hob; exact hob)]
    rw [hte]
    obtain ⟨w3, hw3⟩ : ∃ w3, ((((w2.setCell ⟨qb, 0, none⟩ (.int .i64 o)).setCell ⟨qb, 1, none⟩ (.slice none 0 0)).setCell ⟨qb, 2, none⟩ (.int .i64 pos)).setCell ⟨qb, 3, none⟩ (.int .i64 why)) = w3 := ⟨_, rfl⟩
    have hq3 : w3.heap[qb]? = some (.cells #[.int .i64 o, .slice none 0 0, .int .i64 pos, .int .i64 why] 44 (0, 0)) := by
      rw [← hw3, block_setCell (block_setCell (block_setCell (block_setCell HQ.out _) _) _) _]; rfl
    have hf3 : Fr (fun k => k = qb) w2 w3 := by
      rw [← hw3]
      exact (((Fr.setCell (S := fun k => k = qb) _ _ _ rfl).trans (Fr.setCell (S := fun k => k = qb) _ _ _ rfl) (fun _ _ h => h)).trans (Fr.setCell (S := fun k => k = qb) _ _ _ rfl) (fun _ _ h => h)).trans (Fr.setCell (S := fun k => k = qb) _ _ _ rfl) (fun _ _ h => h)
    rw [hw3]
    have z0 : w3.cell? ⟨qb, 0, none⟩ = some (.int .i64 o) := by rw [cell_of_block hq3]; rfl
    have z1 : w3.cell? ⟨qb, 1, none⟩ = some (.slice none 0 0) := by rw [cell_of_block hq3]; rfl
    have z2 : w3.cell? ⟨qb, 2, none⟩ = some (.int .i64 pos) := by rw [cell_of_block hq3]; rfl
    have z3 : w3.cell? ⟨qb, 3, none⟩ = some (.int .i64 why) := by rw [cell_of_block hq3]; rfl
    exact bodyPost_ret (v := .agg #[.int .i64 o, .slice none 0 0, .int .i64 pos, .int .i64 why]) (by simp [results, Try.results13, go_sem, z0, z1, z2, z3]) rfl
      ⟨_, _, _, rfl, Reads.nil _ _, HF2.out.trans (hf3.mono (S' := fun k => k = qb) (fun _ _ h => h)) (fun k hk e => by have := HQB.out; omega), by intro b hb; cases hb⟩
end Go.Proofs.Ytehneddmamnmiaa
