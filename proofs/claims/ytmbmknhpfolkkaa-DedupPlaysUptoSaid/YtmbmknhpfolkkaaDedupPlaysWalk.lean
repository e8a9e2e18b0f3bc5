/- DedupPlays's walk. -/
import Derived.Test.YtmbmknhpfolkkaaRefDedup2
import Derived.Test.YtmbmknhpfolkkaaDedupBack
import Derived.Test.YtmbmknhpfolkkaaDedupKeeps
import Derived.Test.YtmbmknhpfolkkaaKnownDedup
import Derived.Test.YtmbmknhpfolkkaaTexts
namespace Go.Proofs.Ytmbmknhpfolkkaa.DedupPlays
open Go.RowKit Go.Maps Go.Cv Go.Shelf
set_option linter.unusedVariables false

/-- One call: kind, id, client, reply. -/
abbrev Ask4 := Int × Int × ByteArray × ByteArray
abbrev cellsAsk (a : Ask4) : List Value := [.int .i64 a.1, .int .i64 a.2.1, .string a.2.2.1, .string a.2.2.2]

theorem doneT_mem {most : Int} {l : List L3} {c : ByteArray} {i : Int} {r : ByteArray} {x : L3} (h : x ∈ doneT most l c i r) : x ∈ l ∨ x = (c, i, r) := by
  unfold doneT lose at h
  have h' : x ∈ l.eraseP (is c) ++ [(c, i, r)] := by
    split at h
    · exact List.mem_of_mem_eraseIdx h
    · exact h
  rcases List.mem_append.1 h' with h | h
  · exact .inl (List.mem_of_mem_eraseP h)
  · exact .inr (by simpa using h)
theorem good_next {most : Int} {l : List L3} (G : Good most l) (c : ByteArray) (i : Int) (r : ByteArray) (hi : (Lit.int .i64 i).wf = true) (hc : c.size < 4294967296) (hr : r.size < 4294967296) : Good most (doneT most l c i r) := by
  have h1 := nodup_erase G.nd c i r
  have h3 : ((l.eraseP (is c) ++ [(c, i, r)]).length : Int) ≤ most + 1 := by
    have := G.len
    have := List.length_eraseP_le (l := l) (p := is c)
    simp; omega
  refine ⟨G.m1, G.m2, lose_le most _ h3 (by have := G.m1; omega), ?_, fun x hx => ?_, fun x hx => ?_⟩
  · unfold doneT lose; split
    · rw [map_eraseIdx0]; exact h1.sublist (List.drop_sublist _ _)
    · exact h1
  · rcases doneT_mem hx with h | rfl
    · exact G.ids x h
    · exact hi
  · rcases doneT_mem hx with h | rfl
    · exact G.sz x h
    · exact ⟨hc, hr⟩
theorem sv_small {most : Int} {l : List L3} (h : ∀ x ∈ l, x.1.size ≤ 1048576 ∧ x.2.2.size ≤ 1048576) (hl : l.length ≤ 64) : (sv most l).length ≤ 200000000 := by
  have e : ∀ l : List L3, (∀ x ∈ l, x.1.size ≤ 1048576 ∧ x.2.2.size ≤ 1048576) → (l.flatMap entry).length ≤ l.length * 2097168 := by
    intro l
    induction l with
    | nil => intro _; simp
    | cons x t ih =>
      intro h
      have h1 := ih (fun y hy => h y (List.mem_cons_of_mem _ hy))
      have h2 := h x List.mem_cons_self
      rw [List.flatMap_cons, List.length_append, List.length_cons, Nat.succ_mul]
      have : (entry x).length = 16 + x.1.size + x.2.2.size := by simp [entry, beN_length]; omega
      omega
  have := e l h
  unfold sv svk
  simp only [List.length_append, beN_length]
  have h2 := Nat.mul_le_mul_right 2097168 hl
  omega

/-- Both tables. -/
structure PR (w : World) (B tb rb : Nat) (v u : Value) (most : Int) (l : List L3) : Prop where
  t : Tb w tb v most l
  r : Rt w rb u most l
  bt : B ≤ tb
  br : B ≤ rb
  ne : tb ≠ rb
  vr : v.ownBlock ≠ some rb
  ut : u.ownBlock ≠ some tb
  dis : ∀ k, v.ownBlock = some k → u.ownBlock ≠ some k
theorem PR.fr {w w' : World} {B tb rb : Nat} {v u : Value} {most : Int} {l : List L3} (h : PR w B tb rb v u most l) (g : Fr (fun _ => False) w w') : PR w' B tb rb v u most l :=
  ⟨h.t.fr0 g, h.r.fr0 g, h.bt, h.br, h.ne, h.vr, h.ut, h.dis⟩
def doneL (most : Int) (l : List L3) (c : ByteArray) (i : Int) (r : ByteArray) : List L3 := if (askT l c i).1 = 1 then doneT most l c i r else l
def doneQ (l : List L3) (c : ByteArray) (i : Int) : Int := if (askT l c i).1 = 1 then 0 else 1
theorem doneAll (w : World) (tb : Nat) (v : Value) (most : Int) (l : List L3) (h : Tb w tb v most l) (hl : l.length ≤ 64) (c : ByteArray) (i : Int) (r : ByteArray) :
    Calls Try.prog 10 #[.pointer (some ⟨tb, 0, none⟩), .string c, .int .i64 i, .string r] w fun e w' => e = .returned (.int .i64 (doneQ l c i)) ∧ Turned w w' tb v most (doneL most l c i r) := by
  unfold doneQ doneL
  by_cases ha : (askT l c i).1 = 1
  · rw [if_pos ha, if_pos ha]; exact done_yes w tb v most l h (by omega) c i r ha
  · rw [if_neg ha, if_neg ha]
    refine (done_no w tb v most l h (by unfold maxLen; omega) c i r ha).mono ?_
    rintro e w' ⟨rfl, hf⟩
    exact ⟨rfl, v, h.fr0 hf, .inl rfl, hf.mono (fun _ _ h => h.elim)⟩
theorem rDoneAll (w : World) (rb : Nat) (u : Value) (most : Int) (l : List L3) (h : Rt w rb u most l) (hl : l.length ≤ 64) (c : ByteArray) (i : Int) (r : ByteArray) :
    Calls Try.prog 18 #[.pointer (some ⟨rb, 0, none⟩), .string c, .int .i64 i, .string r] w fun e w' => e = .returned (.int .i64 (doneQ l c i)) ∧ RTurned w w' rb u most (doneL most l c i r) := by
  unfold doneQ doneL
  by_cases ha : (askT l c i).1 = 1
  · rw [if_pos ha, if_pos ha]; exact rDone_yes w rb u most l h (by omega) c i r ha
  · rw [if_neg ha, if_neg ha]
    refine (rDone_no w rb u most l h (by omega) c i r ha).mono ?_
    rintro e w' ⟨rfl, hf⟩
    exact ⟨rfl, u, h.fr0 hf, .inl rfl, hf.mono (fun _ _ h => h.elim)⟩
theorem good_done {most : Int} {l : List L3} (G : Good most l) (c : ByteArray) (i : Int) (r : ByteArray) (hi : (Lit.int .i64 i).wf = true) (hc : c.size < 4294967296) (hr : r.size < 4294967296) : Good most (doneL most l c i r) := by
  unfold doneL; split
  · exact good_next G c i r hi hc hr
  · exact G
theorem small_done {most : Int} {l : List L3} (h : ∀ x ∈ l, x.1.size ≤ 1048576 ∧ x.2.2.size ≤ 1048576) {c : ByteArray} {i : Int} {r : ByteArray} (hc : c.size ≤ 1048576) (hr : r.size ≤ 1048576) : ∀ x ∈ doneL most l c i r, x.1.size ≤ 1048576 ∧ x.2.2.size ≤ 1048576 := by
  unfold doneL; split
  · intro x hx
    rcases doneT_mem hx with h1 | rfl
    · exact h x h1
    · exact ⟨hc, hr⟩
  · exact h
/-- Behind the program's Done. -/
structure Mid (w0 w : World) (B tb rb : Nat) (v0 v u : Value) (most : Int) (l l' : List L3) : Prop where
  t : Tb w tb v most l'
  r : Rt w rb u most l
  vr : v.ownBlock ≠ some rb
  dis : ∀ k, v.ownBlock = some k → u.ownBlock ≠ some k
  own : v.ownBlock = v0.ownBlock ∨ ∀ k, v.ownBlock = some k → w0.heap.size ≤ k
  f : Fr (fun k => k = tb ∨ v0.ownBlock = some k) w0 w
theorem PR.mid {w w1 : World} {B tb rb : Nat} {v u : Value} {most : Int} {l l' : List L3} (h : PR w B tb rb v u most l) (ht : Turned w w1 tb v most l') : ∃ v', Mid w w1 B tb rb v v' u most l l' := by
  obtain ⟨v', h1, h2, h3⟩ := ht
  have hrl := lt_of_block h.r.blk
  refine ⟨v', h1, h.r.fr h3 (fun e => e.elim (fun e => h.ne e.symm) h.vr) (fun k hk e => e.elim (fun e => h.ut (e ▸ hk)) (fun e => h.dis k e hk)), ?_, ?_, h2, h3⟩
  · rcases h2 with h2 | h2
    · rw [h2]; exact h.vr
    · intro e; have := h2 _ e; omega
  · intro k hk e
    rcases h2 with h2 | h2
    · exact h.dis k (h2 ▸ hk) e
    · have := h2 k hk; have := (h.r.own.lt k e).2; omega
theorem Mid.pair {w0 w w1 : World} {B tb rb : Nat} {v0 v u : Value} {most : Int} {l l' : List L3} (hp : PR w0 B tb rb v0 u most l) (h : Mid w0 w B tb rb v0 v u most l l') (ht : RTurned w w1 rb u most l') : ∃ u', PR w1 B tb rb v u' most l' ∧ Fr (fun k => k = rb ∨ u.ownBlock = some k) w w1 := by
  obtain ⟨u', h1, h2, h3⟩ := ht
  have htl := lt_of_block h.t.blk
  refine ⟨u', ⟨h.t.fr h3 (fun e => e.elim hp.ne (fun e => hp.ut e)) (fun k hk e => e.elim (fun e => h.vr (e ▸ hk)) (fun e => h.dis k hk e)), h1, hp.bt, hp.br, hp.ne, h.vr, ?_, ?_⟩, h3⟩
  · rcases h2 with h2 | h2
    · rw [h2]; exact hp.ut
    · intro e; have := h2 _ e; omega
  · intro k hk e
    rcases h2 with h2 | h2
    · exact h.dis k hk (h2 ▸ e)
    · have := h2 k e; have := (h.t.own.lt k hk).2; omega

set_option maxRecDepth 100000 in
set_option maxHeartbeats 12800000 in
theorem walk (w : World) (a0 : Int) (wf0 : (Lit.int .i64 a0).wf = true) (v1 : Value) (l1 : List Ask4) (h1 : Reads w v1 l1.length 4 (l1.flatMap cellsAsk)) (hg1 : ∀ a ∈ l1, (Lit.int .i64 a.1).wf = true ∧ (Lit.int .i64 a.2.1).wf = true ∧ a.2.2.1.size ≤ 1048576 ∧ a.2.2.2.size ≤ 1048576) (hl1 : l1.length ≤ 1048576) :
    Calls Try.prog 6 #[.int .i64 a0, v1] w fun e w' => e = .returned (.bool true) ∧ Below w.heap.size w w' := by
  obtain ⟨n1, hn1⟩ : ∃ n, l1.length = n := ⟨_, rfl⟩
  rw [hn1] at h1 hl1
  obtain ⟨-, s1, k1, rfl, -, -, -⟩ := id h1
  have hn9 : (n1 : Int) ≤ 1048576 := by omega
  have HR := hide h1
  have HN := hide hn1
  have HG := hide hg1
  clear h1 hn1 hg1 wf0
  by_cases hbad : a0 < 1 ∨ 64 < a0
  · have hc : a0 < 1 ∨ (¬ a0 < 1 ∧ 64 < a0) := by omega
    have HNO := hide (new_no w a0 hbad)
    clear hbad
    rcases hc with i0 | ⟨i0, i1⟩
    all_goals
      go_enter Try.func6, Try.ntmps6
      go_wp2_with fail
      refine HNO.out.mono ?_
      rintro e w1 ⟨rfl, rfl⟩
      go_wp2_with fail
      refine (known_any _).mono ?_
      rintro e w2 ⟨rfl, hf⟩
      go_wp2_with fail
      go_ret
      exact ⟨rfl, hf.toBelow (Nat.le_refl _) (fun _ _ h => h)⟩
  · have i0 : ¬ a0 < 1 := by omega
    have i1 : ¬ 64 < a0 := by omega
    clear hbad
    go_enter Try.func6, Try.ntmps6
    go_wp2_with fail
    refine (new_ok w a0 (by omega) (by omega)).mono ?_
    rintro e w1 ⟨rfl, ht1, hf1⟩
    have hs1 := lt_of_block ht1.blk
    have HT1 := hide ht1
    have HF1 := hide hf1
    clear ht1 hf1
    go_wp2_with fail
    refine (rNew_any w1 a0).mono ?_
    rintro e w2 ⟨rfl, hr2, hf2⟩
    have hPR : PR w2 w.heap.size w.heap.size w1.heap.size (.slice none 0 0) (.slice none 0 0) a0 [] :=
      ⟨HT1.out.fr0 hf2, hr2, Nat.le_refl _, by omega, by omega, by simp [Value.ownBlock], by simp [Value.ownBlock], fun k h => by cases h⟩
    have hGood : Good a0 [] := ⟨by omega, by omega, by simp; omega, by simp, by simp, by simp⟩
    obtain ⟨rb, hrb⟩ : ∃ rb, w1.heap.size = rb := ⟨_, rfl⟩
    obtain ⟨tb0, htb0⟩ : ∃ tb, w.heap.size = tb := ⟨_, rfl⟩
    rw [hrb, htb0] at hPR
    have HPR := hide hPR
    have HGD := hide hGood
    have HF2 := hide ((HF1.out.trans hf2 (fun _ _ h => h)).mono (S' := fun k => tb0 ≤ k) (fun _ _ h => h.elim))
    have HTB := hide htb0
    rw [hrb, htb0]
    clear hPR hGood hr2 hf2 hrb htb0 HT1 HF1 hs1
    go_wp2_with fail
    go_loopw [5, 8] (fun t i wr => ∃ (k tb : Nat) (v u : Value) (l : List L3), t = .pointer (some ⟨tb, 0, none⟩) ∧ i = .int .i64 k ∧ k ≤ n1 ∧ k ≤ 100 ∧ PR wr tb0 tb rb v u a0 l ∧ Good a0 l ∧ Hid (∀ x ∈ l, x.1.size ≤ 1048576 ∧ x.2.2.size ≤ 1048576) ∧ Fr (fun k => tb0 ≤ k) w wr)
      (fun _ i _ => n1 - (intOf i).toNat)
    case atStart => exact ⟨0, tb0, _, _, [], rfl, rfl, Nat.zero_le _, by omega, HPR.out, HGD.out, (fun x hx => by cases hx), HF2.out⟩
    case round =>
      obtain ⟨k, tb, v, u, l, rfl, rfl, hk1, hk2, hp, hgd, HSM, hf⟩ := hrel
      have HP := hide hp
      have HGl := hide hgd
      have HF := hide hf
      have hll : l.length ≤ 64 := by have := hgd.len; have := hgd.m2; omega
      clear hp hgd hf
      by_cases hgo : k < n1 ∧ k < 100
      · obtain ⟨hg1, hg2⟩ := hgo
        have ik1 : (k : Int) < (n1 : Int) := by omega
        have ik2 : (k : Int) < 100 := by omega
        have ik0 : (0 : Int) ≤ (k : Int) := by omega
        obtain ⟨x, hx⟩ : ∃ x, l1[k]? = some x := ⟨_, List.getElem?_eq_getElem (by have := HN.out; omega)⟩
        obtain ⟨w1', w2', w3', w4'⟩ := HG.out x (List.mem_of_getElem? hx)
        obtain ⟨b0, o0, rfl, hlt0, hcells⟩ := row_cells (toC := cellsAsk) (fun _ => rfl) HR.out hx (by decide)
        obtain ⟨kd, ide, c, r⟩ := x
        simp only at w1' w2' w3' w4'
        have hbl := HF.out.block b0 hlt0 (by have := HTB.out; omega)
        have e0 := hcells 0 (.int .i64 kd) rfl wr hbl
        rw [Nat.add_zero] at e0
        have e1 := hcells 1 (.int .i64 ide) rfl wr hbl
        have e2 := hcells 2 (.string c) rfl wr hbl
        have e3 := hcells 3 (.string r) rfl wr hbl
        obtain ⟨xb, hxb⟩ : ∃ xb, wr.heap.size = xb := ⟨_, rfl⟩
        obtain ⟨wc, hwc⟩ : ∃ wc, wr.alloc (.cells #[.int .i64 kd, .int .i64 ide, .string c, .string r] 43) = wc := ⟨_, rfl⟩
        have hfc : Fr (fun _ => False) wr wc := by rw [← hwc]; exact Fr.alloc _ _ _
        have hbc : wc.heap[xb]? = some (.cells #[.int .i64 kd, .int .i64 ide, .string c, .string r] 43 (0, 0)) := by rw [← hwc, ← hxb]; exact block_alloc _ _
        have hPc := HP.out.fr hfc
        have hxt : ∀ j, (j = tb ∨ v.ownBlock = some j) ∨ (j = rb ∨ u.ownBlock = some j) → j < xb := fun j hj => by
          rw [← hxb]
          rcases hj with (rfl | hj) | (rfl | hj)
          · exact lt_of_block HP.out.t.blk
          · exact (HP.out.t.own.lt j hj).2
          · exact lt_of_block HP.out.r.blk
          · exact (HP.out.r.own.lt j hj).2
        have hcell : ∀ wx, Fr (fun j => j ≠ xb) wc wx → wx.cell? ⟨xb, 0, none⟩ = some (.int .i64 kd) ∧ wx.cell? ⟨xb, 1, none⟩ = some (.int .i64 ide) ∧ wx.cell? ⟨xb, 2, none⟩ = some (.string c) ∧ wx.cell? ⟨xb, 3, none⟩ = some (.string r) := fun wx hf => by
          have := (hf.block xb (lt_of_block hbc) (fun h => h rfl)).trans hbc
          exact ⟨by rw [cell_of_block this]; rfl, by rw [cell_of_block this]; rfl, by rw [cell_of_block this]; rfl, by rw [cell_of_block this]; rfl⟩
        obtain ⟨z0, z1, z2, z3⟩ := hcell wc (Fr.refl _ _)
        have HPC := hide hPc
        have HCELL := hide hcell
        have HXT := hide hxt
        have HFC := hide (HF.out.trans hfc (fun _ _ h => h.elim))
        have HWC := hide hwc
        have HXB := hide hxb
        clear hx hcells hbl hfc hbc hPc hxt hcell hwc hxb
        have hkind : ((kd == 1) = true) ∨ ((kd == 1) = false ∧ (kd == 2) = true) ∨ ((kd == 1) = false ∧ (kd == 2) = false) := by
          cases h1 : kd == 1 <;> cases h2 : kd == 2 <;> simp
        go_upto_region 11 with fail
        rw [HWC.out, HXB.out]
        rcases hkind with kd1 | ⟨kd1, kd2⟩ | ⟨kd1, kd2⟩
        case' inl =>
          have ha := ask_any wc tb v a0 l HPC.out.t (by unfold maxLen; omega) c ide
          obtain ⟨⟨q, s⟩, hq⟩ : ∃ p, askT l c ide = p := ⟨_, rfl⟩
          have hss : (s.toList != s.toList) = false := by simp
          have hqq : (q != q) = false := by simp
          rw [hq] at ha
          have HA := hide ha
          have HQ := hide hq
          clear ha hq
          go_wp2_with fail
          refine HA.out.mono ?_
          rintro e y1 ⟨rfl, hy1⟩
          obtain ⟨p0, p1, p2, p3⟩ := HCELL.out y1 (hy1.mono (fun _ _ h => h.elim))
          have hr := rAsk_any y1 rb u a0 l (HPC.out.fr hy1).r (by omega) c ide
          rw [HQ.out] at hr
          have HRA := hide hr
          have HY1 := hide hy1
          clear hr hy1
          go_wp2_with fail
          refine HRA.out.mono ?_
          rintro e y2 ⟨rfl, hy2⟩
          have HY2 := hide (HY1.out.trans hy2 (fun _ _ h => h))
          clear hy2
          go_upto_region 24 with fail
          obtain ⟨l', tb', v', u', hnn, HP', HG', HSM', HF'⟩ : ∃ (l' : List L3) (tb' : Nat) (v' u' : Value), Value.pointer (some ⟨tb, 0, none⟩) = .pointer (some ⟨tb', 0, none⟩) ∧ Hid (PR y2 tb0 tb' rb v' u' a0 l') ∧ Hid (Good a0 l') ∧ Hid (∀ x ∈ l', x.1.size ≤ 1048576 ∧ x.2.2.size ≤ 1048576) ∧ Hid (Fr (fun k => tb0 ≤ k) w y2) :=
            ⟨l, tb, v, u, rfl, HPC.out.fr HY2.out, HGl.out, HSM.out, HFC.out.trans HY2.out (fun _ _ h => h.elim)⟩
          rw [hnn]
          generalize y2 = wE at *
        case' inr.inl =>
          have hfr0 : Fr (fun _ => False) wc wc.drew := (Fr.refl (fun _ => False) wc).drew
          have hPd := HPC.out.fr hfr0
          have hd1 := doneAll wc.drew tb v a0 l hPd.t hll c ide r
          have hd2 : ∀ y v1', Mid wc.drew y tb0 tb rb v v1' u a0 l (doneL a0 l c ide r) → Calls Try.prog 18 #[.pointer (some ⟨rb, 0, none⟩), .string c, .int .i64 ide, .string r] y fun e w' => e = .returned (.int .i64 (doneQ l c ide)) ∧ RTurned y w' rb u a0 (doneL a0 l c ide r) := fun y v1' hm => rDoneAll y rb u a0 l hm.r hll c ide r
          have hgd2 := good_done HGl.out c ide r w2' (by omega) (by omega)
          have hsm2 := small_done (c := c) (i := ide) (r := r) (most := a0) HSM.out w3' w4'
          obtain ⟨q, hq⟩ : ∃ q, doneQ l c ide = q := ⟨_, rfl⟩
          obtain ⟨l2, hl2⟩ : ∃ l2, doneL a0 l c ide r = l2 := ⟨_, rfl⟩
          rw [hq, hl2] at hd1
          rw [hl2] at hgd2 hsm2
          rw [hq, hl2] at hd2
          have hqq : (q != q) = false := by simp
          have FR0 := hide hfr0
          have PRD := hide hPd
          have HD1 := hide hd1
          have HD2 := hide hd2
          have HGD2 := hide hgd2
          have HSM2 := hide hsm2
          clear hfr0 hPd hd1 hd2 hgd2 hsm2 hq hl2
          go_wp2_with fail
          go_region_held3 (fun w' => w'.cell? ⟨xb, 1, none⟩ = some (.int .i64 ide) ∧ w'.cell? ⟨xb, 2, none⟩ = some (.string c) ∧ w'.cell? ⟨xb, 3, none⟩ = some (.string r)) (go_keep)
            (first
              | (go_at_call 10; with_reducible refine HD1.out.mono ?_; rintro e y1 ⟨rfl, ht⟩; obtain ⟨v1', hm⟩ := PRD.out.mid ht; have hx := (FR0.out.mono (S' := fun j => j ≠ xb) (fun _ _ h => h.elim)).trans (hm.f.mono (S' := fun j => j ≠ xb) (fun j _ h => Nat.ne_of_lt (HXT.out j (.inl h)))) (fun _ _ h => h); obtain ⟨p0, p1, p2, p3⟩ := HCELL.out y1 hx; have HM := hide hm; have HX1 := hide hx; clear ht hm hx)
              | (go_at_call 18; with_reducible refine (HD2.out _ _ HM.out).mono ?_; rintro e y2 ⟨rfl, ht⟩; obtain ⟨u2, hp2, hfr⟩ := Mid.pair PRD.out HM.out ht; have hx := HX1.out.trans (hfr.mono (S' := fun j => j ≠ xb) (fun j _ h => Nat.ne_of_lt (HXT.out j (.inr h)))) (fun _ _ h => h); obtain ⟨p4, p5, p6, p7⟩ := HCELL.out y2 hx; have HP2 := hide hp2; have HFR2 := hide hfr; clear hp2 hfr hx))
          all_goals
            go_upto_region 24 with fail
            obtain ⟨l', tb', v', u', hnn, HP', HG', HSM', HF'⟩ : ∃ (l' : List L3) (tb' : Nat) (v' u' : Value), Value.pointer (some ⟨tb, 0, none⟩) = .pointer (some ⟨tb', 0, none⟩) ∧ Hid (PR y2 tb0 tb' rb v' u' a0 l') ∧ Hid (Good a0 l') ∧ Hid (∀ x ∈ l', x.1.size ≤ 1048576 ∧ x.2.2.size ≤ 1048576) ∧ Hid (Fr (fun k => tb0 ≤ k) w y2) :=
              ⟨l2, tb, _, u2, rfl, HP2.out, HGD2.out, HSM2.out, ((HFC.out.trans FR0.out (fun _ _ h => h.elim)).trans HM.out.f (fun j _ h => by
                rcases h with rfl | h
                · exact HPC.out.bt
                · have := (HPC.out.t.own.lt j h).1; have := HPC.out.bt; omega)).trans HFR2.out (fun j _ h => by
                rcases h with rfl | h
                · exact HPC.out.br
                · have := (HPC.out.r.own.lt j h).1; have := HPC.out.br; omega)⟩
            rw [hnn]
            generalize y2 = wE at *
        case' inr.inr =>
          have hlen : (sv a0 l).length ≤ 200000000 := sv_small HSM.out hll
          have hsv := save_any wc tb v a0 l HPC.out.t (by omega) (by omega)
          have HSV := hide hsv
          clear hsv
          go_wp2_with fail
          refine HSV.out.mono ?_
          rintro e y1 ⟨v8, rfl, ho8, hf8⟩
          have hld := load_any y1 v8 (sv a0 l) (Reads.of_own ho8) (by omega)
          have HLD := hide hld
          have HF8 := hide hf8
          obtain ⟨a8, c8, rfl⟩ := own_shape ho8
          clear hld ho8 hf8
          go_wp2_with fail
          refine HLD.out.mono ?_
          rintro e y2 ⟨hlo, hf9⟩
          have hlo2 : ∃ tb2 v2, e = .returned (.tuple #[.pointer (some ⟨tb2, 0, none⟩), .int .i64 0]) ∧ Tb y2 tb2 v2 a0 l ∧ y1.heap.size ≤ tb2 := by
            rcases hlo with ⟨h1, _⟩ | ⟨m, l9, tb2, v2, h1, h2, h3, h4⟩
            · rw [load_saved HGl.out] at h1; cases h1
            · rw [load_saved HGl.out] at h1; cases h1; exact ⟨tb2, v2, h2, h3, h4⟩
          clear hlo
          obtain ⟨tb2, v2, rfl, ht2, hs2⟩ := hlo2
          go_upto_region 24 with fail
          have hff := HF8.out.trans hf9 (fun _ _ h => h)
          have hrr := HPC.out.r
          have hsz8 := HF8.out.size
          have hrl := lt_of_block hrr.blk
          obtain ⟨l', tb', v', u', hnn, HP', HG', HSM', HF'⟩ : ∃ (l' : List L3) (tb' : Nat) (v' u' : Value), Value.pointer (some ⟨tb2, 0, none⟩) = .pointer (some ⟨tb', 0, none⟩) ∧ Hid (PR y2 tb0 tb' rb v' u' a0 l') ∧ Hid (Good a0 l') ∧ Hid (∀ x ∈ l', x.1.size ≤ 1048576 ∧ x.2.2.size ≤ 1048576) ∧ Hid (Fr (fun k => tb0 ≤ k) w y2) :=
            ⟨l, tb2, v2, u, rfl, ⟨ht2, hrr.fr0 hff, by have := HPC.out.br; omega, HPC.out.br, by omega, fun e => by have := (ht2.own.lt rb e).1; omega, fun e => by have := (hrr.own.lt tb2 e).2; omega, fun j e1 e2 => by have := (ht2.own.lt j e1).1; have := (hrr.own.lt j e2).2; omega⟩, HGl.out, HSM.out, HFC.out.trans hff (fun _ _ h => h.elim)⟩
          clear ht2 hs2 hff hrr hf9 hsz8 hrl
          rw [hnn]
          generalize y2 = wE at *
        all_goals
          have hll' : l'.length ≤ 64 := by have := HG'.out.len; have := HG'.out.m2; omega
          have hll6 : l'.length ≤ 1000000 := Nat.le_trans hll' (by decide)
          have HL6 := hide hll6
          have hll9 : (l'.map (·.1)).length ≤ 9223372036854775807 := by rw [List.length_map]; exact Nat.le_trans hll' (by decide)
          have HL9 := hide hll9
          have hc1 := clients_any wE tb' v' a0 l' HP'.out.t hll6
          clear hll' hll6 hll9
          have HC1 := hide hc1
          clear hc1 hnn
          go_wp2_with fail
          refine HC1.out.mono ?_
          rintro e q1 ⟨cv, rfl, ho1, hq1⟩
          have hc2 := rClients_any q1 rb u' a0 l' (HP'.out.fr hq1).r HL6.out
          have hrd1 := Reads.of_own ho1
          obtain ⟨ac, cc, rfl⟩ := own_shape ho1
          have HC2 := hide hc2
          have HQ1 := hide hq1
          have HRD1 := hide hrd1
          clear hc2 hq1 ho1 hrd1
          go_wp2_with fail
          refine HC2.out.mono ?_
          rintro e q2 ⟨cv2, rfl, ho2, hq2⟩
          have ht := texts_any q2 _ _ (l'.map (·.1)) (l'.map (·.1)) (by rw [List.length_map]; exact reads_old HRD1.out hq2 (fun _ _ h => h)) (by rw [List.length_map]; exact Reads.of_own ho2) HL9.out
          rw [show decide (l'.map (·.1) = l'.map (·.1)) = true by simp] at ht
          obtain ⟨ac2, cc2, rfl⟩ := own_shape ho2
          have HTX := hide ht
          have HQ2 := hide (HQ1.out.trans hq2 (fun _ _ h => h))
          clear ht hq2 ho2
          go_wp2_with fail
          refine HTX.out.mono ?_
          rintro e q3 ⟨rfl, m3, rfl⟩
          have HQ3 := hide (HQ2.out.drewN m3)
          go_wp2_with fail
          go_roundw
          case rel => exact ⟨k + 1, tb', v', u', l', rfl, by go_num, by omega, by omega, HP'.out.fr HQ3.out, HG'.out, HSM'.out, HF'.out.trans HQ3.out (fun _ _ h => h.elim)⟩
          case measure => simp [intOf]; omega
      · have hex : (k : Int) < (n1 : Int) ∧ ¬ (k : Int) < 100 ∨ ¬ (k : Int) < (n1 : Int) := by omega
        clear hgo
        rcases hex with ⟨ik1, ik2⟩ | ik1
        all_goals
          go_wp2_with fail
          refine (known_any _).mono ?_
          rintro e w10 ⟨rfl, hf10⟩
          go_wp2_with fail
          go_ret
          exact ⟨rfl, (HF.out.trans hf10 (fun j _ hj => hj.elim)).toBelow (Nat.le_refl _) (fun j hj h => by have := HTB.out; omega)⟩
end Go.Proofs.Ytmbmknhpfolkkaa.DedupPlays
