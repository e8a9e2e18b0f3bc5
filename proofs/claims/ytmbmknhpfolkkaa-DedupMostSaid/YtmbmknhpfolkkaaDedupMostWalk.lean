/- DedupMost's walk. -/
import Derived.Test.YtmbmknhpfolkkaaKnownDedup
import Derived.Test.YtmbmknhpfolkkaaDedup4
import Derived.Test.YtmbmknhpfolkkaaTexts
import Derived.Deep.CutBlock
namespace Go.Proofs.Ytmbmknhpfolkkaa.DedupMost
open Go.RowKit Go.Maps Go.Cv Go.Shelf
set_option linter.unusedVariables false

def notc (c : ByteArray) (y : ByteArray) : Bool := decide (y ≠ c)
theorem filter_erase (c : ByteArray) : ∀ (l : List L3), (l.map (·.1)).Nodup → (l.map (·.1)).filter (notc c) = (l.eraseP (is c)).map (·.1)
  | [], _ => rfl
  | x :: t, h => by
    simp only [List.map_cons, List.nodup_cons] at h
    by_cases e : x.1 = c
    · have hx : is c x = true := by simp [is, e]
      have hn : notc c x.1 = false := by simp [notc, e]
      rw [List.map_cons, List.filter_cons, hn, List.eraseP_cons, hx]
      simp only [Bool.false_eq_true, if_false, cond_true]
      rw [List.filter_eq_self]
      intro y hy
      have : y ≠ c := fun e2 => h.1 (e ▸ e2 ▸ hy)
      simp [notc, this]
    · have hx : is c x = false := by simp [is, e]
      have hn : notc c x.1 = true := by simp [notc, e]
      rw [List.map_cons, List.filter_cons, hn, List.eraseP_cons, hx]
      simp only [if_true, cond_false, List.map_cons]
      rw [filter_erase c t h.2]
theorem nodup_erase {l : List L3} (h : (l.map (·.1)).Nodup) (c : ByteArray) (i : Int) (r : ByteArray) : ((l.eraseP (is c) ++ [(c, i, r)]).map (·.1)).Nodup := by
  rw [List.map_append, ← filter_erase c l h]
  refine List.nodup_append.2 ⟨h.filter _, by simp, ?_⟩
  intro a ha b hb
  simp at hb; subst hb
  simp [notc] at ha
  exact ha.2
theorem map_eraseIdx0 (l : List L3) : (l.eraseIdx 0).map (·.1) = (l.map (·.1)).drop 1 := by cases l <;> simp

/-- What the loop keeps of the table. -/
structure Keeps (most : Int) (i : Nat) (l : List L3) : Prop where
  nd : (l.map (·.1)).Nodup
  ids : ∀ x ∈ l, x.2.1 < (i : Int)
  len : (l.length : Int) ≤ most
theorem Keeps.fresh {most : Int} {i : Nat} {l : List L3} (h : Keeps most i l) (c : ByteArray) : (askT l c i).1 = 1 := by
  unfold askT
  cases hf : l.find? (is c) with
  | none => rfl
  | some x => simp only [if_pos (h.ids x (List.mem_of_find?_eq_some hf))]
theorem Keeps.next {most : Int} {i : Nat} {l : List L3} (h : Keeps most i l) (h0 : 0 ≤ most) (c r : ByteArray) : Keeps most (i + 1) (doneT most l c i r) := by
  have h1 := nodup_erase h.nd c i r
  have h2 : ∀ x ∈ l.eraseP (is c) ++ [(c, (i : Int), r)], x.2.1 < ((i + 1 : Nat) : Int) := by
    intro x hx
    rcases List.mem_append.1 hx with hx | hx
    · have := h.ids x (List.mem_of_mem_eraseP hx); omega
    · simp at hx; subst hx; simp; omega
  have h3 : ((l.eraseP (is c) ++ [(c, (i : Int), r)]).length : Int) ≤ most + 1 := by
    have := h.len
    have := List.length_eraseP_le (l := l) (p := is c)
    simp; omega
  refine ⟨?_, ?_, lose_le most _ h3 h0⟩
  · unfold doneT lose; split
    · rw [map_eraseIdx0]; exact h1.sublist (List.drop_sublist _ _)
    · exact h1
  · unfold doneT lose; split
    · intro x hx; exact h2 x (List.mem_of_mem_eraseIdx hx)
    · exact h2
theorem Keeps.order {most : Int} {i : Nat} {l : List L3} (h : Keeps most i l) (c r : ByteArray) (n : Nat) (hn : ((l.map (·.1)).filter (notc c)).length + 1 = n) :
    (most < (n : Int) → (doneT most l c i r).map (·.1) = ((l.map (·.1)).filter (notc c) ++ [c]).drop 1) ∧ (¬ most < (n : Int) → (doneT most l c i r).map (·.1) = (l.map (·.1)).filter (notc c) ++ [c]) := by
  have e : (l.eraseP (is c) ++ [(c, (i : Int), r)]).map (·.1) = (l.map (·.1)).filter (notc c) ++ [c] := by
    rw [List.map_append, ← filter_erase c l h.nd]; rfl
  have el : (l.eraseP (is c) ++ [(c, (i : Int), r)]).length = n := by
    rw [← hn, filter_erase c l h.nd]; simp
  unfold doneT lose
  rw [el]
  constructor
  · intro hm; rw [if_pos hm, map_eraseIdx0, e]
  · intro hm; rw [if_neg hm, e]

set_option maxRecDepth 100000 in
set_option maxHeartbeats 3200000 in
theorem walk (w : World) (a0 : Int) (wf0 : (Lit.int .i64 a0).wf = true) (v1 : Value) (cs : List ByteArray) (h1 : Reads w v1 cs.length 1 (cs.flatMap fun s => [.string s])) (_ : ∀ x ∈ cs, x.size ≤ maxLen) (hl : cs.length ≤ maxLen) :
    Calls Try.prog 4 #[.int .i64 a0, v1] w fun e w' => e = .returned (.bool true) ∧ Below w.heap.size w w' := by
  obtain ⟨n0, hn0⟩ : ∃ n, cs.length = n := ⟨_, rfl⟩
  rw [hn0] at h1 hl
  unfold maxLen at hl
  obtain ⟨-, a1, c1, rfl, -, -, hc1⟩ := h1
  obtain ⟨hx1, hx2⟩ := wf_bounds wf0
  obtain ⟨i0, hi0, hz0, hz1, hz2⟩ := info_parts infoStr
  have HC1 := hide hc1
  have HN0 := hide hn0
  clear hc1 hn0 wf0
  by_cases hneg : a0 < 0
  case' pos =>
    have hm0 : 0 ≤ -(a0 + 1) := by omega
    have hm1 : -(a0 + 1) ≤ 9223372036854775807 := by omega
    go_enter Try.func4, Try.ntmps4
    go_upto_region 3 with fail
    generalize -(a0 + 1) = m at *
  case' neg =>
    have hm0 : 0 ≤ a0 := by omega
    have hm1 : a0 ≤ 9223372036854775807 := by omega
    go_enter Try.func4, Try.ntmps4
    go_upto_region 3 with fail
    generalize a0 = m at *
  all_goals
    have hM1 : 1 ≤ 1 + m % 8 := by omega
    have hM2 : 1 + m % 8 ≤ 8 := by omega
    go_wp2_with fail
    refine (new_ok w (1 + m % 8) (by omega) (by omega)).mono ?_
    rintro e w1 ⟨rfl, ht1, hf1⟩
    generalize 1 + m % 8 = M at *
    have HT1 := hide ht1
    have HF1 := hide hf1
    clear ht1 hf1
    go_wp2_with fail
    go_loopw [7, 8] (fun o i wr => ∃ (k n : Nat) (a : Option Addr) (cp : Nat) (v : Value) (l : List L3), i = .int .i64 k ∧ k ≤ 40 ∧ n ≤ 8 ∧ o = .slice a n cp ∧ Reads wr (.slice a n cp) n 1 (sc (l.map (·.1))) ∧ Keeps M k l ∧ Tb wr w.heap.size v M l ∧
        (∀ k, v.ownBlock = some k → w.heap.size ≤ k) ∧ (∀ x, a = some x → w.heap.size < x.block ∧ v.ownBlock ≠ some x.block) ∧ Fr (fun x => w.heap.size ≤ x) w wr)
      (fun _ i _ => 40 - (intOf i).toNat)
    case atStart => exact ⟨0, 0, none, 0, .slice none 0 0, [], rfl, by omega, by omega, rfl, Reads.nil _ _, ⟨by simp, by simp, by simp; omega⟩, HT1.out, (fun _ h => by cases h), (fun _ h => by cases h), HF1.out.mono (fun _ _ h => h.elim)⟩
    case round =>
      obtain ⟨k, n, a, cp, v, l, rfl, hk, hn8, rfl, hr, hkp, ht, hv, ha, hf⟩ := hrel
      have HR := hide hr
      have HK := hide hkp
      have HT := hide ht
      have HV := hide hv
      have HA := hide ha
      have HF := hide hf
      clear hr hkp ht hv ha hf
      by_cases hgo : k < n0 ∧ k < 40
      · obtain ⟨hg1, hg2⟩ := hgo
        obtain ⟨c, hc⟩ : ∃ c, cs[k]? = some c := ⟨_, List.getElem?_eq_getElem (by have := HN0.out; omega)⟩
        obtain ⟨b0, o0, rfl, e1⟩ := HC1.out k (.string c) (by rw [flat_one, List.getElem?_map, hc]; rfl)
        have hbl := World.block_lt_of_cell? w _ e1
        have hblk : ∀ wx, Fr (fun x => w.heap.size ≤ x) w wx → wx.cell? ⟨b0, o0 + k, none⟩ = some (.string c) := fun wx hfx => by
          rw [World.cell?_of_block (w := w) (hfx.block b0 hbl (by simp at hbl ⊢; omega))]; exact e1
        have e1' := hblk wr HF.out
        have HBLK := hide hblk
        have ik1 : (k : Int) < (n0 : Int) := by omega
        have hln : l.length = n := by have := HR.out.1; rw [sc_len, List.length_map, Nat.mul_one] at this; exact this
        have HLN := hide hln
        clear hc e1 hblk hln
        go_wp2_with fail
        refine (done_yes wr w.heap.size v M l HT.out (by have := HLN.out; omega) c k ⟨#[114]⟩ (HK.out.fresh c)).mono ?_
        rintro e w2 ⟨rfl, v2, ht2, hv2, hf2⟩
        have hF2 : Fr (fun x => w.heap.size ≤ x) w w2 := HF.out.trans hf2 (fun x _ hx => by
          rcases hx with rfl | hx
          · exact Nat.le_refl _
          · exact HV.out x hx)
        have hV2 : ∀ k, v2.ownBlock = some k → w.heap.size ≤ k := fun k hk => by
          rcases hv2 with h | h
          · exact HV.out k (h ▸ hk)
          · have := h k hk; have := HF.out.size; omega
        have hR2 : Reads w2 (.slice a n cp) n 1 (sc (l.map (·.1))) := HR.out.fr hf2 (fun x n' c' e hx => by
          cases e
          have := HA.out x rfl
          rcases hx with hx | hx
          · omega
          · exact this.2 hx)
        have HT2 := hide ht2
        have HF2 := hide hF2
        have HV2 := hide hV2
        have HR2 := hide hR2
        have e2 := HBLK.out w2 hF2
        have hnn := HK.out.next (by omega) c ⟨#[114]⟩
        have HKN := hide hnn
        have HKO := hide (HK.out.order c ⟨#[114]⟩)
        have hs2 : w.heap.size ≤ w2.heap.size := hF2.size
        clear ht2 hv2 hf2 hF2 hV2 hR2 hnn
        obtain ⟨ord, hord⟩ : ∃ ord, l.map (·.1) = ord := ⟨_, rfl⟩
        have hol : ord.length = n := by rw [← hord, List.length_map]; exact HLN.out
        have HORD := hide hord
        have HOL := hide hol
        have hr2 := HR2.out
        rw [hord] at hr2
        have HR3 := hide hr2
        clear hord hol hr2
        go_wp2_with fail
        go_loopw [9, 10] (fun o i wx => ∃ (q p c' : Nat) (a' : Option Addr), i = .int .i64 q ∧ q ≤ n ∧ p ≤ q ∧ o = .slice a' p c' ∧ p = ((ord.take q).filter (notc c)).length ∧ wx.ownsRow w2.heap.size 9 1 (.slice a' p c') p (sc ((ord.take q).filter (notc c))) ∧ Fr (fun x => w2.heap.size ≤ x) w2 wx)
          (fun _ i _ => n - (intOf i).toNat)
        case atStart => exact ⟨0, 0, 0, none, rfl, by omega, by omega, rfl, rfl, World.ownsRow_nil _ _ _ _, Fr.refl _ _⟩
        case round =>
          obtain ⟨q, p, c', a', rfl, hq, hpq, rfl, hp, ho, hf⟩ := hrel
          have HO := hide ho
          have HG := hide hf
          have HP := hide hp
          clear ho hf hp
          have hs3 : w2.heap.size ≤ wr.heap.size := HG.out.size
          have hFx : ∀ wy, Fr (fun x => w2.heap.size ≤ x) w2 wy → Fr (fun x => w.heap.size ≤ x) w wy := fun wy hy => HF2.out.trans hy (fun x _ hx => by omega)
          have e3 := HBLK.out wr (hFx wr HG.out)
          have HFX := hide hFx
          clear hFx
          by_cases hqn : q < n
          · obtain ⟨y, hy⟩ : ∃ y, ord[q]? = some y := ⟨_, List.getElem?_eq_getElem (by have := HOL.out; omega)⟩
            obtain ⟨_, a4, c4, e4, _, _, hc4⟩ := HR3.out
            cases e4
            obtain ⟨b5, o5, rfl, e5⟩ := hc4 q (.string y) (by unfold sc; rw [List.getElem?_map, hy]; rfl)
            have hb5 := World.block_lt_of_cell? w2 _ e5
            have e6 : ∀ wy, Fr (fun x => w2.heap.size ≤ x) w2 wy → wy.cell? ⟨b5, o5 + q, none⟩ = some (.string y) := fun wy hy => by
              rw [World.cell?_of_block (w := w2) (hy.block b5 hb5 (by simp at hb5 ⊢; omega))]; exact e5
            have e7 := e6 wr HG.out
            have E6 := hide e6
            have HY := hide hy
            have iq : (q : Int) < (n : Int) := by omega
            clear hc4 hy e5 e6
            by_cases hyc : y = c
            · have hns : notc c y = false := by simp [notc, hyc]
              have HNS := hide hns
              clear hns
              subst hyc
              go_wp2_with fail
              go_quiet (fail)
              go_wp2_with fail
              go_roundw
              case rel =>
                have e8 : (ord.take (q + 1)).filter (notc y) = (ord.take q).filter (notc y) := by
                  rw [List.take_add_one, HY.out, List.filter_append]; simp [HNS.out]
                refine ⟨q + 1, p, c', a', by go_num, by omega, by omega, rfl, ?_, ?_, HG.out.drewN _⟩
                · rw [e8]; exact HP.out
                · rw [e8]; exact ownsRow_fr HO.out ((Fr.refl (fun _ => False) _).drewN _) (fun _ _ => id)
              case measure => simp [intOf]; omega
            · have hns : notc c y = true := by simp [notc, hyc]
              have HNS := hide hns
              have hyc2 := bytes_beq hyc
              clear hns hyc
              have ho2 : ∀ nq, ((wr.drewN nq).alloc (.cells #[.string y] 9)).ownsRow w2.heap.size 9 1 (.slice a' p c') p (sc ((ord.take q).filter (notc c))) := fun nq => (ownsRow_fr HO.out ((Fr.refl (fun _ => False) wr).drewN nq) (fun _ _ => id)).alloc _
              have hr2 : ∀ nq, Reads ((wr.drewN nq).alloc (.cells #[.string y] 9)) (.slice (some ⟨wr.heap.size, 0, none⟩) 1 1) 1 1 [.string y] := fun nq => Reads.built (wr.drewN nq) [.string y] 9
              have hone : ∀ u ∈ [Value.string y], u.oneCell' = true := by intro u hu; simp at hu; subst hu; rfl
              have hM' : p + 1 ≤ maxLen := by unfold maxLen; omega
              have hB2 : (p + 1) * 16 ≤ 140737488355328 := by omega
              have hB3 : ∀ nq, w2.heap.size ≤ ((wr.drewN nq).alloc (.cells #[.string y] 9)).heap.size := fun nq => by simp; omega
              have HO2 := hide ho2
              have HR5 := hide hr2
              have HONE := hide hone
              have HB2 := hide hB2
              have HB3 := hide hB3
              clear ho2 hr2 hone hB2 hB3
              go_wp2_with fail
              go_quiet (fail)
              have e8 : (wr.drewN nq).cell? ⟨b5, o5 + q, none⟩ = some (.string y) := e7
              go_wp2_with (at_builtin; refine wpList_append_reads _ rfl _ _ _ rfl w2.heap.size 9 i0 _ 1 16 Try.underlying32 hi0 hz0 hz1 hz2 str_size (by decide) _ p _ rfl (HO2.out _) _ 1 [.string y] rfl (HR5.out _) HONE.out hM' HB2.out (HB3.out _) ?_; intro v3 w4 hown3 hgrow hat; obtain ⟨a3, k3, rfl⟩ := own_shape hown3; have HO3 := hide hown3; have HG3 := hide hgrow; clear hown3 hgrow hat)
              go_roundw
              case rel =>
                have e9 : (ord.take (q + 1)).filter (notc c) = (ord.take q).filter (notc c) ++ [y] := by
                  rw [List.take_add_one, HY.out, List.filter_append]; simp [HNS.out]
                refine ⟨q + 1, p + 1, k3, a3, by go_num, by omega, by omega, rfl, ?_, ?_, ?_⟩
                · rw [e9, List.length_append, ← HP.out]; rfl
                · rw [e9]; have := HO3.out; simpa [sc] using this
                · exact HG.out.trans ((((Fr.refl (fun x => w2.heap.size ≤ x) wr).drewN _).trans (Fr.alloc (fun x => w2.heap.size ≤ x) _ _) (fun _ _ h => h)).trans (Fr.grown (S := fun x => w2.heap.size ≤ x) HG3.out (fun x hx => (HO.out.lt x hx).1)) (fun _ _ h => h)) (fun _ _ h => h)
              case measure => simp [intOf]; omega
          · have hqq : q = n := by omega
            subst hqq
            have hall : ord.take q = ord := List.take_of_length_le (by have := HOL.out; omega)
            have ho2 := HO.out
            have hp2 := HP.out
            rw [hall] at ho2 hp2
            obtain ⟨xs, hxs⟩ : ∃ xs, ord.filter (notc c) = xs := ⟨_, rfl⟩
            rw [hxs] at ho2 hp2
            have hko := HKO.out (p + 1) (by rw [HORD.out, hxs, hp2])
            rw [HORD.out, hxs] at hko
            obtain ⟨l2, hl2⟩ : ∃ l2, doneT M l c k ⟨#[114]⟩ = l2 := ⟨_, rfl⟩
            have hnn := HKN.out
            have ht2 := HT2.out
            rw [hl2] at hko hnn ht2
            have HKO2 := hide hko
            have HN2 := hide hnn
            have HT3 := hide ht2
            have HXS := hide hp2
            have ho3 : (wr.alloc (.cells #[.string c] 9)).ownsRow w2.heap.size 9 1 (.slice a' p c') p (sc xs) := ho2.alloc _
            have hr3 : Reads (wr.alloc (.cells #[.string c] 9)) (.slice (some ⟨wr.heap.size, 0, none⟩) 1 1) 1 1 [.string c] := Reads.built wr [.string c] 9
            have hone : ∀ u ∈ [Value.string c], u.oneCell' = true := by intro u hu; simp at hu; subst hu; rfl
            have hM' : p + 1 ≤ maxLen := by unfold maxLen; omega
            have hB2 : (p + 1) * 16 ≤ 140737488355328 := by omega
            have hB3 : w2.heap.size ≤ (wr.alloc (.cells #[.string c] 9)).heap.size := by simp; omega
            have HO3 := hide ho3
            have HR5 := hide hr3
            have HONE := hide hone
            have HB2 := hide hB2
            have HB3 := hide hB3
            clear ho3 hr3 hone hB2 hB3 ho2 hp2 hall hxs hko hl2 hnn ht2
            by_cases hmm : M < (p : Int) + 1
            · go_upto_region 21 with (at_builtin; refine wpList_append_reads _ rfl _ _ _ rfl w2.heap.size 9 i0 _ 1 16 Try.underlying32 hi0 hz0 hz1 hz2 str_size (by decide) _ p _ rfl HO3.out _ 1 [.string c] rfl HR5.out HONE.out hM' HB2.out HB3.out ?_; intro v3 w4 hown3 hgrow hat; obtain ⟨a3, k3, rfl⟩ := own_shape hown3; have HO4 := hide hown3; have HG4 := hide hgrow; clear hown3 hgrow hat)
              obtain ⟨g, rfl⟩ : ∃ g, a3 = some ⟨g, 0, none⟩ := by
                rcases HO4.out.2 with ⟨e, e0⟩ | ⟨g, cap', cs, e, _⟩
                · omega
                · cases e; exact ⟨g, rfl⟩
              have hk3 : p + 1 ≤ k3 := by
                obtain ⟨_, a9, c9, e9, _, h9, _⟩ := Reads.of_own HO4.out
                cases e9; exact h9
              have hF4 : Fr (fun x => w2.heap.size ≤ x) w2 w4 := HG.out.trans ((Fr.alloc (fun x => w2.heap.size ≤ x) _ _).trans (Fr.grown (S := fun x => w2.heap.size ≤ x) HG4.out (fun x hx => (HO3.out.lt x hx).1)) (fun _ _ h => h)) (fun _ _ h => h)
              have hT4 : Tb w4 w.heap.size v2 M l2 := HT3.out.fr hF4 (by have := lt_of_block HT3.out.blk; omega) (fun x hx => by have := (HT3.out.own.lt x hx).2; omega)
              have hsep : w.heap.size < g ∧ v2.ownBlock ≠ some g := by
                have h1 := (HO4.out.lt g rfl).1
                have h2 := lt_of_block HT3.out.blk
                refine ⟨by omega, fun e => ?_⟩
                have := (HT3.out.own.lt g e).2
                omega
              have HF4 := hide (HF2.out.trans hF4 (fun x _ hx => by omega))
              have HT4 := hide hT4
              have HSEP := hide hsep
              clear hF4 hT4 hsep
              have hrc := reads_cut (Reads.of_own HO4.out) (lo := 1) (hi := p + 1) (by omega) (Nat.le_refl _)
              have hk31 : ¬ k3 = 1 := by omega
              unfold sliced at hrc
              rw [if_neg hk31] at hrc
              have e1 : p + 1 - 1 = p := by omega
              have e2 : (((sc xs ++ [Value.string c]).drop (1 * 1)).take ((p + 1 - 1) * 1)) = sc (l2.map (·.1)) := by
                have hx := HKO2.out.1 (by omega)
                have hlx := HXS.out
                rw [hx, Nat.mul_one, Nat.mul_one, List.take_of_length_le (by simp [sc]; omega)]
                simp [sc]
              rw [e2, e1] at hrc
              have HRC := hide hrc
              have hk32 : 1 ≤ k3 := by omega
              clear hrc e1 e2
              go_wp2_with fail
              go_roundw
              case rel => exact ⟨k + 1, p, _, _, v2, l2, by go_num, by omega, by omega, rfl, HRC.out, HN2.out, HT4.out, HV2.out, fun x hx => by cases hx; exact HSEP.out, HF4.out⟩
              case measure => simp [intOf]; omega
            · go_wp2_with (at_builtin; refine wpList_append_reads _ rfl _ _ _ rfl w2.heap.size 9 i0 _ 1 16 Try.underlying32 hi0 hz0 hz1 hz2 str_size (by decide) _ p _ rfl HO3.out _ 1 [.string c] rfl HR5.out HONE.out hM' HB2.out HB3.out ?_; intro v3 w4 hown3 hgrow hat; obtain ⟨a3, k3, rfl⟩ := own_shape hown3; have HO4 := hide hown3; have HG4 := hide hgrow; clear hown3 hgrow hat)
              obtain ⟨g, rfl⟩ : ∃ g, a3 = some ⟨g, 0, none⟩ := by
                rcases HO4.out.2 with ⟨e, e0⟩ | ⟨g, cap', cs, e, _⟩
                · omega
                · cases e; exact ⟨g, rfl⟩
              have hk3 : p + 1 ≤ k3 := by
                obtain ⟨_, a9, c9, e9, _, h9, _⟩ := Reads.of_own HO4.out
                cases e9; exact h9
              have hF4 : Fr (fun x => w2.heap.size ≤ x) w2 w4 := HG.out.trans ((Fr.alloc (fun x => w2.heap.size ≤ x) _ _).trans (Fr.grown (S := fun x => w2.heap.size ≤ x) HG4.out (fun x hx => (HO3.out.lt x hx).1)) (fun _ _ h => h)) (fun _ _ h => h)
              have hT4 : Tb w4 w.heap.size v2 M l2 := HT3.out.fr hF4 (by have := lt_of_block HT3.out.blk; omega) (fun x hx => by have := (HT3.out.own.lt x hx).2; omega)
              have hsep : w.heap.size < g ∧ v2.ownBlock ≠ some g := by
                have h1 := (HO4.out.lt g rfl).1
                have h2 := lt_of_block HT3.out.blk
                refine ⟨by omega, fun e => ?_⟩
                have := (HT3.out.own.lt g e).2
                omega
              have HF4 := hide (HF2.out.trans hF4 (fun x _ hx => by omega))
              have HT4 := hide hT4
              have HSEP := hide hsep
              clear hF4 hT4 hsep
              have hpm : p + 1 ≤ 8 := by omega
              go_roundw
              case rel =>
                refine ⟨k + 1, p + 1, _, _, v2, l2, by go_num, by omega, hpm, rfl, ?_, HN2.out, HT4.out, HV2.out, fun x hx => by cases hx; exact HSEP.out, HF4.out⟩
                have hx := HKO2.out.2 (by omega)
                have h9 := Reads.of_own HO4.out
                rw [hx]; simpa [sc] using h9
              case measure => simp [intOf]; omega
      · have hex : n0 ≤ k ∨ (k < n0 ∧ 40 ≤ k) := by omega
        clear hgo
        have hln : l.length = n := by have := HR.out.1; rw [sc_len, List.length_map, Nat.mul_one] at this; exact this
        have HLN := hide hln
        clear hln
        rcases hex with hx | ⟨hx, hx2⟩
        all_goals
          go_wp2_with fail
          refine (clients_any wr w.heap.size v M l HT.out (by have := HLN.out; omega)).mono ?_
          rintro e w2 ⟨v2, rfl, ho2, hf2⟩
          have hr2 := Reads.of_own ho2
          have hr3 := reads_old HR.out hf2 (fun _ _ h => h)
          have hr4 : Reads w2 v2 (l.map (·.1)).length 1 ((l.map (·.1)).map .string) := by rw [List.length_map]; exact hr2
          have hr5 : Reads w2 (.slice a n cp) (l.map (·.1)).length 1 ((l.map (·.1)).map .string) := by rw [List.length_map, HLN.out]; exact hr3
          have ht := texts_any w2 v2 (.slice a n cp) (l.map (·.1)) (l.map (·.1)) hr4 hr5 (by rw [List.length_map, HLN.out]; omega)
          rw [decide_eq_true rfl] at ht
          have HTX := hide ht
          have HF3 := hide (HF.out.trans hf2 (fun _ _ h => h.elim))
          obtain ⟨a9, c9, rfl⟩ := own_shape ho2
          clear ho2 hf2 hr2 hr3 hr4 hr5 ht
          go_wp2_with fail
          refine HTX.out.mono ?_
          rintro e w3 ⟨rfl, q3, rfl⟩
          go_wp2_with fail
          refine (known_any _).mono ?_
          rintro e w10 ⟨rfl, hf10⟩
          go_wp2_with fail
          go_ret
          exact ⟨rfl, ((HF3.out.drewN _).trans hf10 (fun j _ hj => hj.elim)).toBelow (Nat.le_refl _) (fun j hj h => by omega)⟩
end Go.Proofs.Ytmbmknhpfolkkaa.DedupMost
