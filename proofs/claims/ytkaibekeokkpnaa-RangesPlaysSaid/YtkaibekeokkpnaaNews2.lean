/- Regions that draw their order and end in a store into what they made, behind which a variable is set. -/
import Derived.Test.YtkaibekeokkpnaaNews
namespace Go.Cv
open Go.RowKit Go.Maps
set_option linter.unusedVariables false
variable {P : Program} {Q : Exit → Act → World → Prop}

structure InvT (ops : Array Oper) (R : Nat → Lft) (fr : (Nat → Value) → Act) (w : World) (n : Nat) (listed : Array Bool) (a : Act) (w1 : World) : Prop where
  size : listed.size = ops.size
  free : ∀ j, n ≤ j → listed.getD j false = false
  ex : ∃ vs, a = fr vs ∧ Fr (fun _ => False) w w1 ∧ (∀ i, listed.getD i false = true → (R i).p vs (vs i) w1 ∧ ((R i).new = true → ∀ b, foot (vs i) = some b → w.heap.size ≤ b ∧ b < w1.heap.size)) ∧
    (∀ i j, i ≠ j → listed.getD i false = true → listed.getD j false = true → (R i).new = true → (R j).new = true → ∀ b, foot (vs i) = some b → foot (vs j) ≠ some b) ∧
    (∀ i j, listed.getD i false = true → waits ops i j = true → listed.getD j false = true)

/-- The first n of N are listed. -/
def upTo (N n : Nat) : Array Bool := (List.replicate n true ++ List.replicate (N - n) false).toArray
theorem eq_upTo {l : Array Bool} {N n : Nat} (hs : l.size = N) (hn : n ≤ N) (h1 : ∀ k, k < n → l.getD k false = true) (h2 : ∀ k, n ≤ k → l.getD k false = false) : l = upTo N n := by
  apply Array.ext
  · simp [upTo, hs]; omega
  · intro i hi hj
    have e : l.getD i false = l[i] := by simp [Array.getD, hi]
    have e2 : (upTo N n)[i] = decide (i < n) := by
      simp only [upTo, List.getElem_toArray]
      by_cases hin : i < n
      · rw [List.getElem_append_left (by simpa using hin)]; simp [hin]
      · rw [List.getElem_append_right (by simpa using hin)]; simp [hin]
    rw [← e, e2]
    by_cases hin : i < n
    · rw [h1 i hin]; simp [hin]
    · rw [h2 i (by omega)]; simp [hin]
theorem unl_upTo (N n : Nat) : unl (upTo N n) = N - n := by
  unfold unl upTo
  simp [List.filter_append]

/-- The first n of N are listed, but m. -/
def upBut (N n m : Nat) (b : Bool) : Array Bool := if b then upTo N n else (upTo N n).setIfInBounds m false
theorem size_upTo (N n : Nat) (hn : n ≤ N) : (upTo N n).size = N := by simp [upTo]; omega
theorem get_upTo (N n : Nat) (hn : n ≤ N) (k : Nat) : (upTo N n).getD k false = decide (k < n) := by
  unfold upTo
  simp only [Array.getD_eq_getD_getElem?, List.getElem?_toArray]
  by_cases hk : k < n
  · rw [List.getElem?_append_left (by simpa using hk), List.getElem?_replicate, if_pos hk]; simp [hk]
  · rw [List.getElem?_append_right (by simp; omega), List.getElem?_replicate]
    split <;> simp [hk]
theorem eq_upBut {l : Array Bool} {N n m : Nat} (hs : l.size = N) (hn : n ≤ N) (hm : m < n) (h1 : ∀ k, k < n → k ≠ m → l.getD k false = true) (h2 : ∀ k, n ≤ k → l.getD k false = false) : l = upBut N n m (l.getD m false) := by
  cases hb : l.getD m false with
  | true =>
    exact eq_upTo hs hn (fun k hk => by by_cases e : k = m; · subst e; exact hb
                                        · exact h1 k hk e) h2
  | false =>
    show l = (upTo N n).setIfInBounds m false
    have hl : l.setIfInBounds m true = upTo N n := eq_upTo (by simpa using hs) hn (fun k hk => by
      rw [getD_set _ _ _ (by omega)]
      by_cases e : k = m
      · rw [if_pos e]
      · rw [if_neg e]; exact h1 k hk e) (fun k hk => by rw [getD_set _ _ _ (by omega), if_neg (by omega)]; exact h2 k hk)
    rw [← hl]
    apply Array.ext_getElem?
    intro i
    rw [Array.getElem?_setIfInBounds, Array.getElem?_setIfInBounds]
    have hml : m < l.size := by omega
    by_cases e : m = i
    · subst e
      have : l.getD m false = l[m] := by simp [Array.getD, hml]
      simp [hml, ← this, hb]
    · simp [e]
theorem unl_upBut (N n m : Nat) (hn : n ≤ N) (hm : m < n) (b : Bool) : unl (upBut N n m b) = N - n + (if b then 0 else 1) := by
  cases b with
  | true => exact unl_upTo N n
  | false =>
    have h1 := unl_set ((upTo N n).setIfInBounds m false).toList m (by
      rw [Array.toList_setIfInBounds, List.getElem?_set_self (by simp [upTo]; omega)])
    have h2 : (((upTo N n).setIfInBounds m false).toList.set m true) = (upTo N n).toList := by
      rw [Array.toList_setIfInBounds, List.set_set]
      apply List.ext_getElem
      · simp
      · intro i h3 h4
        rw [List.getElem_set]
        split
        · rename_i e
          subst e
          have := get_upTo N n hn m
          have hs := size_upTo N n hn
          have hlt : m < (upTo N n).size := by omega
          have e : (upTo N n).getD m false = (upTo N n)[m] := by simp [Array.getD, hlt]
          rw [e] at this
          simpa [hm] using this.symm
        · rfl
    rw [h2] at h1
    have h3 := unl_upTo N n
    unfold unl at h3 ⊢
    show (List.filter _ ((upTo N n).setIfInBounds m false).toList).length = N - n + 1
    omega

theorem news_tail {ops : Array Oper} {R : Nat → Lft} {fr : (Nat → Value) → Act} {w : World} (n m : Nat) (hn : n ≤ ops.size) (hmn : m < n) (hd : dstsB ops.toList = true)
    (hg : ∀ i, i < ops.size → (∀ j, waits ops i j = true → j < i) ∧ ∀ k ∈ (R i).on, k ∈ ancs ops i i [])
    (hl : ∀ i, n ≤ i → i < ops.size → ∀ k, k < n → k ≠ m → k ∈ ancs ops i i [])
    (hput : ∀ vs i o v, ops[i]? = some o → (fr vs).put o.dst v = fr (upd vs i v)) (hs : ∀ i o, ops[i]? = some o → i < n → StepN P Q ops R fr w i o)
    (hend : ∀ vs w1 b, Fr (fun _ => False) w w1 → (∀ i, i < n → (i ≠ m ∨ b = true) → (R i).p vs (vs i) w1 ∧ ((R i).new = true → ∀ b, foot (vs i) = some b → w.heap.size ≤ b ∧ b < w1.heap.size)) →
      wpAny P .any ops Q (ops.size - n + (if b then 0 else 1)) (upBut ops.size n m b) (fr vs) w1) :
    ∀ (fuel : Nat) (listed : Array Bool) (a : Act) (w1 : World), InvT ops R fr w n listed a w1 → unl listed = fuel → wpAny P .any ops Q fuel listed a w1 := by
  have hout : ∀ (listed : Array Bool) (a : Act) (w1 : World), InvT ops R fr w n listed a w1 → (∀ k, k < n → k ≠ m → listed.getD k false = true) → wpAny P .any ops Q (unl listed) listed a w1 := by
    intro listed a w1 hI hA
    have he := eq_upBut hI.size hn hmn hA hI.free
    obtain ⟨vs, rfl, h1, h2, h3, _⟩ := hI.ex
    obtain ⟨b, hb⟩ : ∃ b, listed.getD m false = b := ⟨_, rfl⟩
    rw [hb] at he
    have hx := hend vs w1 b h1 (fun i hi hc => h2 i (by
      by_cases e : i = m
      · subst e; rcases hc with hc | hc
        · exact absurd rfl hc
        · rw [hb]; exact hc
      · exact hA i hi e))
    rw [he, unl_upBut _ _ _ hn hmn]
    exact hx
  have hall : ∀ listed : Array Bool, listed.size = ops.size → Region.ready .any ops listed = [] → ∀ i, i < ops.size → listed.getD i false = true := by
    intro listed hsz hr i
    induction i using Nat.strongRecOn with
    | _ i ih =>
      intro hi
      cases hl : listed.getD i false with
      | true => rfl
      | false =>
        exfalso
        have hmem : i ∈ Region.ready .any ops listed := by
          unfold Region.ready
          rw [List.mem_filter]
          refine ⟨List.mem_range.2 hi, ?_⟩
          have ho : ops[i]? = some ops[i] := Array.getElem?_eq_getElem hi
          have h1 : listed.getD i true = false := by
            have : i < listed.size := by omega
            simp only [Array.getD, this, dite_true] at hl ⊢; exact hl
          rw [ho, h1]
          simp only [Bool.not_false, Bool.true_and, Option.map_some, Option.getD_some]
          rw [Array.all_eq_true']
          intro e he
          cases hbe : Region.binds .any e with
          | false => simp
          | true =>
            have h2 := (hg i hi).1 e.on (waits_of ho (List.mem_filter.2 ⟨by simpa using he, hbe⟩))
            rw [ih e.on h2 (by omega)]; simp
        rw [hr] at hmem; cases hmem
  intro fuel
  induction fuel with
  | zero =>
    intro listed a w1 hI hu
    have hx := hout listed a w1 hI (fun k hk _ => by
      have hi : k < listed.size := by rw [hI.size]; omega
      have : listed[k] = true := by
        cases hx : listed[k] with
        | true => rfl
        | false =>
          exfalso
          unfold unl at hu
          have h0 := List.eq_nil_of_length_eq_zero hu
          rw [List.filter_eq_nil_iff] at h0
          have := h0 false (by rw [← hx]; simp)
          simp at this
      simp [Array.getD, hi, this])
    rw [hu] at hx
    exact hx
  | succ fuel ih =>
    intro listed a w1 hI hu
    by_cases hA : ∀ k, k < n → k ≠ m → listed.getD k false = true
    · have hx := hout listed a w1 hI hA
      rw [hu] at hx
      exact hx
    refine ⟨fun hr => absurd (fun k hk _ => hall listed hI.size hr k (by omega)) hA, fun i hi => ?_⟩
    unfold Region.ready at hi
    rw [List.mem_filter, List.mem_range] at hi
    obtain ⟨hin, hb⟩ := hi
    have ho : ops[i]? = some ops[i] := Array.getElem?_eq_getElem hin
    have hil : i < listed.size := by rw [hI.size]; exact hin
    rw [ho] at hb
    simp only [Option.map_some, Option.getD_some, Bool.and_eq_true] at hb
    obtain ⟨hun, haf⟩ := hb
    have hun' : listed[i] = false := by simpa [Array.getD, hil] using hun
    have hunD : listed.getD i false = false := by simp [Array.getD, hil, hun']
    obtain ⟨g2, g3⟩ := hg i hin
    have haf' : ∀ e ∈ bnd ops[i], listed.getD e.on false = true := by
      intro e he
      rw [Array.all_eq_true'] at haf
      have := haf e (by simpa using (List.mem_filter.1 he).1)
      rw [(List.mem_filter.1 he).2] at this; simpa using this
    have hafw : ∀ j, waits ops i j = true → listed.getD j false = true := by
      intro j hj
      obtain ⟨e, he, rfl⟩ := of_waits ho hj
      exact haf' e he
    refine wpOp_step ho (fun K' hK' => ?_)
    obtain ⟨vs, rfl, h1, h2, h3, h4⟩ := hI.ex
    have hanc : ∀ k ∈ ancs ops i i [], listed.getD k false = true := ancs_ok (L := fun k => listed.getD k false = true) hafw (fun k j hk hw => h4 k j hk hw) i [] (fun k hk => by cases hk)
    have hlt : ∀ j, listed.getD j false = true → j < ops.size := by
      intro j hj
      by_cases h : j < listed.size
      · rw [← hI.size]; exact h
      · simp [Array.getD, h] at hj
    have hilt : i < n := by
      apply Classical.byContradiction
      intro hge
      exact hA (fun k hk hkm => hanc k (hl i (by omega) hin k hk hkm))
    have hst := hs i _ ho hilt vs w1 h1 (Pre_mk (fun e he => (h2 _ (haf' e he)).1))
    have hmain : ∀ v w2, (R i).p vs v w2 → Fr (fun _ => False) w1 w2 → ((R i).new = true → ∀ b, foot v = some b → w1.heap.size ≤ b ∧ b < w2.heap.size) → K' ((fr vs).put ops[i].dst v) w2 := by
      intro v w2 hv hf hnw
      refine hK' _ _ (ih _ _ _ ?_ ?_)
      · have hon : ∀ j, listed.getD j false = true → ∀ k ∈ (R j).on, k ≠ i := by
          intro j hj k hk e
          have h5 := (hg j (hlt j hj)).2 k hk
          have := ancs_ok (L := fun k => listed.getD k false = true) (fun q hq => h4 j q hj hq) (fun k q hk hw => h4 k q hk hw) j [] (fun k hk => by cases hk) k h5
          rw [e, hunD] at this; cases this
        have honi : ∀ k ∈ (R i).on, k ≠ i := by
          intro k hk e
          have := hanc k (g3 k hk)
          rw [e, hunD] at this; cases this
        refine ⟨by simp [hI.size], fun j hj => ?_, upd vs i v, hput vs i _ v ho, h1.trans hf (fun _ _ h => h), fun j hj => ?_, fun j k hne hj hk nj nk b hb => ?_, fun j q hj hq => ?_⟩
        · rw [getD_set _ _ _ hil, if_neg (by omega)]; exact hI.free j hj
        · rw [getD_set _ _ _ hil] at hj
          by_cases e : j = i
          · subst e
            rw [upd_same]
            exact ⟨(R j).cong _ _ _ _ (fun k hk => (upd_ne _ _ (honi k hk)).symm) hv, fun nw b hb => ⟨Nat.le_trans h1.size (hnw nw b hb).1, (hnw nw b hb).2⟩⟩
          · rw [if_neg e] at hj
            rw [upd_ne _ _ e]
            obtain ⟨q1, q2⟩ := h2 j hj
            exact ⟨(R j).cong _ _ _ _ (fun k hk => (upd_ne _ _ (hon j hj k hk)).symm) ((R j).up _ _ _ _ q1 hf), fun nw b hb => ⟨(q2 nw b hb).1, Nat.lt_of_lt_of_le (q2 nw b hb).2 hf.size⟩⟩
        · rw [getD_set _ _ _ hil] at hj hk
          by_cases ej : j = i
          · subst ej
            have ek : ¬ k = j := fun e => hne e.symm
            rw [if_neg ek] at hk
            rw [upd_same] at hb
            rw [upd_ne _ _ ek]
            intro e
            have := ((h2 k hk).2 nk b e).2
            have := (hnw nj b hb).1
            omega
          · rw [if_neg ej] at hj
            rw [upd_ne _ _ ej] at hb
            by_cases ek : k = i
            · subst ek
              rw [upd_same]
              intro e
              have := ((h2 j hj).2 nj b hb).2
              have := (hnw nk b e).1
              omega
            · rw [if_neg ek] at hk
              rw [upd_ne _ _ ek]
              exact h3 j k hne hj hk nj nk b hb
        · rw [getD_set _ _ _ hil] at hj ⊢
          by_cases e2 : q = i
          · rw [if_pos e2]
          · rw [if_neg e2]
            by_cases ej : j = i
            · subst ej
              exact hafw q hq
            · rw [if_neg ej] at hj
              exact h4 j q hj hq
      · unfold unl at hu ⊢
        have := unl_set listed.toList i (by simp [hil, hun'])
        rw [Array.toList_setIfInBounds]
        omega
    rcases hst with ⟨hw, hst⟩ | ⟨hw, hst⟩
    · rw [if_pos hw]
      exact hst K' hmain
    · rw [if_neg (by rw [hw]; simp)]
      exact hmain undef w1 hst (Fr.refl _ _) (fun _ b hb => by cases hb)

/-- What is to be checked: n stores, n + 1 sets a variable, m may come behind n. -/
def last2Ok (ops : Array Oper) (n m : Nat) : Bool :=
  decide (ops.size = n + 2) && decide (m < n) && ((List.range n).all fun k => (k == m || (ancs ops n n []).contains k) && (k == m || (ancs ops (n + 1) (n + 1) []).contains k)) &&
  decide (Region.ready .any ops (upBut ops.size n m true) = [n]) && decide (Region.ready .any ops (upBut ops.size n m false) = [m, n]) &&
  decide (Region.ready .any ops ((upBut ops.size n m true).setIfInBounds n true) = [n + 1]) && decide (Region.ready .any ops ((upBut ops.size n m false).setIfInBounds n true) = [m]) &&
  decide (Region.ready .any ops (((upBut ops.size n m true).setIfInBounds n true).setIfInBounds (n + 1) true) = []) &&
  decide ((upBut ops.size n m false).setIfInBounds m true = upBut ops.size n m true) && decide (((upBut ops.size n m false).setIfInBounds n true).setIfInBounds m true = (upBut ops.size n m true).setIfInBounds n true)

theorem wp_region_last2 {id : Nat} {ops : Array Oper} {a : Act} {w : World} (R : List Lft) (n m : Nat) (om o1 o2 : Oper) (fr : (Nat → Value) → Act) (vm : Value) (Post : (Nat → Value) → World → Prop) (hm : P.follows .mixedOrders = true)
    (hmo : ops.toList[m]? = some om) (h1o : ops.toList[n]? = some o1) (h2o : ops.toList[n + 1]? = some o2) (hgm : om.guard = none) (hg1 : o1.guard = none) (hd1 : o1.dst = none) (hg2 : o2.guard = none)
    (hok : newsOk ops (R.map (·.on)) false = true) (hok2 : last2Ok ops n m = true) (hfr : ∀ vs, putAll a vs 0 ops.toList = fr vs) (hRm : R.getD m Lft.any = Lft.is vm) (hon : (R.all fun l => !l.on.contains m) = true)
    (hs : StepsN P Q ops (fun i => R.getD i Lft.any) fr w 0 (ops.toList.take n))
    (hmv : ∀ vs w1, Fr (fun _ => False) w w1 → (∀ i, i < n → i ≠ m → (R.getD i Lft.any).p vs (vs i) w1 ∧ ((R.getD i Lft.any).new = true → ∀ b, foot (vs i) = some b → w.heap.size ≤ b ∧ b < w1.heap.size)) → ∀ w', (execOp (fr vs).eval om).run P w' = .ok (.value vm) w')
    (hPost : ∀ vs w2 v, Post vs w2 → Post (upd vs m v) w2)
    (hst : ∀ vs w1, Fr (fun _ => False) w w1 → (∀ i, i < n → i ≠ m → (R.getD i Lft.any).p vs (vs i) w1 ∧ ((R.getD i Lft.any).new = true → ∀ b, foot (vs i) = some b → w.heap.size ≤ b ∧ b < w1.heap.size)) → o1.wp P (fr vs) w1 (fun a2 w2 => a2 = fr vs ∧ Post vs w2) Q)
    (hfin : ∀ vs w2, Post vs w2 → vs m = vm → o2.wp P (fr vs) w2 (Q .normal) Q) :
    (Code.region id ops true).wp P Q a w := by
  refine wp_region_any hm ?_
  obtain ⟨h1, h2, _⟩ := news_shape hok
  unfold last2Ok at hok2
  simp only [Bool.and_eq_true, decide_eq_true_eq, List.all_eq_true, List.contains_iff_mem, Bool.or_eq_true, beq_iff_eq] at hok2
  obtain ⟨⟨⟨⟨⟨⟨⟨⟨⟨k1, k0⟩, k2⟩, k3⟩, k4⟩, k5⟩, k6⟩, k7⟩, k8⟩, k9⟩ := hok2
  have hI : InvT ops (fun i => R.getD i Lft.any) fr w n (Array.replicate ops.size false) a { w with drawn := w.drawn + 1 } := by
    have h0 := news_start (R := fun i => R.getD i Lft.any) (a := a) (w := w) false hfr
    exact ⟨h0.size, fun j hj => by simp only [Array.getD_eq_getD_getElem?, Array.getElem?_replicate]; split <;> rfl, h0.ex⟩
  have em : ops[m]? = some om := by simpa using hmo
  have e1 : ops[n]? = some o1 := by simpa using h1o
  have e2 : ops[n + 1]? = some o2 := by simpa using h2o
  have hput : ∀ vs i o v, ops[i]? = some o → (fr vs).put o.dst v = fr (upd vs i v) := fun vs i o v ho => by
    rw [← hfr, ← hfr, putAll_put ops.toList 0 a vs i o v h1 (by simpa using ho), Nat.zero_add]
  have hs' : ∀ i o, ops[i]? = some o → i < n → StepN P Q ops (fun i => R.getD i Lft.any) fr w i o := fun i o ho hi => by
    have h5 : (ops.toList.take n)[i]? = some o := by
      rw [List.getElem?_take, if_pos hi]; simpa using ho
    have := hs.get i o h5
    rwa [Nat.zero_add] at this
  -- the last one
  have hlast : ∀ vs w2, Post vs w2 → vs m = vm → wpAny P .any ops Q 1 ((upBut ops.size n m true).setIfInBounds n true) (fr vs) w2 := fun vs w2 hp hv => by
    refine ⟨fun hr => (by rw [k5] at hr; cases hr), fun i hi => ?_⟩
    rw [k5] at hi
    have e9 : n + 1 = i := (by simpa using hi : i = n + 1).symm
    subst e9
    refine wpOp_step e2 (fun K2 hK2 => ?_)
    rw [if_pos (by simp [Region.wanted, hg2])]
    exact Oper.wp_mono (fun a3 w3 hq3 => hK2 _ _ ⟨k7, hq3⟩) (hfin vs w2 hp hv)
  have hall : ∀ vs w1, Fr (fun _ => False) w w1 → (∀ i, i < n → i ≠ m → (R.getD i Lft.any).p vs (vs i) w1 ∧ ((R.getD i Lft.any).new = true → ∀ b, foot (vs i) = some b → w.heap.size ≤ b ∧ b < w1.heap.size)) → vs m = vm → wpAny P .any ops Q 2 (upBut ops.size n m true) (fr vs) w1 := fun vs w1 hf q2 hv => by
    refine ⟨fun hr => (by rw [k3] at hr; cases hr), fun i hi => ?_⟩
    rw [k3] at hi
    have e9 : n = i := (by simpa using hi : i = n).symm
    subst e9
    refine wpOp_step e1 (fun K2 hK2 => ?_)
    rw [if_pos (by simp [Region.wanted, hg1])]
    refine Oper.wp_mono (fun a3 w3 hq3 => hK2 _ _ ?_) (hst vs w1 hf q2)
    obtain ⟨rfl, hp⟩ := hq3
    exact hlast vs w3 hp hv
  refine news_tail (R := fun i => R.getD i Lft.any) (fr := fr) (w := w) n m (by omega) k0 h1 h2 (fun i hi1 hi2 k hk hkm => ?_) hput hs' (fun vs w1 b hf q2 => ?_) ops.size _ _ _ hI (by unfold unl; simp)
  · have hc : i = n ∨ i = n + 1 := by omega
    rcases hc with rfl | rfl
    · exact ((k2 k (List.mem_range.2 hk)).1).resolve_left hkm
    · exact ((k2 k (List.mem_range.2 hk)).2).resolve_left hkm
  have hq : ∀ i, i < n → i ≠ m → (R.getD i Lft.any).p vs (vs i) w1 ∧ ((R.getD i Lft.any).new = true → ∀ b, foot (vs i) = some b → w.heap.size ≤ b ∧ b < w1.heap.size) := fun i hi hne => q2 i hi (.inl hne)
  cases b with
  | true =>
    have hv : vs m = vm := by
      have := (q2 m k0 (.inr rfl)).1
      simp only [hRm] at this
      exact this
    have := hall vs w1 hf hq hv
    rw [show ops.size - n + (if true = true then 0 else 1) = 2 by simp; omega]
    exact this
  | false =>
    rw [show ops.size - n + (if false = true then 0 else 1) = 2 + 1 by simp; omega]
    have hupd : ∀ v w2, Fr (fun _ => False) w1 w2 → ∀ i, i < n → i ≠ m → (R.getD i Lft.any).p (upd vs m v) (upd vs m v i) w2 ∧ ((R.getD i Lft.any).new = true → ∀ b, foot (upd vs m v i) = some b → w.heap.size ≤ b ∧ b < w2.heap.size) := fun v w2 hf2 i hi hne => by
      obtain ⟨q3, q4⟩ := hq i hi hne
      rw [upd_ne _ _ hne]
      refine ⟨(R.getD i Lft.any).cong _ _ _ _ (fun k hk => ?_) ((R.getD i Lft.any).up _ _ _ _ q3 hf2), fun nw b hb => ⟨(q4 nw b hb).1, Nat.lt_of_lt_of_le (q4 nw b hb).2 hf2.size⟩⟩
      refine (upd_ne _ _ (fun e => ?_)).symm
      subst e
      rw [List.getD_eq_getElem?_getD] at hk
      cases hr : R[i]? with
      | none => rw [hr] at hk; cases hk
      | some l =>
        rw [hr] at hk
        have := (List.all_eq_true.1 hon) l (List.mem_of_getElem? hr)
        simp at this
        exact this hk
    refine ⟨fun hr => (by rw [k4] at hr; cases hr), fun i hi => ?_⟩
    rw [k4] at hi
    have hc : i = m ∨ i = n := by simpa using hi
    rcases hc with rfl | rfl
    · refine wpOp_step em (fun K2 hK2 => ?_)
      rw [if_pos (by simp [Region.wanted, hgm])]
      refine Oper.wp_mono (fun a3 w3 hq3 => hK2 _ _ ?_) (?_ : om.wp P (fr vs) w1 (fun a2 w2 => a2 = fr (upd vs i vm) ∧ w2 = w1) Q)
      · obtain ⟨rfl, rfl⟩ := hq3
        rw [k8]
        exact hall _ _ hf (hupd vm _ (Fr.refl _ _)) (upd_same _ _ _)
      · unfold Oper.wp
        rw [hmv vs w1 hf hq w1, Oper.upon_value]
        exact ⟨hput vs i om vm em, rfl⟩
    · refine wpOp_step e1 (fun K2 hK2 => ?_)
      rw [if_pos (by simp [Region.wanted, hg1])]
      refine Oper.wp_mono (fun a3 w3 hq3 => hK2 _ _ ?_) (hst vs w1 hf hq)
      obtain ⟨rfl, hp⟩ := hq3
      refine ⟨fun hr => (by rw [k6] at hr; cases hr), fun j hj => ?_⟩
      rw [k6] at hj
      have e9 : m = j := (by simpa using hj : j = m).symm
      subst e9
      refine wpOp_step em (fun K3 hK3 => ?_)
      rw [if_pos (by simp [Region.wanted, hgm])]
      refine Oper.wp_mono (fun a4 w4 hq4 => hK3 _ _ ?_) (?_ : om.wp P (fr vs) w3 (fun a2 w2 => a2 = fr (upd vs m vm) ∧ w2 = w3) Q)
      · obtain ⟨rfl, rfl⟩ := hq4
        rw [k9]
        exact hlast _ _ (hPost _ _ _ hp) (upd_same _ _ _)
      · unfold Oper.wp
        rw [hmv vs w1 hf hq w3, Oper.upon_value]
        exact ⟨hput vs m om vm em, rfl⟩
end Go.Cv
