/- Of no program: a region that draws its order, whose operations read what stays and make new things: each operation is shown once, whatever the order. -/
import Derived.Test.YtkaibekeokkpnaaKit
import Derived.RegionTactic
namespace Go.Cv
open Go.RowKit Go.Maps
set_option linter.unusedVariables false

/-- What an operation leaves of its value: it hangs on the values of the operations 'on' alone, and stays where new blocks alone are made. -/
structure Lft where
  on : List Nat
  p : (Nat → Value) → Value → World → Prop
  cong : ∀ vs vs' u w, (∀ k ∈ on, vs k = vs' k) → p vs u w → p vs' u w
  up : ∀ vs u w w', p vs u w → Fr (fun _ => False) w w' → p vs u w'
  new : Bool

def Lft.is (v : Value) : Lft := ⟨[], fun _ u _ => u = v, fun _ _ _ _ _ h => h, fun _ _ _ _ h _ => h, false⟩
def Lft.any : Lft := ⟨[], fun _ _ _ => True, fun _ _ _ _ _ h => h, fun _ _ _ _ h _ => h, false⟩
def Lft.of (on : List Nat) (f : (Nat → Value) → Value) (hf : ∀ vs vs', (∀ k ∈ on, vs k = vs' k) → f vs = f vs') : Lft :=
  ⟨on, fun vs u _ => u = f vs, fun _ _ _ _ h e => e.trans (hf _ _ h), fun _ _ _ _ h _ => h, false⟩
def Lft.own (q : Value → World → Prop) (up : ∀ u w w', q u w → Fr (fun _ => False) w w' → q u w') : Lft :=
  ⟨[], fun _ u w => q u w, fun _ _ _ _ _ h => h, fun _ u w w' h g => up u w w' h g, true⟩
def Lft.stay (q : Value → World → Prop) (up : ∀ u w w', q u w → Fr (fun _ => False) w w' → q u w') : Lft :=
  ⟨[], fun _ u w => q u w, fun _ _ _ _ _ h => h, fun _ u w w' h g => up u w w' h g, false⟩

/-- The block that a value points to. -/
def foot : Value → Option Nat
  | .slice (some a) _ _ => some a.block
  | .map (some b) => some b
  | .pointer (some a) => some a.block
  | _ => none

def upd (vs : Nat → Value) (i : Nat) (v : Value) : Nat → Value := fun j => if j = i then v else vs j
theorem upd_same (vs : Nat → Value) (i : Nat) (v : Value) : upd vs i v i = v := if_pos rfl
theorem upd_ne (vs : Nat → Value) {i j : Nat} (v : Value) (h : j ≠ i) : upd vs i v j = vs j := if_neg h

/-- The frame with a value in each operation's slot. -/
def putAll (a : Act) (vs : Nat → Value) : Nat → List Oper → Act
  | _, [] => a
  | k, o :: r => putAll (a.put o.dst (vs k)) vs (k + 1) r

theorem put_put (a : Act) (d : Option Tmp) (u v : Value) : (a.put d u).put d v = a.put d v := by
  cases d with
  | none => rfl
  | some d => simp [Act.put]

theorem putAll_congr : ∀ (l : List Oper) (k : Nat) (a : Act) (vs vs' : Nat → Value), (∀ j, k ≤ j → vs j = vs' j) → putAll a vs k l = putAll a vs' k l
  | [], _, _, _, _, _ => rfl
  | o :: r, k, a, vs, vs', h => by
    unfold putAll
    rw [h k (Nat.le_refl _)]
    exact putAll_congr r _ _ _ _ (fun j hj => h j (by omega))

theorem putAll_comm : ∀ (l : List Oper) (k : Nat) (a : Act) (vs : Nat → Value) (d : Option Tmp) (v : Value), (∀ o ∈ l, ∀ x, d = some x → o.dst ≠ some x) → (putAll a vs k l).put d v = putAll (a.put d v) vs k l
  | [], _, _, _, _, _, _ => rfl
  | o :: r, k, a, vs, d, v, h => by
    unfold putAll
    rw [putAll_comm r _ _ _ d v (fun o' ho => h o' (List.mem_cons_of_mem _ ho))]
    rw [Act.put_comm a v (vs k) (fun x e => h o List.mem_cons_self x e)]

/-- No slot is written twice. -/
def dstsB : List Oper → Bool
  | [] => true
  | o :: r => (match o.dst with | none => true | some d => r.all (fun o' => o'.dst != some d)) && dstsB r

theorem putAll_put : ∀ (l : List Oper) (k : Nat) (a : Act) (vs : Nat → Value) (i : Nat) (o : Oper) (v : Value), dstsB l = true → l[i]? = some o → (putAll a vs k l).put o.dst v = putAll a (upd vs (k + i) v) k l
  | [], _, _, _, _, _, _, _, h => by simp at h
  | o0 :: r, k, a, vs, 0, o, v, hd, h => by
    simp at h; subst h
    unfold putAll
    have hd1 : ∀ o' ∈ r, ∀ x, o0.dst = some x → o'.dst ≠ some x := by
      intro o' ho x hx
      simp only [dstsB, hx, Bool.and_eq_true, List.all_eq_true] at hd
      have := hd.1 o' ho
      simpa using this
    rw [putAll_comm r _ _ _ _ _ hd1, put_put]
    show _ = putAll (a.put o0.dst (upd vs k v k)) (upd vs k v) (k + 1) r
    rw [upd_same]
    exact putAll_congr r _ _ _ _ (fun j hj => (upd_ne _ _ (by omega)).symm)
  | o0 :: r, k, a, vs, i + 1, o, v, hd, h => by
    unfold putAll
    simp only [dstsB, Bool.and_eq_true] at hd
    rw [putAll_put r (k + 1) (a.put o0.dst (vs k)) vs i o v hd.2 (by simpa using h), upd_ne _ _ (by omega), show k + 1 + i = k + (i + 1) by omega]

theorem put_get (a : Act) (d : Tmp) : a.put (some d) (a.tmps.getD d undef) = a := by
  unfold Act.put
  have : a.tmps.setIfInBounds d (a.tmps.getD d undef) = a.tmps := by
    apply Array.ext_getElem?
    intro i
    rw [Array.getElem?_setIfInBounds]
    split
    · rename_i e; subst e
      split
      · rename_i h; simp [h]
      · rename_i h; simp at h; simp [h]
    · rfl
  show { a with tmps := a.tmps.setIfInBounds d (a.tmps.getD d undef) } = a
  rw [this]

theorem putAll_base : ∀ (l : List Oper) (k : Nat) (a : Act), ∃ vs, putAll a vs k l = a
  | [], _, _ => ⟨fun _ => undef, rfl⟩
  | o :: r, k, a => by
    obtain ⟨vs, h⟩ := putAll_base r (k + 1) a
    refine ⟨upd vs k (match o.dst with | some d => a.tmps.getD d undef | none => undef), ?_⟩
    unfold putAll
    rw [upd_same]
    have e : a.put o.dst (match o.dst with | some d => a.tmps.getD d undef | none => undef) = a := by
      cases o.dst with
      | none => rfl
      | some d => exact put_get a d
    rw [e, putAll_congr r (k + 1) a _ vs (fun j hj => upd_ne _ _ (by omega))]
    exact h

/-- The edges that bind. -/
def bnd (o : Oper) : List Edge := o.after.toList.filter (Region.binds .any)

/-- What an operation may lean on. -/
def Pre (R : Nat → Lft) (vs : Nat → Value) (w : World) : List Edge → Prop
  | [] => True
  | e :: r => (R e.on).p vs (vs e.on) w ∧ Pre R vs w r

variable {P : Program} {Q : Exit → Act → World → Prop}

/-- An operation, at whatever time it comes: what it leaves; or it is guarded off. -/
def StepN (P : Program) (Q : Exit → Act → World → Prop) (ops : Array Oper) (R : Nat → Lft) (fr : (Nat → Value) → Act) (w : World) (i : Nat) (o : Oper) : Prop :=
  ∀ vs w1, Fr (fun _ => False) w w1 → Pre R vs w1 (bnd o) →
    (Region.wanted o (yielded ops (fr vs).tmps) = true ∧ ∀ K : Act → World → Prop,
      (∀ v w2, (R i).p vs v w2 → Fr (fun _ => False) w1 w2 → ((R i).new = true → ∀ b, foot v = some b → w1.heap.size ≤ b ∧ b < w2.heap.size) → K ((fr vs).put o.dst v) w2) → o.wp P (fr vs) w1 K Q) ∨
    (Region.wanted o (yielded ops (fr vs).tmps) = false ∧ (R i).p vs undef w1)

def StepsN (P : Program) (Q : Exit → Act → World → Prop) (ops : Array Oper) (R : Nat → Lft) (fr : (Nat → Value) → Act) (w : World) : Nat → List Oper → Prop
  | _, [] => True
  | k, o :: r => StepN P Q ops R fr w k o ∧ StepsN P Q ops R fr w (k + 1) r

theorem StepsN.get {ops : Array Oper} {R : Nat → Lft} {fr : (Nat → Value) → Act} {w : World} : ∀ {l : List Oper} {k : Nat}, StepsN P Q ops R fr w k l → ∀ (i : Nat) (o : Oper), l[i]? = some o → StepN P Q ops R fr w (k + i) o
  | [], _, _, _, _, h => by simp at h
  | o0 :: r, k, hs, 0, o, h => by simp at h; subst h; exact hs.1
  | o0 :: r, k, hs, i + 1, o, h => by
    have := StepsN.get hs.2 i o (by simpa using h)
    rwa [show k + 1 + i = k + (i + 1) by omega] at this

/-- What an operation waits for, itself or by others: from j on down. -/
def waits (ops : Array Oper) (k j : Nat) : Bool := match ops[k]? with | some o => (bnd o).any (fun e => e.on == j) | none => false
def ancs (ops : Array Oper) (i : Nat) : Nat → List Nat → List Nat
  | 0, M => M
  | j + 1, M => ancs ops i j (if waits ops i j || M.any (fun k => waits ops k j) then j :: M else M)

theorem ancs_ok {ops : Array Oper} {i : Nat} {L : Nat → Prop} (h0 : ∀ j, waits ops i j = true → L j) (h1 : ∀ k j, L k → waits ops k j = true → L j) : ∀ (n : Nat) (M : List Nat), (∀ k ∈ M, L k) → ∀ k ∈ ancs ops i n M, L k
  | 0, M, hM, k, hk => hM k hk
  | n + 1, M, hM, k, hk => by
    unfold ancs at hk
    refine ancs_ok h0 h1 n _ (fun q hq => ?_) k hk
    split at hq
    · rename_i hc
      rcases List.mem_cons.1 hq with rfl | hq
      · rw [Bool.or_eq_true] at hc
        rcases hc with hc | hc
        · exact h0 _ hc
        · obtain ⟨k2, hk2, hw⟩ := List.any_eq_true.1 hc
          exact h1 k2 _ (hM k2 hk2) hw
      · exact hM q hq
    · exact hM q hq

/-- The region's shape: edges point back, no slot twice; what a value hangs on is waited for; the last, if it is left free, waits for all. -/
def newsOk (ops : Array Oper) (ons : List (List Nat)) (last : Bool) : Bool :=
  dstsB ops.toList && ((List.range ops.size).all fun i => (match ops[i]? with | some o => (bnd o).all (fun e => decide (e.on < i)) | none => true) && (ons.getD i []).all (fun k => (ancs ops i i []).contains k)) &&
    (!last || ((List.range (ops.size - 1)).all fun k => (ancs ops (ops.size - 1) (ops.size - 1) []).contains k) && match ops[ops.size - 1]? with | some o => o.guard.isNone | none => false)

structure InvN (ops : Array Oper) (R : Nat → Lft) (fr : (Nat → Value) → Act) (w : World) (last : Bool) (listed : Array Bool) (a : Act) (w1 : World) : Prop where
  size : listed.size = ops.size
  free : last = true → listed.getD (ops.size - 1) false = false
  ex : ∃ vs, a = fr vs ∧ Fr (fun _ => False) w w1 ∧ (∀ i, listed.getD i false = true → (R i).p vs (vs i) w1 ∧ ((R i).new = true → ∀ b, foot (vs i) = some b → w.heap.size ≤ b ∧ b < w1.heap.size)) ∧
    (∀ i j, i ≠ j → listed.getD i false = true → listed.getD j false = true → (R i).new = true → (R j).new = true → ∀ b, foot (vs i) = some b → foot (vs j) ≠ some b) ∧
    (∀ i j, listed.getD i false = true → waits ops i j = true → listed.getD j false = true)

def unl (listed : Array Bool) : Nat := (listed.toList.filter (fun b => !b)).length

theorem getD_set (l : Array Bool) (i j : Nat) (hi : i < l.size) : (l.setIfInBounds i true).getD j false = if j = i then true else l.getD j false := by
  simp only [Array.getD_eq_getD_getElem?, Array.getElem?_setIfInBounds]
  by_cases e : i = j
  · subst e; simp [hi]
  · rw [if_neg e, if_neg (fun h => e h.symm)]

theorem unl_set : ∀ (l : List Bool) (i : Nat), l[i]? = some false → ((l.set i true).filter (fun b => !b)).length + 1 = (l.filter (fun b => !b)).length
  | [], _, h => by simp at h
  | x :: r, 0, h => by simp at h; subst h; simp
  | x :: r, i + 1, h => by
    have := unl_set r i (by simpa using h)
    cases x <;> simp at this ⊢ <;> omega

theorem Pre_mk {R : Nat → Lft} {vs : Nat → Value} {w : World} : ∀ {l : List Edge}, (∀ e ∈ l, (R e.on).p vs (vs e.on) w) → Pre R vs w l
  | [], _ => trivial
  | e :: r, h => ⟨h e List.mem_cons_self, Pre_mk (fun e' he => h e' (List.mem_cons_of_mem _ he))⟩

theorem waits_of {ops : Array Oper} {i : Nat} {o : Oper} (ho : ops[i]? = some o) {e : Edge} (he : e ∈ bnd o) : waits ops i e.on = true := by
  unfold waits; rw [ho]; exact List.any_eq_true.2 ⟨e, he, by simp⟩
theorem of_waits {ops : Array Oper} {i j : Nat} {o : Oper} (ho : ops[i]? = some o) (h : waits ops i j = true) : ∃ e ∈ bnd o, e.on = j := by
  unfold waits at h; rw [ho] at h
  obtain ⟨e, he, h2⟩ := List.any_eq_true.1 h
  exact ⟨e, he, by simpa using h2⟩

theorem news_any {ops : Array Oper} {R : Nat → Lft} {fr : (Nat → Value) → Act} {w : World} (last : Bool) (hd : dstsB ops.toList = true)
    (hg : ∀ i, i < ops.size → (∀ j, waits ops i j = true → j < i) ∧ ∀ k ∈ (R i).on, k ∈ ancs ops i i [])
    (hl : last = true → ∀ k, k < ops.size - 1 → k ∈ ancs ops (ops.size - 1) (ops.size - 1) [])
    (hput : ∀ vs i o v, ops[i]? = some o → (fr vs).put o.dst v = fr (upd vs i v)) (hs : ∀ i o, ops[i]? = some o → (last = true → i ≠ ops.size - 1) → StepN P Q ops R fr w i o)
    (hend : ∀ vs w1, Fr (fun _ => False) w w1 → (∀ i, i < ops.size → (last = true → i ≠ ops.size - 1) → (R i).p vs (vs i) w1 ∧ ((R i).new = true → ∀ b, foot (vs i) = some b → w.heap.size ≤ b ∧ b < w1.heap.size)) →
      (∀ i j, i < ops.size → j < ops.size → (last = true → i ≠ ops.size - 1) → (last = true → j ≠ ops.size - 1) → i ≠ j → (R i).new = true → (R j).new = true → ∀ b, foot (vs i) = some b → foot (vs j) ≠ some b) →
      if last = true then ∃ o, ops[ops.size - 1]? = some o ∧ o.guard = none ∧ o.wp P (fr vs) w1 (Q .normal) Q else Q .normal (fr vs) w1) :
    ∀ (fuel : Nat) (listed : Array Bool) (a : Act) (w1 : World), InvN ops R fr w last listed a w1 → unl listed = fuel → wpAny P .any ops Q fuel listed a w1 := by
  have hall : ∀ listed : Array Bool, listed.size = ops.size → Region.ready .any ops listed = [] → ∀ i, i < ops.size → listed.getD i false = true := by
    intro listed hsz hr i
    induction i using Nat.strongRecOn with
    | _ i ih =>
      intro hi
      cases hl : listed.getD i false with
      | true => rfl
      | false =>
        exfalso
        have hmem : i ∈ Region.ready .any ops listed := by
          unfold Region.ready
          rw [List.mem_filter]
          refine ⟨List.mem_range.2 hi, ?_⟩
          have ho : ops[i]? = some ops[i] := Array.getElem?_eq_getElem hi
          have h1 : listed.getD i true = false := by
            have : i < listed.size := by omega
            simp only [Array.getD, this, dite_true] at hl ⊢; exact hl
          rw [ho, h1]
          simp only [Bool.not_false, Bool.true_and, Option.map_some, Option.getD_some]
          rw [Array.all_eq_true']
          intro e he
          cases hbe : Region.binds .any e with
          | false => simp
          | true =>
            have h2 := (hg i hi).1 e.on (waits_of ho (List.mem_filter.2 ⟨by simpa using he, hbe⟩))
            rw [ih e.on h2 (by omega)]; simp
        rw [hr] at hmem; cases hmem
  have hfin : ∀ listed a w1, InvN ops R fr w last listed a w1 → Region.ready .any ops listed = [] → 0 < ops.size → Q .normal a w1 := by
    intro listed a w1 hI hr h0
    have hA := hall listed hI.size hr
    obtain ⟨vs, rfl, h1, h2, h3, _⟩ := hI.ex
    have h := hend vs w1 h1 (fun i hi _ => h2 i (hA i hi)) (fun i j hi hj _ _ hne => h3 i j hne (hA i hi) (hA j hj))
    cases last with
    | false => exact h
    | true =>
      have := hI.free rfl
      rw [hA _ (by omega)] at this; cases this
  have hfin0 : ∀ listed a w1, InvN ops R fr w last listed a w1 → ops.size = 0 → Q .normal a w1 := by
    intro listed a w1 hI h0
    obtain ⟨vs, rfl, h1, h2, h3, _⟩ := hI.ex
    have h := hend vs w1 h1 (fun i hi _ => absurd hi (by omega)) (fun i j hi hj _ _ hne => absurd hi (by omega))
    cases last with
    | false => exact h
    | true =>
      obtain ⟨o, ho, _⟩ := (by simpa using h : ∃ o, ops[ops.size - 1]? = some o ∧ o.guard = none ∧ o.wp P (fr vs) w1 (Q .normal) Q)
      rw [Array.getElem?_eq_none (by omega)] at ho; cases ho
  intro fuel
  induction fuel with
  | zero =>
    intro listed a w1 hI hu
    have hr : Region.ready .any ops listed = [] := by
      unfold Region.ready
      rw [List.filter_eq_nil_iff]
      intro i hi
      have hi : i < listed.size := by rw [hI.size]; exact List.mem_range.1 hi
      have : listed[i] = true := by
        cases hx : listed[i] with
        | true => rfl
        | false =>
          exfalso
          unfold unl at hu
          have h0 := List.eq_nil_of_length_eq_zero hu
          rw [List.filter_eq_nil_iff] at h0
          have := h0 false (by rw [← hx]; simp)
          simp at this
      simp [Array.getD, hi, this]
    refine ⟨hr, ?_⟩
    rcases Nat.eq_zero_or_pos ops.size with h0 | h0
    · exact hfin0 _ _ _ hI h0
    · exact hfin _ _ _ hI hr h0
  | succ fuel ih =>
    intro listed a w1 hI hu
    refine ⟨fun hr => ?_, fun i hi => ?_⟩
    · rcases Nat.eq_zero_or_pos ops.size with h0 | h0
      · exact hfin0 _ _ _ hI h0
      · exact hfin _ _ _ hI hr h0
    unfold Region.ready at hi
    rw [List.mem_filter, List.mem_range] at hi
    obtain ⟨hin, hb⟩ := hi
    have ho : ops[i]? = some ops[i] := Array.getElem?_eq_getElem hin
    have hil : i < listed.size := by rw [hI.size]; exact hin
    rw [ho] at hb
    simp only [Option.map_some, Option.getD_some, Bool.and_eq_true] at hb
    obtain ⟨hun, haf⟩ := hb
    have hun' : listed[i] = false := by simpa [Array.getD, hil] using hun
    have hunD : listed.getD i false = false := by simp [Array.getD, hil, hun']
    obtain ⟨g2, g3⟩ := hg i hin
    have haf' : ∀ e ∈ bnd ops[i], listed.getD e.on false = true := by
      intro e he
      rw [Array.all_eq_true'] at haf
      have := haf e (by simpa using (List.mem_filter.1 he).1)
      rw [(List.mem_filter.1 he).2] at this; simpa using this
    have hafw : ∀ j, waits ops i j = true → listed.getD j false = true := by
      intro j hj
      obtain ⟨e, he, rfl⟩ := of_waits ho hj
      exact haf' e he
    refine wpOp_step ho (fun K' hK' => ?_)
    obtain ⟨vs, rfl, h1, h2, h3, h4⟩ := hI.ex
    have hanc : ∀ k ∈ ancs ops i i [], listed.getD k false = true := ancs_ok (L := fun k => listed.getD k false = true) hafw (fun k j hk hw => h4 k j hk hw) i [] (fun k hk => by cases hk)
    have hlt : ∀ j, listed.getD j false = true → j < ops.size := by
      intro j hj
      by_cases h : j < listed.size
      · rw [← hI.size]; exact h
      · simp [Array.getD, h] at hj
    by_cases hsp : last = true ∧ i = ops.size - 1
    · obtain ⟨hlast, hil2⟩ := hsp
      subst hlast
      have hA : ∀ k, k < ops.size → k ≠ i → listed.getD k false = true := fun k hk hne => hanc k (by rw [hil2]; exact hl rfl k (by omega))
      have h := hend vs w1 h1 (fun j hj hne => h2 j (hA j hj (by rw [hil2]; exact hne rfl))) (fun j k hj hk n1 n2 hne => h3 j k hne (hA j hj (by rw [hil2]; exact n1 rfl)) (hA k hk (by rw [hil2]; exact n2 rfl)))
      obtain ⟨o, ho2, hgn, hwp⟩ := (by simpa using h : ∃ o, ops[ops.size - 1]? = some o ∧ o.guard = none ∧ o.wp P (fr vs) w1 (Q .normal) Q)
      rw [← hil2, ho] at ho2
      cases ho2
      rw [if_pos (by simp [Region.wanted, hgn])]
      refine Oper.wp_mono (fun a' w' hq => hK' _ _ (wpAny_done ?_ hq _)) hwp
      unfold Region.ready
      rw [List.filter_eq_nil_iff]
      intro j hj
      have hj : j < ops.size := List.mem_range.1 hj
      have hjl : j < listed.size := by rw [hI.size]; exact hj
      have : (listed.setIfInBounds i true).getD j true = true := by
        have h5 : (listed.setIfInBounds i true).getD j false = true := by
          rw [getD_set _ _ _ hil]
          by_cases e : j = i
          · rw [if_pos e]
          · rw [if_neg e]; exact hA j hj e
        simp only [Array.getD_eq_getD_getElem?] at h5 ⊢
        cases hx : (listed.setIfInBounds i true)[j]? with
        | none => rfl
        | some b => rw [hx] at h5; exact h5
      rw [this]; simp
    have hst := hs i _ ho (fun e e2 => hsp ⟨e, e2⟩) vs w1 h1 (Pre_mk (fun e he => (h2 _ (haf' e he)).1))
    have hmain : ∀ v w2, (R i).p vs v w2 → Fr (fun _ => False) w1 w2 → ((R i).new = true → ∀ b, foot v = some b → w1.heap.size ≤ b ∧ b < w2.heap.size) → K' ((fr vs).put ops[i].dst v) w2 := by
      intro v w2 hv hf hn
      refine hK' _ _ (ih _ _ _ ?_ ?_)
      · have hon : ∀ j, listed.getD j false = true → ∀ k ∈ (R j).on, k ≠ i := by
          intro j hj k hk e
          have h5 := (hg j (hlt j hj)).2 k hk
          have := ancs_ok (L := fun k => listed.getD k false = true) (fun q hq => h4 j q hj hq) (fun k q hk hw => h4 k q hk hw) j [] (fun k hk => by cases hk) k h5
          rw [e, hunD] at this; cases this
        have honi : ∀ k ∈ (R i).on, k ≠ i := by
          intro k hk e
          have := hanc k (g3 k hk)
          rw [e, hunD] at this; cases this
        refine ⟨by simp [hI.size], fun hla => ?_, upd vs i v, hput vs i _ v ho, h1.trans hf (fun _ _ h => h), fun j hj => ?_, fun j k hne hj hk nj nk b hb => ?_, fun j q hj hq => ?_⟩
        · rw [getD_set _ _ _ hil, if_neg (fun e => hsp ⟨hla, e.symm⟩)]; exact hI.free hla
        · rw [getD_set _ _ _ hil] at hj
          by_cases e : j = i
          · subst e
            rw [upd_same]
            exact ⟨(R j).cong _ _ _ _ (fun k hk => (upd_ne _ _ (honi k hk)).symm) hv, fun nw b hb => ⟨Nat.le_trans h1.size (hn nw b hb).1, (hn nw b hb).2⟩⟩
          · rw [if_neg e] at hj
            rw [upd_ne _ _ e]
            obtain ⟨q1, q2⟩ := h2 j hj
            exact ⟨(R j).cong _ _ _ _ (fun k hk => (upd_ne _ _ (hon j hj k hk)).symm) ((R j).up _ _ _ _ q1 hf), fun nw b hb => ⟨(q2 nw b hb).1, Nat.lt_of_lt_of_le (q2 nw b hb).2 hf.size⟩⟩
        · rw [getD_set _ _ _ hil] at hj hk
          by_cases ej : j = i
          · subst ej
            have ek : ¬ k = j := fun e => hne e.symm
            rw [if_neg ek] at hk
            rw [upd_same] at hb
            rw [upd_ne _ _ ek]
            intro e
            have := ((h2 k hk).2 nk b e).2
            have := (hn nj b hb).1
            omega
          · rw [if_neg ej] at hj
            rw [upd_ne _ _ ej] at hb
            by_cases ek : k = i
            · subst ek
              rw [upd_same]
              intro e
              have := ((h2 j hj).2 nj b hb).2
              have := (hn nk b e).1
              omega
            · rw [if_neg ek] at hk
              rw [upd_ne _ _ ek]
              exact h3 j k hne hj hk nj nk b hb
        · rw [getD_set _ _ _ hil] at hj ⊢
          by_cases e2 : q = i
          · rw [if_pos e2]
          · rw [if_neg e2]
            by_cases ej : j = i
            · subst ej
              exact hafw q hq
            · rw [if_neg ej] at hj
              exact h4 j q hj hq
      · unfold unl at hu ⊢
        have := unl_set listed.toList i (by simp [hil, hun'])
        rw [Array.toList_setIfInBounds]
        omega
    rcases hst with ⟨hw, hst⟩ | ⟨hw, hst⟩
    · rw [if_pos hw]
      exact hst K' hmain
    · rw [if_neg (by rw [hw]; simp)]
      exact hmain undef w1 hst (Fr.refl _ _) (fun _ b hb => by cases hb)

/-- All that the operations left, and that what is new is apart. -/
def EndsN (R : Nat → Lft) (vs : Nat → Value) (w w1 : World) : Nat → Prop
  | 0 => True
  | n + 1 => EndsN R vs w w1 n ∧ (R n).p vs (vs n) w1 ∧ ((R n).new = true → ∀ b, foot (vs n) = some b → w.heap.size ≤ b ∧ b < w1.heap.size)
theorem EndsN_mk {R : Nat → Lft} {vs : Nat → Value} {w w1 : World} : ∀ {n : Nat}, (∀ i, i < n → (R i).p vs (vs i) w1 ∧ ((R i).new = true → ∀ b, foot (vs i) = some b → w.heap.size ≤ b ∧ b < w1.heap.size)) → EndsN R vs w w1 n
  | 0, _ => trivial
  | n + 1, h => ⟨EndsN_mk (fun i hi => h i (by omega)), h n (by omega)⟩

theorem news_shape {ops : Array Oper} {R : List Lft} {last : Bool} (hok : newsOk ops (R.map (·.on)) last = true) :
    dstsB ops.toList = true ∧ (∀ i, i < ops.size → (∀ j, waits ops i j = true → j < i) ∧ ∀ k ∈ (R.getD i Lft.any).on, k ∈ ancs ops i i []) ∧
    (last = true → (∀ k, k < ops.size - 1 → k ∈ ancs ops (ops.size - 1) (ops.size - 1) []) ∧ ∃ o, ops[ops.size - 1]? = some o ∧ o.guard = none) := by
  unfold newsOk at hok
  rw [Bool.and_eq_true, Bool.and_eq_true, List.all_eq_true] at hok
  obtain ⟨⟨h1, h2⟩, h3⟩ := hok
  refine ⟨h1, fun i hi => ?_, fun hl => ?_⟩
  · have h4 := h2 i (List.mem_range.2 hi)
    have ho : ops[i]? = some ops[i] := Array.getElem?_eq_getElem hi
    rw [ho] at h4
    simp only [Bool.and_eq_true, List.all_eq_true, List.contains_iff_mem, decide_eq_true_eq] at h4
    refine ⟨fun j hj => ?_, fun k hk => h4.2 k ?_⟩
    · obtain ⟨e, he, rfl⟩ := of_waits ho hj
      exact h4.1 e he
    · have : (R.map (·.on)).getD i [] = (R.getD i Lft.any).on := by
        simp only [List.getD_eq_getElem?_getD, List.getElem?_map]
        cases R[i]? <;> rfl
      rw [this]; exact hk
  · subst hl
    simp only [Bool.not_true, Bool.false_or, Bool.and_eq_true, List.all_eq_true, List.contains_iff_mem] at h3
    refine ⟨fun k hk => h3.1 k (List.mem_range.2 hk), ?_⟩
    have h6 := h3.2
    cases ho : ops[ops.size - 1]? with
    | none => rw [ho] at h6; cases h6
    | some o => rw [ho] at h6; exact ⟨o, rfl, by simpa using h6⟩

theorem news_start {ops : Array Oper} {R : Nat → Lft} {a : Act} {w : World} {fr : (Nat → Value) → Act} (last : Bool) (hfr : ∀ vs, putAll a vs 0 ops.toList = fr vs) :
    InvN ops R fr w last (Array.replicate ops.size false) a { w with drawn := w.drawn + 1 } := by
  obtain ⟨vs, hv⟩ := putAll_base ops.toList 0 a
  have h0 : ∀ i, (Array.replicate ops.size false).getD i false = false := by
    intro i
    simp only [Array.getD_eq_getD_getElem?, Array.getElem?_replicate]
    split <;> rfl
  exact ⟨by simp, fun _ => h0 _, vs, by rw [← hfr, hv], ⟨rfl, rfl, rfl, Nat.le_refl _, fun _ _ _ => rfl⟩, fun i hi => (by rw [h0] at hi; cases hi), fun i j _ hi => (by rw [h0] at hi; cases hi), fun i o hi => (by rw [h0] at hi; cases hi)⟩

theorem wp_region_news {id : Nat} {ops : Array Oper} {a : Act} {w : World} (R : List Lft) (fr : (Nat → Value) → Act) (hm : P.follows .mixedOrders = true)
    (hok : newsOk ops (R.map (·.on)) false = true) (hfr : ∀ vs, putAll a vs 0 ops.toList = fr vs)
    (hs : StepsN P Q ops (fun i => R.getD i Lft.any) fr w 0 ops.toList)
    (hend : ∀ vs w1, Fr (fun _ => False) w w1 → EndsN (fun i => R.getD i Lft.any) vs w w1 ops.size →
      (∀ i j, i < ops.size → j < ops.size → i ≠ j → (R.getD i Lft.any).new = true → (R.getD j Lft.any).new = true → ∀ b, foot (vs i) = some b → foot (vs j) ≠ some b) → Q .normal (fr vs) w1) :
    (Code.region id ops true).wp P Q a w := by
  refine wp_region_any hm ?_
  obtain ⟨h1, h2, _⟩ := news_shape hok
  refine news_any (R := fun i => R.getD i Lft.any) (fr := fr) (w := w) false h1 h2 (fun e => by cases e) (fun vs i o v ho => ?_) (fun i o ho _ => ?_) (fun vs w1 hf q2 q3 => ?_) ops.size _ _ _ (news_start false hfr) (by unfold unl; simp)
  · rw [← hfr, ← hfr, putAll_put ops.toList 0 a vs i o v h1 (by simpa using ho), Nat.zero_add]
  · have := hs.get i o (by simpa using ho)
    rwa [Nat.zero_add] at this
  · rw [if_neg (by simp)]
    exact hend vs w1 hf (EndsN_mk (fun i hi => q2 i hi (by simp))) (fun i j hi hj => q3 i j hi hj (by simp) (by simp))

/-- The same where the last operation does what it likes, and waits for all others. -/
theorem wp_region_last {id : Nat} {ops : Array Oper} {a : Act} {w : World} (R : List Lft) (n : Nat) (lst : Oper) (fr : (Nat → Value) → Act) (hm : P.follows .mixedOrders = true)
    (hn : ops.size = n + 1) (hlst : ops.toList[n]? = some lst)
    (hok : newsOk ops (R.map (·.on)) true = true) (hfr : ∀ vs, putAll a vs 0 ops.toList = fr vs)
    (hs : StepsN P Q ops (fun i => R.getD i Lft.any) fr w 0 (ops.toList.take n))
    (hend : ∀ vs w1, Fr (fun _ => False) w w1 → EndsN (fun i => R.getD i Lft.any) vs w w1 n →
      (∀ i j, i < n → j < n → i ≠ j → (R.getD i Lft.any).new = true → (R.getD j Lft.any).new = true → ∀ b, foot (vs i) = some b → foot (vs j) ≠ some b) → lst.wp P (fr vs) w1 (Q .normal) Q) :
    (Code.region id ops true).wp P Q a w := by
  have hsz := hn
  refine wp_region_any hm ?_
  obtain ⟨h1, h2, h3⟩ := news_shape hok
  obtain ⟨h3, o, ho, hgn⟩ := h3 rfl
  have hol : o = lst := by
    have : ops.toList[ops.size - 1]? = some o := by simpa using ho
    rw [hsz, Nat.add_sub_cancel, hlst] at this
    cases this; rfl
  subst hol
  refine news_any (R := fun i => R.getD i Lft.any) (fr := fr) (w := w) true h1 h2 (fun _ => h3) (fun vs i o v ho => ?_) (fun i o2 ho2 hne => ?_) (fun vs w1 hf q2 q3 => ?_) ops.size _ _ _ (news_start true hfr) (by unfold unl; simp)
  · rw [← hfr, ← hfr, putAll_put ops.toList 0 a vs i o v h1 (by simpa using ho), Nat.zero_add]
  · have hne := hne rfl
    have hi : i < ops.size := (Array.getElem?_eq_some_iff.1 ho2).1
    have h5 : (ops.toList.take n)[i]? = some o2 := by
      rw [List.getElem?_take, if_pos (by omega)]; simpa using ho2
    have := hs.get i o2 h5
    rwa [Nat.zero_add] at this
  · rw [if_pos rfl]
    exact ⟨o, ho, hgn, hend vs w1 hf (EndsN_mk (fun i hi => q2 i (by omega) (by intro _; omega))) (fun i j hi hj => q3 i j (by omega) (by omega) (by intro _; omega) (by intro _; omega))⟩

/-- An operation that runs to a value; one that enters a call; one that is guarded off. -/
theorem StepN.run {ops : Array Oper} {R : Nat → Lft} {fr : (Nat → Value) → Act} {w : World} {i : Nat} {o : Oper} (hg : o.guard = none)
    (h : ∀ vs w1, Fr (fun _ => False) w w1 → Pre R vs w1 (bnd o) → ∃ v w2, (execOp (fr vs).eval o).run P w1 = .ok (.value v) w2 ∧ (R i).p vs v w2 ∧ Fr (fun _ => False) w1 w2 ∧ ((R i).new = true → ∀ b, foot v = some b → w1.heap.size ≤ b ∧ b < w2.heap.size)) :
    StepN P Q ops R fr w i o := fun vs w1 hf hp => .inl ⟨by simp [Region.wanted, hg], fun K hK => by
  obtain ⟨v, w2, h1, h2, h3, h4⟩ := h vs w1 hf hp
  unfold Oper.wp
  rw [h1, Oper.upon_value]
  exact hK v w2 h2 h3 h4⟩
theorem StepN.quiet {ops : Array Oper} {R : Nat → Lft} {fr : (Nat → Value) → Act} {w : World} {i : Nat} {o : Oper} (hg : o.guard = none) (v : Value) (hR : R i = Lft.is v)
    (h : ∀ vs w1, Fr (fun _ => False) w w1 → Pre R vs w1 (bnd o) → (execOp (fr vs).eval o).run P w1 = .ok (.value v) w1) : StepN P Q ops R fr w i o :=
  StepN.run hg fun vs w1 hf hp => ⟨v, w1, h vs w1 hf hp, by rw [hR]; exact rfl, Fr.refl _ _, by rw [hR]; intro h; cases h⟩
theorem StepN.call {ops : Array Oper} {R : Nat → Lft} {fr : (Nat → Value) → Act} {w : World} {i : Nat} {o : Oper} (hg : o.guard = none) (f : FuncId) (args : (Nat → Value) → Array Value)
    (h0 : ∀ vs w1, Fr (fun _ => False) w w1 → Pre R vs w1 (bnd o) → (execOp (fr vs).eval o).run P w1 = .ok (.enter f (args vs)) w1)
    (h : ∀ vs w1, Fr (fun _ => False) w w1 → Pre R vs w1 (bnd o) → Calls P f (args vs) w1 fun e w2 => ∃ v, e = .returned v ∧ (R i).p vs v w2 ∧ Fr (fun _ => False) w1 w2 ∧ ((R i).new = true → ∀ b, foot v = some b → w1.heap.size ≤ b ∧ b < w2.heap.size)) :
    StepN P Q ops R fr w i o := fun vs w1 hf hp => .inl ⟨by simp [Region.wanted, hg], fun K hK => by
  unfold Oper.wp
  rw [h0 vs w1 hf hp, Oper.upon_enter]
  refine (h vs w1 hf hp).mono ?_
  rintro e w2 ⟨v, rfl, h2, h3, h4⟩
  exact hK v w2 h2 h3 h4⟩
theorem StepN.off {ops : Array Oper} {R : Nat → Lft} {fr : (Nat → Value) → Act} {w : World} {i : Nat} {o : Oper}
    (h : ∀ vs w1, Fr (fun _ => False) w w1 → Pre R vs w1 (bnd o) → Region.wanted o (yielded ops (fr vs).tmps) = false ∧ (R i).p vs undef w1) :
    StepN P Q ops R fr w i o := fun vs w1 hf hp => .inr (h vs w1 hf hp)
/-- A guarded operation that is wanted. -/
theorem StepN.on {ops : Array Oper} {R : Nat → Lft} {fr : (Nat → Value) → Act} {w : World} {i : Nat} {o : Oper}
    (h : ∀ vs w1, Fr (fun _ => False) w w1 → Pre R vs w1 (bnd o) → Region.wanted o (yielded ops (fr vs).tmps) = true ∧ ∃ v w2, (execOp (fr vs).eval o).run P w1 = .ok (.value v) w2 ∧ (R i).p vs v w2 ∧ Fr (fun _ => False) w1 w2 ∧ ((R i).new = true → ∀ b, foot v = some b → w1.heap.size ≤ b ∧ b < w2.heap.size)) :
    StepN P Q ops R fr w i o := fun vs w1 hf hp => .inl ⟨(h vs w1 hf hp).1, fun K hK => by
  obtain ⟨v, w2, h1, h2, h3, h4⟩ := (h vs w1 hf hp).2
  unfold Oper.wp
  rw [h1, Oper.upon_value]
  exact hK v w2 h2 h3 h4⟩
theorem StepN.onCall {ops : Array Oper} {R : Nat → Lft} {fr : (Nat → Value) → Act} {w : World} {i : Nat} {o : Oper} (f : FuncId) (args : (Nat → Value) → Array Value)
    (h : ∀ vs w1, Fr (fun _ => False) w w1 → Pre R vs w1 (bnd o) → Region.wanted o (yielded ops (fr vs).tmps) = true ∧ (execOp (fr vs).eval o).run P w1 = .ok (.enter f (args vs)) w1 ∧
      Calls P f (args vs) w1 fun e w2 => ∃ v, e = .returned v ∧ (R i).p vs v w2 ∧ Fr (fun _ => False) w1 w2 ∧ ((R i).new = true → ∀ b, foot v = some b → w1.heap.size ≤ b ∧ b < w2.heap.size)) :
    StepN P Q ops R fr w i o := fun vs w1 hf hp => .inl ⟨(h vs w1 hf hp).1, fun K hK => by
  unfold Oper.wp
  rw [(h vs w1 hf hp).2.1, Oper.upon_enter]
  refine (h vs w1 hf hp).2.2.mono ?_
  rintro e w2 ⟨v, rfl, h2, h3, h4⟩
  exact hK v w2 h2 h3 h4⟩
theorem EndsN.get {R : Nat → Lft} {vs : Nat → Value} {w w1 : World} : ∀ {n : Nat}, EndsN R vs w w1 n → ∀ i, i < n → (R i).p vs (vs i) w1 ∧ ((R i).new = true → ∀ b, foot (vs i) = some b → w.heap.size ≤ b ∧ b < w1.heap.size)
  | 0, _, i, hi => absurd hi (Nat.not_lt_zero _)
  | n + 1, h, i, hi => by
    by_cases e : i = n
    · subst e; exact h.2
    · exact EndsN.get h.1 i (by omega)
theorem ownsRow_low {w : World} {base base' e s : Nat} {v : Value} {n : Nat} {xs : List Value} (h : w.ownsRow base e s v n xs) (hb : base' ≤ base) : w.ownsRow base' e s v n xs :=
  ⟨h.1, h.2.imp (fun h => h) fun ⟨g, cap, cur, h1, h2, h3⟩ => ⟨g, cap, cur, h1, Nat.le_trans hb h2, h3⟩⟩
theorem foot_own {v : Value} {k : Nat} (h : v.ownBlock = some k) : foot v = some k := by
  cases v with
  | slice a n c => cases a with
    | none => cases h
    | some a => exact h
  | _ => cases h
theorem ownsRow_foot {w : World} {base e s : Nat} {v : Value} {n : Nat} {xs : List Value} (h : w.ownsRow base e s v n xs) {b : Nat} (hb : foot v = some b) : base ≤ b ∧ b < w.heap.size := by
  rcases h.2 with ⟨rfl, rfl⟩ | ⟨g, cap, cur, rfl, h1, h2, _⟩
  · cases hb
  · cases hb; exact ⟨h1, lt_of_block h2⟩
theorem cell_fr0 {w w' : World} (g : Fr (fun _ => False) w w') {a : Addr} {v : Value} (h : w.cell? a = some v) : w'.cell? a = some v := by
  rw [World.cell?_of_block (w := w) (g.block a.block (World.block_lt_of_cell? w a h) id)]; exact h
theorem frozen_fr0 {w w' : World} (g : Fr (fun _ => False) w w') {a : Addr} {v : Value} (h : w.cell? a = some v) {b : Bool} (hf : w.frozen? a = b) : w'.frozen? a = b := by
  rw [← hf]; unfold World.frozen?; rw [g.block a.block (World.block_lt_of_cell? w a h) id]
end Go.Cv
