/- The document's table of locks, plainly; and that it tells what the program's table tells. -/
import Derived.Test.YtkboipnfpcngcaaLkAlone
namespace Go.Proofs.Ytkboipnfpcngcaa
open Go.RowKit Go.Maps Go.Cv
set_option linter.unusedVariables false

/-- Put: as the code does it, from the left. -/
def putF (s : Bs) (p : List Bs × Bool) (x : Bs) : List Bs × Bool := ((if p.2 = false ∧ leB s x = true then p.1 ++ [s] else p.1) ++ (if x = s then [] else [x]), p.2 || leB s x)
def putS (l : List Bs) (s : Bs) : List Bs := if (l.foldl (putF s) ([], false)).2 then (l.foldl (putF s) ([], false)).1 else (l.foldl (putF s) ([], false)).1 ++ [s]
def putG (s : Bs) : Bool → List Bs → List Bs
  | true, [] => []
  | false, [] => [s]
  | d, x :: r => (if d = false ∧ leB s x = true then [s] else []) ++ ((if x = s then [] else [x]) ++ putG s (d || leB s x) r)
theorem putG_cons (s : Bs) (d : Bool) (x : Bs) (r : List Bs) : putG s d (x :: r) = (if d = false ∧ leB s x = true then [s] else []) ++ ((if x = s then [] else [x]) ++ putG s (d || leB s x) r) := by
  cases d <;> simp [putG]
theorem put_fold (s : Bs) : ∀ (l : List Bs) (o : List Bs) (d : Bool), (if (l.foldl (putF s) (o, d)).2 then (l.foldl (putF s) (o, d)).1 else (l.foldl (putF s) (o, d)).1 ++ [s]) = o ++ putG s d l
  | [], o, true => by simp [putG]
  | [], o, false => by simp [putG]
  | x :: r, o, d => by
    rw [List.foldl_cons]
    have := put_fold s r (putF s (o, d) x).1 (putF s (o, d) x).2
    rw [this, putG_cons]
    unfold putF
    by_cases h : d = false ∧ leB s x = true
    · simp [h]
    · simp only [if_neg h]
      by_cases hx : x = s <;> simp [hx]
theorem putS_eq (l : List Bs) (s : Bs) : putS l s = putG s false l := by
  unfold putS; rw [put_fold]; simp
theorem leB_refl (x : Bs) : leB x x = true := by simp [leB]
theorem leB_anti {x y : Bs} (h1 : leB x y = true) (h2 : leB y x = true) : x = y := by
  simp only [leB, decide_eq_true_eq] at h1 h2; exact List.le_antisymm h1 h2
/-- In order, without doubles. -/
structure Srt (l : List Bs) : Prop where
  st : l.Pairwise (fun x y => leB x y = true)
  nd : l.Nodup
theorem Srt.eq {l l' : List Bs} (h : Srt l) (h' : Srt l') (hm : ∀ x, x ∈ l ↔ x ∈ l') : l = l' := by
  have hp : l.Perm l' := (List.perm_ext_iff_of_nodup h.nd h'.nd).2 hm
  have e := mergeSort_of_perm hp
  rw [List.mergeSort_of_pairwise h.st] at e
  rw [e, List.mergeSort_of_pairwise h'.st]
theorem Srt.nil : Srt [] := ⟨List.Pairwise.nil, List.nodup_nil⟩
theorem putG_true {s : Bs} : ∀ {l : List Bs}, s ∉ l → putG s true l = l
  | [], _ => rfl
  | x :: r, h => by
    have h1 : x ≠ s := fun e => h (by rw [e]; exact List.mem_cons_self)
    have h2 : s ∉ r := fun e => h (List.mem_cons_of_mem _ e)
    rw [putG_cons, if_neg (by simp), if_neg h1, Bool.true_or, putG_true h2]; rfl
theorem putG_spec {s : Bs} : ∀ {l : List Bs}, Srt l → Srt (putG s false l) ∧ ∀ x, x ∈ putG s false l ↔ x ∈ l ∨ x = s
  | [], h => ⟨⟨by simp [putG], by simp [putG]⟩, fun x => by simp [putG]⟩
  | y :: r, h => by
    have h1 := List.pairwise_cons.1 h.st
    have h2 := List.nodup_cons.1 h.nd
    have hr : Srt r := ⟨h1.2, h2.2⟩
    cases hy : leB s y with
    | true =>
      have hs : s ∉ r := fun hm => by
        have e := leB_anti hy (h1.1 s hm)
        subst e; exact h2.1 hm
      have e : putG s false (y :: r) = [s] ++ ((if y = s then [] else [y]) ++ r) := by
        rw [putG_cons, if_pos ⟨rfl, hy⟩, hy, Bool.or_true, putG_true hs]
      rw [e]
      by_cases hys : y = s
      · subst hys
        rw [if_pos rfl]
        refine ⟨h, fun x => ?_⟩
        simp
        intro hx; exact .inl hx
      · rw [if_neg hys]
        have hsm : s ∉ y :: r := fun hm => (List.mem_cons.1 hm).elim (fun e => hys e.symm) hs
        refine ⟨⟨?_, ?_⟩, fun x => ?_⟩
        · show (s :: y :: r).Pairwise _
          refine List.pairwise_cons.2 ⟨fun x hx => ?_, h.st⟩
          rcases List.mem_cons.1 hx with rfl | hx
          · exact hy
          · exact leB_trans _ _ _ hy (h1.1 x hx)
        · exact List.nodup_cons.2 ⟨hsm, h.nd⟩
        · show x ∈ s :: y :: r ↔ _
          rw [List.mem_cons]; exact Or.comm
    | false =>
      have hne : y ≠ s := fun e => by rw [e, leB_refl] at hy; cases hy
      have hle : leB y s = true := by have := leB_total y s; rw [hy, Bool.or_false] at this; exact this
      obtain ⟨i1, i2⟩ := putG_spec (s := s) hr
      have e : putG s false (y :: r) = y :: putG s false r := by
        rw [putG_cons, if_neg (by rw [hy]; simp), if_neg hne, hy]; rfl
      rw [e]
      refine ⟨⟨List.pairwise_cons.2 ⟨fun x hx => ?_, i1.st⟩, List.nodup_cons.2 ⟨fun hm => ?_, i1.nd⟩⟩, fun x => ?_⟩
      · rcases (i2 x).1 hx with hx | rfl
        · exact h1.1 x hx
        · exact hle
      · rcases (i2 y).1 hm with hm | hm
        · exact h2.1 hm
        · exact hne hm
      · rw [List.mem_cons, List.mem_cons, i2, or_assoc]
theorem putS_spec {l : List Bs} (h : Srt l) (s : Bs) : Srt (putS l s) ∧ ∀ x, x ∈ putS l s ↔ x ∈ l ∨ x = s := by rw [putS_eq]; exact putG_spec h
theorem puts_spec : ∀ (r : List Bs) {l : List Bs}, Srt l → Srt (r.foldl putS l) ∧ ∀ x, x ∈ r.foldl putS l ↔ x ∈ l ∨ x ∈ r
  | [], l, h => ⟨h, fun x => by simp⟩
  | y :: r, l, h => by
    obtain ⟨h1, h2⟩ := putS_spec h y
    obtain ⟨h3, h4⟩ := puts_spec r h1
    refine ⟨h3, fun x => ?_⟩
    rw [List.foldl_cons, h4, h2, List.mem_cons, or_assoc]
theorem putS_len (l : List Bs) (s : Bs) (h : Srt l) : (putS l s).length ≤ l.length + 1 := by
  obtain ⟨h1, h2⟩ := putS_spec h s
  have := nodup_sub_len (U := s :: l) h1.nd (fun x hx => ((h2 x).1 hx).elim (fun h => List.mem_cons_of_mem _ h) (fun h => by rw [h]; exact List.mem_cons_self))
  simpa using this

/-- One lock of the document: who, which case, to write. -/
abbrev LkR := ByteArray × ByteArray × Bool
def who (y : LkR) : Bs := y.1.data.toList
def cas (y : LkR) : Bs := y.2.1.data.toList
def isR (tx c : ByteArray) (y : LkR) : Bool := decide (y.1 = tx ∧ y.2.1 = c)
def busyR1 (R : List LkR) (tx : ByteArray) (x : WantT) : Bool := R.any (fun y => decide (y.1 ≠ tx ∧ y.2.1 = x.1) && (y.2.2 || x.2))
def busyR (R : List LkR) (tx : ByteArray) (l : List WantT) : Bool := l.any (busyR1 R tx)
def markR (tx : ByteArray) (x : WantT) (y : LkR) : LkR := if isR tx x.1 y then (y.1, y.2.1, y.2.2 || x.2) else y
def putR (tx : ByteArray) (R : List LkR) (x : WantT) : List LkR := if R.any (isR tx x.1) then R.map (markR tx x) else R ++ [(tx, x.1, x.2)]
def takeRE (R : List LkR) (tx : ByteArray) (l : List WantT) : Int := if tx = ⟨#[]⟩ then 1 else if busyR R tx l then 35 else 0
def takeR (R : List LkR) (tx : ByteArray) (l : List WantT) : List LkR := if takeRE R tx l = 0 then l.foldl (putR tx) R else R
def freeR (R : List LkR) (tx : ByteArray) : List LkR := R.filter (fun y => decide (y.1 ≠ tx))
def holdersR (R : List LkR) (c : ByteArray) : List Bs := ((R.filter (fun y => decide (y.2.1 = c))).map who).foldl putS []
def heldR (R : List LkR) (tx : ByteArray) : List Bs := ((R.filter (fun y => decide (y.1 = tx))).map cas).foldl putS []
def allR (R : List LkR) : List Bs := (R.map who).foldl putS []
def writerR (R : List LkR) (c : ByteArray) : Option ByteArray := (R.find? (fun y => decide (y.2.1 = c) && y.2.2)).map (·.1)

def lev (b : Bool) : Int := if b then 2 else 1
/-- Both tables hold the same. -/
structure Sim (T : LkT) (R : List LkR) : Prop where
  fwd : ∀ y ∈ R, T.how (cas y) (who y) = lev y.2.2
  bwd : ∀ s u, T.how s u ≠ 0 → ∃ y ∈ R, cas y = s ∧ who y = u
theorem lev_ne (b : Bool) : lev b ≠ 0 := by cases b <;> decide
theorem bytes_inj {a b : ByteArray} (h : a.data.toList = b.data.toList) : a = b := by rw [← toB_data a, ← toB_data b, h]
theorem Sim.whos {T : LkT} {R : List LkR} (ok : LkOk T) (h : Sim T R) (s u : Bs) : u ∈ T.whos s ↔ ∃ y ∈ R, cas y = s ∧ who y = u := by
  rw [ok.hw]
  refine ⟨h.bwd s u, ?_⟩
  rintro ⟨y, hy, rfl, rfl⟩
  rw [h.fwd y hy]; exact lev_ne _
theorem sim_empty : Sim emptyT [] := ⟨fun y hy => (by cases hy), fun s u h => absurd rfl h⟩
theorem wantN_lev (b : Bool) : wantN b = lev b := by cases b <;> rfl
theorem lev_max (a b : Bool) : max (lev b) (lev a) = lev (a || b) := by cases a <;> cases b <;> decide
theorem sim_put {T : LkT} {R : List LkR} (h : Sim T R) (tx : ByteArray) (x : WantT) : Sim (putW tx.data.toList T x) (putR tx R x) := by
  have hkey : ∀ y : LkR, isR tx x.1 y = true ↔ cas y = x.1.data.toList ∧ who y = tx.data.toList := fun y => by
    unfold isR who cas
    rw [decide_eq_true_eq]
    exact ⟨fun ⟨a, b⟩ => ⟨by rw [b], by rw [a]⟩, fun ⟨a, b⟩ => ⟨bytes_inj b, bytes_inj a⟩⟩
  by_cases ha : R.any (isR tx x.1) = true
  · have e : putR tx R x = R.map (markR tx x) := by unfold putR; rw [if_pos ha]
    rw [e]
    obtain ⟨y0, hy0, hk0⟩ := List.any_eq_true.1 ha
    obtain ⟨c0, u0⟩ := (hkey y0).1 hk0
    constructor
    · intro y hy
      obtain ⟨z, hz, rfl⟩ := List.mem_map.1 hy
      unfold markR
      by_cases hk : isR tx x.1 z = true
      · rw [if_pos hk]
        obtain ⟨c1, u1⟩ := (hkey z).1 hk
        show (putW tx.data.toList T x).how (cas z) (who z) = lev (z.2.2 || x.2)
        rw [how_put, if_pos ⟨c1, u1⟩, wantN_lev, ← c1, ← u1, h.fwd z hz, lev_max]
      · rw [if_neg hk, how_put, if_neg (fun h => hk ((hkey z).2 h))]
        exact h.fwd z hz
    · intro s u hne
      rw [how_put] at hne
      by_cases hk : s = x.1.data.toList ∧ u = tx.data.toList
      · refine ⟨markR tx x y0, List.mem_map.2 ⟨y0, hy0, rfl⟩, ?_, ?_⟩
        · unfold markR; rw [if_pos hk0]; rw [hk.1]; exact c0
        · unfold markR; rw [if_pos hk0]; rw [hk.2]; exact u0
      · rw [if_neg hk] at hne
        obtain ⟨y, hy, c1, u1⟩ := h.bwd s u hne
        refine ⟨markR tx x y, List.mem_map.2 ⟨y, hy, rfl⟩, ?_, ?_⟩
        · unfold markR; split <;> exact c1
        · unfold markR; split <;> exact u1
  · have e : putR tx R x = R ++ [(tx, x.1, x.2)] := by unfold putR; rw [if_neg ha]
    rw [e]
    have hno : ∀ y ∈ R, isR tx x.1 y ≠ true := fun y hy hk => ha (List.any_eq_true.2 ⟨y, hy, hk⟩)
    have h0 : T.how x.1.data.toList tx.data.toList = 0 := Classical.byContradiction (fun hne => by
      obtain ⟨y, hy, c1, u1⟩ := h.bwd _ _ hne
      exact hno y hy ((hkey y).2 ⟨c1, u1⟩))
    constructor
    · intro y hy
      rcases List.mem_append.1 hy with hy | hy
      · rw [how_put, if_neg (fun h => hno y hy ((hkey y).2 h))]
        exact h.fwd y hy
      · rw [List.mem_singleton] at hy
        subst hy
        show (putW tx.data.toList T x).how x.1.data.toList tx.data.toList = lev x.2
        rw [how_put, if_pos ⟨rfl, rfl⟩, h0, wantN_lev]
        cases x.2 <;> decide
    · intro s u hne
      rw [how_put] at hne
      by_cases hk : s = x.1.data.toList ∧ u = tx.data.toList
      · exact ⟨(tx, x.1, x.2), List.mem_append.2 (.inr List.mem_cons_self), hk.1.symm, hk.2.symm⟩
      · rw [if_neg hk] at hne
        obtain ⟨y, hy, c1, u1⟩ := h.bwd s u hne
        exact ⟨y, List.mem_append.2 (.inl hy), c1, u1⟩
theorem sim_puts {tx : ByteArray} : ∀ (l : List WantT) {T : LkT} {R : List LkR}, Sim T R → Sim (takeT T tx.data.toList l) (l.foldl (putR tx) R)
  | [], T, R, h => h
  | x :: r, T, R, h => sim_puts r (sim_put h tx x)
theorem sim_busy {T : LkT} {R : List LkR} (ok : LkOk T) (h : Sim T R) (tx : ByteArray) (l : List WantT) : busyB T tx.data.toList l = busyR R tx l := by
  unfold busyB busyR
  congr 1
  funext x
  rw [Bool.eq_iff_iff]
  unfold busy1 busyR1
  rw [List.any_eq_true, List.any_eq_true]
  constructor
  · rintro ⟨u, hu, hb⟩
    obtain ⟨y, hy, c1, u1⟩ := (h.whos ok _ _).1 hu
    refine ⟨y, hy, ?_⟩
    unfold other at hb
    simp only [Bool.and_eq_true, decide_eq_true_eq, Bool.or_eq_true] at hb ⊢
    refine ⟨⟨fun e => hb.1 (by rw [← u1, ← e]; rfl), bytes_inj c1⟩, ?_⟩
    rcases hb.2 with hb2 | hb2
    · exact .inr hb2
    · left
      rw [← c1, ← u1, h.fwd y hy] at hb2
      revert hb2; cases y.2.2 <;> simp [lev]
  · rintro ⟨y, hy, hb⟩
    simp only [Bool.and_eq_true, decide_eq_true_eq, Bool.or_eq_true] at hb
    refine ⟨who y, (h.whos ok _ _).2 ⟨y, hy, by rw [← hb.1.2]; rfl, rfl⟩, ?_⟩
    unfold other
    simp only [Bool.and_eq_true, decide_eq_true_eq, Bool.or_eq_true]
    refine ⟨fun e => hb.1.1 (bytes_inj e), ?_⟩
    rcases hb.2 with hb2 | hb2
    · right
      have := h.fwd y hy
      rw [hb2] at this
      rw [← hb.1.2]; exact this
    · exact .inl hb2
theorem sim_takeE {T : LkT} {R : List LkR} (ok : LkOk T) (h : Sim T R) (tx : ByteArray) (l : List WantT) : takeE T tx.data.toList l = takeRE R tx l := by
  unfold takeE takeRE
  rw [sim_busy ok h]
  have : tx.data.toList = [] ↔ tx = ⟨#[]⟩ := ⟨fun e => bytes_inj e, fun e => by rw [e]⟩
  simp only [this]
theorem sim_take {T : LkT} {R : List LkR} (ok : LkOk T) (h : Sim T R) (tx : ByteArray) (l : List WantT) : Sim (takeS T tx.data.toList l) (takeR R tx l) := by
  unfold takeS takeR
  rw [sim_takeE ok h]
  split
  · exact sim_puts l h
  · exact h
theorem how_fold {u : Bs} : ∀ (l : List Bs) {T : LkT} {s v : Bs}, (l.foldl (free1 u) T).how s v = if s ∈ l ∧ v = u then 0 else T.how s v
  | [], T, s, v => by simp
  | x :: r, T, s, v => by
    show (r.foldl (free1 u) (free1 u T x)).how s v = _
    rw [how_fold r, free1_how]
    by_cases hv : v = u
    · by_cases hs : s ∈ r
      · simp [hv, hs]
      · by_cases hx : s = x <;> simp [hv, hs, hx]
    · simp [hv]
theorem how_free {T : LkT} (ok : LkOk T) (u s v : Bs) : (freeT T u).how s v = if v = u then 0 else T.how s v := by
  show ((heldT T u).foldl (free1 u) T).how s v = _
  rw [how_fold]
  by_cases hv : v = u
  · subst hv
    rw [if_pos rfl]
    by_cases hs : s ∈ heldT T v
    · rw [if_pos ⟨hs, rfl⟩]
    · rw [if_neg (fun h => hs h.1)]
      exact Classical.byContradiction (fun hne => hs ((mem_held_iff ok).2 ((ok.hw s v).2 hne)))
  · rw [if_neg hv, if_neg (fun h => hv h.2)]
theorem sim_free {T : LkT} {R : List LkR} (ok : LkOk T) (h : Sim T R) (tx : ByteArray) : Sim (freeT T tx.data.toList) (freeR R tx) := by
  constructor
  · intro y hy
    obtain ⟨hy1, hy2⟩ := List.mem_filter.1 hy
    have hne : who y ≠ tx.data.toList := fun e => (by simpa using hy2 : y.1 ≠ tx) (bytes_inj e)
    rw [how_free ok, if_neg hne]
    exact h.fwd y hy1
  · intro s u hne
    rw [how_free ok] at hne
    split at hne
    · exact absurd rfl hne
    · rename_i hu
      obtain ⟨y, hy, c1, u1⟩ := h.bwd s u hne
      refine ⟨y, List.mem_filter.2 ⟨hy, ?_⟩, c1, u1⟩
      simp only [decide_eq_true_eq]
      intro e; exact hu (by rw [← u1, ← e]; rfl)
theorem srt_sort {l : List Bs} (h : l.Nodup) : Srt (sortB l) := ⟨sortB_st l, (sortB_perm l).nodup_iff.2 h⟩
theorem sim_holders {T : LkT} {R : List LkR} (ok : LkOk T) (h : Sim T R) (c : ByteArray) : sortB (T.whos c.data.toList) = holdersR R c := by
  obtain ⟨h1, h2⟩ := puts_spec ((R.filter (fun y => decide (y.2.1 = c))).map who) Srt.nil
  refine (srt_sort (ok.wn _)).eq h1 (fun u => ?_)
  rw [mem_sortB, h.whos ok]
  refine Iff.trans ?_ (h2 u).symm
  simp only [List.not_mem_nil, false_or, List.mem_map, List.mem_filter, decide_eq_true_eq]
  exact ⟨fun ⟨y, hy, c1, u1⟩ => ⟨y, ⟨hy, bytes_inj c1⟩, u1⟩, fun ⟨y, ⟨hy, c1⟩, u1⟩ => ⟨y, hy, by rw [← c1]; rfl, u1⟩⟩
theorem sim_held {T : LkT} {R : List LkR} (ok : LkOk T) (h : Sim T R) (tx : ByteArray) : heldT T tx.data.toList = heldR R tx := by
  obtain ⟨h1, h2⟩ := puts_spec ((R.filter (fun y => decide (y.1 = tx))).map cas) Srt.nil
  refine Srt.eq ⟨held_st _, held_nodup ok _⟩ h1 (fun s => ?_)
  rw [mem_held_iff ok, h.whos ok]
  refine Iff.trans ?_ (h2 s).symm
  simp only [List.not_mem_nil, false_or, List.mem_map, List.mem_filter, decide_eq_true_eq]
  exact ⟨fun ⟨y, hy, c1, u1⟩ => ⟨y, ⟨hy, bytes_inj u1⟩, c1⟩, fun ⟨y, ⟨hy, u1⟩, c1⟩ => ⟨y, hy, c1, by rw [← u1]; rfl⟩⟩
theorem sim_all {T : LkT} {R : List LkR} (ok : LkOk T) (h : Sim T R) {l : List Bs} (hl : IsAll T l) : l = allR R := by
  obtain ⟨h1, h2⟩ := puts_spec (R.map who) Srt.nil
  refine Srt.eq ⟨hl.st, hl.nd⟩ h1 (fun u => ?_)
  rw [hl.mem]
  refine Iff.trans ?_ (h2 u).symm
  simp only [List.not_mem_nil, false_or, List.mem_map, h.whos ok]
  exact ⟨fun ⟨s, y, hy, c1, u1⟩ => ⟨y, hy, u1⟩, fun ⟨y, hy, u1⟩ => ⟨cas y, y, hy, rfl, u1⟩⟩
theorem sim_writer {T : LkT} {R : List LkR} (ok : LkOk T) (ha : Alone T) (h : Sim T R) (c : ByteArray) : writerT T c.data.toList = (writerR R c).map (·.data.toList) := by
  unfold writerR
  cases hf : R.find? (fun y => decide (y.2.1 = c) && y.2.2) with
  | none =>
    rw [List.find?_eq_none] at hf
    show writerT T c.data.toList = none
    unfold writerT
    rw [List.find?_eq_none]
    intro u hu h2
    obtain ⟨y, hy, c1, u1⟩ := (h.whos ok _ _).1 (mem_sortB.1 hu)
    have h2 : T.how c.data.toList u = 2 := by simpa using h2
    rw [← c1, ← u1, h.fwd y hy] at h2
    refine hf y hy ?_
    simp only [Bool.and_eq_true, decide_eq_true_eq]
    exact ⟨bytes_inj c1, by revert h2; cases y.2.2 <;> simp [lev]⟩
  | some y =>
    have h1 := List.find?_some hf
    have hy := List.mem_of_find?_eq_some hf
    simp only [Bool.and_eq_true, decide_eq_true_eq] at h1
    have h2 : T.how c.data.toList (who y) = 2 := by have := h.fwd y hy; rw [h1.2] at this; rw [← h1.1]; exact this
    have h3 : who y ∈ T.whos c.data.toList := (ok.hw _ _).2 (by rw [h2]; decide)
    show writerT T c.data.toList = some (who y)
    unfold writerT
    cases hw : (sortB (T.whos c.data.toList)).find? (fun u => decide (T.how c.data.toList u = 2)) with
    | none =>
      rw [List.find?_eq_none] at hw
      exact absurd (by simpa using h2) (hw _ (mem_sortB.2 h3))
    | some u =>
      have h4 := List.find?_some hw
      have h5 : T.how c.data.toList u = 2 := by simpa using h4
      rw [ha _ _ _ h5 h3]
theorem putR_len (tx : ByteArray) (R : List LkR) (x : WantT) : (putR tx R x).length ≤ R.length + 1 := by
  unfold putR; split <;> simp
theorem putsR_len (tx : ByteArray) : ∀ (l : List WantT) (R : List LkR), (l.foldl (putR tx) R).length ≤ R.length + l.length
  | [], R => Nat.le_refl _
  | x :: r, R => by
    have := putsR_len tx r (putR tx R x)
    have := putR_len tx R x
    rw [List.foldl_cons, List.length_cons]; omega
theorem takeR_len (R : List LkR) (tx : ByteArray) (l : List WantT) : (takeR R tx l).length ≤ R.length + l.length := by
  unfold takeR; split
  · exact putsR_len _ _ _
  · omega
theorem freeR_some {T : LkT} {R : List LkR} (ok : LkOk T) (h : Sim T R) (tx : ByteArray) : decide (0 < (heldT T tx.data.toList).length) = decide ((freeR R tx).length < R.length) := by
  rw [decide_eq_decide]
  unfold freeR
  rw [List.length_filter_lt_length_iff_exists]
  constructor
  · intro hp
    obtain ⟨s, hs⟩ := List.exists_mem_of_length_pos hp
    obtain ⟨y, hy, c1, u1⟩ := (h.whos ok _ _).1 ((mem_held_iff ok).1 hs)
    exact ⟨y, hy, by simp; exact bytes_inj u1⟩
  · rintro ⟨y, hy, hn⟩
    have e : y.1 = tx := by simpa using hn
    exact List.length_pos_of_mem ((mem_held_iff ok).2 ((h.whos ok (cas y) _).2 ⟨y, hy, rfl, by rw [← e]; rfl⟩))
end Go.Proofs.Ytkboipnfpcngcaa
