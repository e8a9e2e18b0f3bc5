/- What Load of a transaction answers, plainly; a vote put in. -/
import Derived.Test.YtehneddmamnmiaaTxRight
namespace Go.Proofs.Ytehneddmamnmiaa
open Go.RowKit Go.Maps Go.Cv Go.Shelf
set_option linter.unusedVariables false

def putV (r : TxR) (g : Int) (ts : List ByteArray) : TxR := { r with V := if g ∈ keys r then r.V.map (fun x => if x.1 = g then (g, ts) else x) else r.V ++ [(g, ts)] }
def txK (bs : List UInt8) (most : Int) (r : RS) : Nat → RS × List ByteArray
  | 0 => (r, [])
  | j + 1 => (((txK bs most r j).1.text bs most).2, (txK bs most r j).2 ++ [⟨((txK bs most r j).1.text bs most).1.toArray⟩])
theorem txK_len (bs : List UInt8) (most : Int) (r : RS) : ∀ j, (txK bs most r j).2.length = j
  | 0 => rfl
  | j + 1 => by rw [txK]; simp [txK_len bs most r j]
def itK {α : Type} (f : α → Option α) (s : α) : Nat → Option α
  | 0 => some s
  | j + 1 => (itK f s j).bind f
theorem itK_none {α : Type} {f : α → Option α} {s : α} {j : Nat} (h : itK f s j = none) : ∀ k, itK f s (j + k) = none
  | 0 => h
  | k + 1 => by show (itK f s (j + k)).bind f = none; rw [itK_none h k]; rfl
theorem itK_stop {α : Type} {f : α → Option α} {s x : α} {j n : Nat} (h : itK f s j = some x) (hf : f x = none) (hn : j < n) : itK f s n = none := by
  have h1 : itK f s (j + 1) = none := by show (itK f s j).bind f = none; rw [h]; exact hf
  have h2 := itK_none h1 (n - (j + 1))
  rwa [show j + 1 + (n - (j + 1)) = n by omega] at h2
def vtStep (bs : List UInt8) (most : Int) (s : RS × TxR) : Option (RS × TxR) :=
  if ((s.1.get bs 1).1 : Int) ∈ grp s.2 then some ((txK bs most (s.1.get bs 1).2 (atOf s.2 ((s.1.get bs 1).1 : Int)).length).1, putV s.2 ((s.1.get bs 1).1 : Int) (txK bs most (s.1.get bs 1).2 (atOf s.2 ((s.1.get bs 1).1 : Int)).length).2) else none
def akStep (bs : List UInt8) (s : RS × TxR) : Option (RS × TxR) :=
  if ((s.1.get bs 1).1 : Int) ∈ grp s.2 then some ((s.1.get bs 1).2, { s.2 with K := addS s.2.K ((s.1.get bs 1).1 : Int) }) else none
/-- What was decided, as read. -/
def ldO (bs : List UInt8) (t : TxR) (r : RS) : RS × TxR :=
  ((((r.get bs 1).2.get bs 8).2.get bs 8).2, { t with o := ((r.get bs 1).1 : Int), pos := IntKind.i64.wrap (((r.get bs 1).2.get bs 8).1 : Int), why := IntKind.i64.wrap ((((r.get bs 1).2.get bs 8).2.get bs 8).1 : Int) })
def ldV (bs : List UInt8) (s : RS × TxR) : Option (RS × TxR) := itK (vtStep bs bs.length) ((s.1.count bs 3).2, s.2) (s.1.count bs 3).1
def ldA (bs : List UInt8) (s : RS × TxR) : Option (RS × TxR) := itK (akStep bs) ((s.1.count bs 3).2, s.2) (s.1.count bs 3).1
/-- What Load answers. -/
def loadTx (bs : List UInt8) : Option TxR :=
  match bgT bs bs.length ⟨0, 0, 0⟩ with
  | none => none
  | some t => match ldV bs (ldO bs t (bgS bs bs.length ⟨0, 0, 0⟩).1) with
    | none => none
    | some s => match ldA bs s with
      | none => none
      | some s => if (s.1.end_ bs).1 ≠ 0 ∨ rightR s.2 = false ∨ svT s.2 ≠ bs then none else some s.2

/-- The weight of what was read. -/
def tsW (ts : List ByteArray) : Nat := (ts.map (·.size)).sum
def vtW (V : List (Int × List ByteArray)) : Nat := (V.map (fun x => tsW x.2)).sum
def wT (r : TxR) : Nat := r.tx.size + (mapB r).size + opsW r.ops + vtW r.V
theorem txK_at (bs : List UInt8) (most : Int) (r : RS) : ∀ j, tsW (txK bs most r j).2 + r.at_ ≤ (txK bs most r j).1.at_
  | 0 => by show tsW [] + r.at_ ≤ r.at_; simp [tsW]
  | j + 1 => by
    have h1 := txK_at bs most r j
    have h2 := text_at' bs (txK bs most r j).1 most
    rw [txK]
    unfold tsW at h1 ⊢
    simp only [List.map_append, List.sum_append, List.map_cons, List.map_nil, List.sum_cons, List.sum_nil]
    have e1 : (⟨((txK bs most r j).1.text bs most).1.toArray⟩ : ByteArray).size = ((txK bs most r j).1.text bs most).1.length := by
      show Array.size _ = _; simp
    rw [e1]; omega
theorem vtW_map (V : List (Int × List ByteArray)) (g : Int) (ts : List ByteArray) (hn : (V.map (·.1)).Nodup) : vtW (V.map (fun x => if x.1 = g then (g, ts) else x)) ≤ vtW V + tsW ts := by
  induction V with
  | nil => simp [vtW]
  | cons x t ih =>
    rw [List.map_cons, List.nodup_cons] at hn
    have h1 := ih hn.2
    unfold vtW at h1 ⊢
    rw [List.map_cons, List.map_cons, List.map_cons, List.sum_cons, List.sum_cons]
    by_cases e : x.1 = g
    · rw [if_pos e]
      have h2 : t.map (fun x => if x.1 = g then (g, ts) else x) = t := by
        conv => rhs; rw [← List.map_id t]
        refine List.map_congr_left (fun y hy => ?_)
        have : y.1 ≠ g := fun e2 => hn.1 (by rw [e, ← e2]; exact List.mem_map_of_mem (f := (·.1)) hy)
        rw [if_neg this]; rfl
      rw [h2]
      show tsW ts + _ ≤ _
      omega
    · rw [if_neg e]; omega
theorem putV_wt {r : TxR} (hn : (keys r).Nodup) (g : Int) (ts : List ByteArray) : wT (putV r g ts) ≤ wT r + tsW ts := by
  have : vtW (putV r g ts).V ≤ vtW r.V + tsW ts := by
    unfold putV
    show vtW (if g ∈ keys r then _ else _) ≤ _
    split
    · exact vtW_map _ _ _ hn
    · unfold vtW; simp
  show r.tx.size + (mapB r).size + opsW r.ops + vtW (putV r g ts).V ≤ _
  unfold wT; omega
def Good0 (r : TxR) : Prop := Good { r with o := 0 }
theorem keys_putV {r : TxR} {g : Int} {ts : List ByteArray} : keys (putV r g ts) = if g ∈ keys r then keys r else keys r ++ [g] := by
  unfold putV keys
  show List.map _ (if g ∈ keys r then _ else _) = _
  by_cases h : g ∈ keys r
  · rw [if_pos h]
    have h' : g ∈ r.V.map (·.1) := h
    rw [if_pos h', List.map_map]
    refine List.map_congr_left (fun x _ => ?_)
    show (if x.1 = g then (g, ts) else x).1 = x.1
    split
    · rename_i e; exact e.symm
    · rfl
  · rw [if_neg h]
    have h' : ¬ g ∈ r.V.map (·.1) := h
    rw [if_neg h', List.map_append]; rfl
theorem mem_putV {r : TxR} {g : Int} {ts : List ByteArray} {x : Int × List ByteArray} (hx : x ∈ (putV r g ts).V) : x = (g, ts) ∨ x ∈ r.V := by
  have hx : x ∈ (if g ∈ keys r then r.V.map (fun x => if x.1 = g then (g, ts) else x) else r.V ++ [(g, ts)]) := hx
  split at hx
  · obtain ⟨y, hy, e⟩ := List.mem_map.1 hx
    split at e
    · exact .inl e.symm
    · subst e; exact .inr hy
  · rcases List.mem_append.1 hx with hx | hx
    · exact .inr hx
    · exact .inl (List.mem_singleton.1 hx)
theorem good_putV {r : TxR} (h : Good0 r) {g : Int} (hg : g ∈ grp r) {ts : List ByteArray} (ht : ts.length = (atOf r g).length) : Good0 (putV r g ts) where
  pl := h.pl
  len := h.len
  pn := h.pn
  sl := h.sl
  gr := h.gr
  gnd := h.gnd
  vnd := by
    show (keys (putV r g ts)).Nodup
    rw [keys_putV]
    split
    · exact h.vnd
    · rename_i hh
      have := h.vnd
      refine List.nodup_append.2 ⟨h.vnd, by simp, fun a ha b hb e => ?_⟩
      rw [List.mem_singleton] at hb; subst hb; exact hh (e ▸ ha)
  sub := fun x hx => by
    have hx : x ∈ keys (putV r g ts) := hx
    rw [keys_putV] at hx
    split at hx
    · exact h.sub x hx
    · rcases List.mem_append.1 hx with hx | hx
      · exact h.sub x hx
      · rw [List.mem_singleton] at hx; subst hx; exact hg
  vl := fun x hx => by
    rcases mem_putV hx with rfl | hx
    · exact ht
    · exact h.vl x hx
  knd := h.knd
  ksub := h.ksub
  full := fun e => by cases e
theorem good_addK {r : TxR} (h : Good0 r) {g : Int} (hg : g ∈ grp r) : Good0 { r with K := addS r.K g } where
  pl := h.pl
  len := h.len
  pn := h.pn
  sl := h.sl
  gr := h.gr
  gnd := h.gnd
  vnd := h.vnd
  sub := h.sub
  vl := h.vl
  knd := addS_nodup h.knd g
  ksub := fun x hx => by
    rcases mem_addS.1 hx with hx | rfl
    · exact h.ksub x hx
    · exact hg
  full := fun e => by cases e

theorem bgT_some {bs : List UInt8} {most : Int} {r : RS} {t : TxR} (h : bgT bs most r = some t) : ∃ ep l, loadT ((r.text bs most).2.text bs most).1 = some (ep, l) ∧ t = newR ⟨(r.text bs most).1.toArray⟩ (bgS bs most r).2 ep l := by
  unfold bgT at h
  split at h
  · cases h
  · rename_i ep l e
    split at h
    · cases h
    · exact ⟨ep, l, e, (Option.some.inj h).symm⟩
theorem bgT_wt {bs : List UInt8} {most : Int} {r : RS} {t : TxR} (h : bgT bs most r = some t) : wT t + r.at_ ≤ (bgS bs most r).1.at_ := by
  obtain ⟨ep, l, h1, rfl⟩ := bgT_some h
  have h2 := text_at' bs r most
  have h3 := text_at' bs (r.text bs most).2 most
  have h4 := count_at bs ((r.text bs most).2.text bs most).2 4
  have h5 := opK_at bs most (((r.text bs most).2.text bs most).2.count bs 4).2 (bgN bs most r)
  have h6 := (load_right h1).2
  have e1 : (⟨(r.text bs most).1.toArray⟩ : ByteArray).size = (r.text bs most).1.length := by show Array.size _ = _; simp
  have e2 : (mapB (newR ⟨(r.text bs most).1.toArray⟩ (bgS bs most r).2 ep l)).size = ((r.text bs most).2.text bs most).1.length := by
    unfold mapB
    show Array.size (sv ep l).toArray = _
    rw [h6]; simp
  unfold wT
  rw [e2]
  show (⟨(r.text bs most).1.toArray⟩ : ByteArray).size + _ + opsW (bgS bs most r).2 + vtW [] + _ ≤ _
  rw [e1]
  have e3 : vtW [] = 0 := rfl
  rw [e3]
  show _ + _ + opsW (opK bs most _ _).2 + 0 + _ ≤ (opK bs most _ _).1.at_
  omega
theorem bgT_good {bs : List UInt8} {most : Int} {r : RS} {t : TxR} (h : bgT bs most r = some t) : Good t ∧ t.parts.length ≤ 4096 := by
  obtain ⟨ep, l, h1, rfl⟩ := bgT_some h
  constructor
  · refine good_new _ _ _ _ ?_
    show (opK bs most _ _).2.length ≤ 4
    rw [opK_len]
    have := count_most bs ((r.text bs most).2.text bs most).2 4
    unfold bgN; omega
  · show l.length ≤ 4096
    unfold loadT at h1
    simp only at h1
    split at h1
    · cases h1
    · cases h1
      rw [ldK_len]
      have := count_most ((r.text bs most).2.text bs most).1 ((⟨0, 0, 0⟩ : RS).get ((r.text bs most).2.text bs most).1 4).2 256
      simp only [List.length_nil]; omega
theorem sum_perm {α : Type} (f : α → Nat) {l m : List α} (h : l.Perm m) : (l.map f).sum = (m.map f).sum := by
  induction h with
  | nil => rfl
  | cons x _ ih => simp [ih]
  | swap x y l => simp; omega
  | trans _ _ h1 h2 => rw [h1, h2]
theorem Tbs_len (ts : List ByteArray) : (ts.flatMap Tb).length = 4 * ts.length + tsW ts := by
  induction ts with
  | nil => rfl
  | cons x t ih => rw [List.flatMap_cons, List.length_append, ih, Tb_len]; unfold tsW; simp; omega
theorem ops_len (l : List O4) : (l.flatMap opB).length = 24 * l.length + opsW l := by
  induction l with
  | nil => rfl
  | cons x t ih =>
    have e : (opB x).length = 24 + opW x := by unfold opB opW; simp [Tb_len, beN_length]; omega
    rw [List.flatMap_cons, List.length_append, ih, e]; unfold opsW; simp; omega
theorem votes_len {r : TxR} (hn : (keys r).Nodup) (h4 : ∀ x ∈ r.V, x.2.length ≤ 4) : ((sortI (keys r)).flatMap (voteB r)).length ≤ 17 * r.V.length + vtW r.V := by
  rw [List.length_flatMap, sum_perm _ (sortI_perm (keys r))]
  unfold keys
  rw [List.map_map]
  have : ∀ l : List (Int × List ByteArray), (∀ x ∈ l, x ∈ r.V) → (l.map ((fun g => (voteB r g).length) ∘ fun x => x.1)).sum ≤ 17 * l.length + vtW l := by
    intro l
    induction l with
    | nil => intro _; exact Nat.zero_le _
    | cons x t ih =>
      intro hx
      have h1 := ih (fun y hy => hx y (List.mem_cons_of_mem _ hy))
      have h2 := voteOf_eq (r := r) hn (g := x.1) (ts := x.2) (hx x List.mem_cons_self)
      have h3 := h4 x (hx x List.mem_cons_self)
      have h5 : (voteB r x.1).length = 1 + (4 * x.2.length + tsW x.2) := by unfold voteB; rw [h2, List.length_append, Tbs_len, beN_length]
      rw [List.map_cons, List.sum_cons]
      show (voteB r x.1).length + _ ≤ _
      rw [h5]
      unfold vtW at h1 ⊢
      rw [List.map_cons, List.sum_cons, List.length_cons]
      omega
  exact this r.V (fun _ h => h)
theorem acks_len (l : List Int) : ((sortI l).flatMap ackBy).length = l.length := by
  rw [List.length_flatMap, sum_perm _ (sortI_perm l)]
  induction l with
  | nil => rfl
  | cons x t ih => rw [List.map_cons, List.sum_cons, ih, List.length_cons]; unfold ackBy; rw [beN_length]; omega
theorem good0_lens {r : TxR} (h : Good0 r) : r.V.length ≤ 3 ∧ r.K.length ≤ 3 ∧ r.ops.length ≤ 4 ∧ r.S.length ≤ 3 ∧ ∀ x ∈ r.V, x.2.length ≤ 4 := by
  refine ⟨Good.vlen (r := { r with o := 0 }) h, Good.klen (r := { r with o := 0 }) h, h.len, h.sl, fun x hx => ?_⟩
  have h1 := h.vl x hx
  have h2 := h.sub x.1 (List.mem_map_of_mem (f := (·.1)) hx)
  obtain ⟨y, hy, e⟩ := List.mem_map.1 h2
  have h3 := atOf_mem h.gnd hy
  rw [e] at h3
  rw [h1]
  show (atOf r x.1).length ≤ 4
  have h4 : atOf r x.1 = y.2 := h3
  rw [h4]; exact h.pn y hy
theorem svT_len {r : TxR} (h : Good0 r) : (svT r).length ≤ wT r + 200 := by
  obtain ⟨h1, h2, h3, h4, h5⟩ := good0_lens h
  have h6 := votes_len (r := r) h.vnd h5
  have h7 := ops_len r.ops
  have h8 := acks_len r.K
  unfold svT wT
  simp only [List.length_append, Tb_len, beN_length, List.length_nil, h7, h8]
  omega
theorem good0_sv {r : TxR} (h : Good0 r) (hp : r.parts.length ≤ 4096) : SvOk r where
  ol := h.len
  pl := hp
  vl := (good0_lens h).1
  kl := (good0_lens h).2.1
  kn := h.knd
  vw := fun g hg => wf_small (h.gr g (h.sub g hg))
  vt := fun x hx => by have := (good0_lens h).2.2.2.2 x hx; omega

/-- A vote put in, whether there was one or not. -/
theorem Tx.putV {w w' : World} {X : Nat → Prop} {b0 B tb vb kb : Nat} {vo vp vg va : Value} {vs : List Value} {vals : Int → Value} {r : TxR} (h : Tx w X b0 B tb vb kb vo vp vg va vs vals r) (y : Int) (ts : List ByteArray) (v : Value) (hr : Reads w v ts.length 1 (ts.map .string)) (hv : FB w.heap.size X tb vb kb v)
    (hk : mapN w' Try.prog 3 vb (if (votF r.V vals (.int .i64 y)).isSome then r.V.length else r.V.length + 1) (put (votF r.V vals) (.int .i64 y) v)) (g : Fr (fun k => k = vb) w w') : Tx w' X b0 B tb vb kb vo vp vg va vs (fun x => if x = y then v else vals x) (putV r y ts) := by
  by_cases hy : y ∈ keys r
  · have hy' : y ∈ r.V.map (·.1) := hy
    have hsome : (votF r.V vals (.int .i64 y)).isSome = true := by show (if y ∈ r.V.map (·.1) then some (vals y) else none).isSome = true; rw [if_pos hy']; rfl
    rw [hsome, if_pos rfl] at hk
    have hrd : ∀ v n s xs, Reads w v n s xs → FB w.heap.size X tb vb kb v → Reads w' v n s xs := fun v n s xs h1 h2 => h1.fr g (fun a n c e hx => (h2 a n c e).1.2.2.1 hx)
    have hkeys : (Proofs.Ytehneddmamnmiaa.putV r y ts).V.map (·.1) = r.V.map (·.1) := by
      have := keys_putV (r := r) (g := y) (ts := ts)
      rw [if_pos hy] at this; exact this
    have hlen : (Proofs.Ytehneddmamnmiaa.putV r y ts).V.length = r.V.length := by
      have := congrArg List.length hkeys
      simpa using this
    refine ⟨(g.block tb h.lt h.d1).trans h.blk, hrd _ _ _ _ h.ops h.xo, hrd _ _ _ _ h.prt h.xp, h.sp.fr g (fun k hk hx => by have := (h.sp.lt k hk).1; have := h.vB; omega), ?_, fun x hx => ?_, h.ak.of_block (g.block kb h.ak.lt (fun e => h.d3 e.symm)), h.t0, h.v0, h.k0, h.tB, h.vB, h.kB, h.d1, h.d2, h.d3, h.xt, h.xv, h.xk, h.xo.up g.size, h.xp.up g.size, h.xs, fun x hx => ?_, fun k hk => Nat.lt_of_lt_of_le (h.xl k hk) g.size, by rw [hkeys]; exact h.nd⟩
    · rw [hlen]
      refine hk.congr (fun l => ?_)
      unfold put
      split
      · rename_i e2; subst e2
        show (if y ∈ (Proofs.Ytehneddmamnmiaa.putV r y ts).V.map (·.1) then some (if y = y then v else vals y) else none) = some v
        rw [hkeys, if_pos hy', if_pos rfl]
      · rename_i e2
        match l, e2 with
        | .int .i64 i, e2 =>
          have : i ≠ y := fun e => e2 (by rw [e])
          show (if i ∈ (Proofs.Ytehneddmamnmiaa.putV r y ts).V.map (·.1) then some (if i = y then v else vals i) else none) = (if i ∈ r.V.map (·.1) then some (vals i) else none)
          rw [hkeys, if_neg this]
        | .int .i8 _, _ | .int .i16 _, _ | .int .i32 _, _ | .int .u8 _, _ | .int .u16 _, _ | .int .u32 _, _ | .int .u64 _, _ => rfl
        | .bool _, _ | .float _ _, _ | .string _, _ | .nil, _ => rfl
    · have hx2 : x ∈ r.V.map (fun x => if x.1 = y then (y, ts) else x) := by
        have hx' : x ∈ (if y ∈ keys r then r.V.map (fun x => if x.1 = y then (y, ts) else x) else r.V ++ [(y, ts)]) := hx
        rwa [if_pos hy] at hx'
      obtain ⟨z, hz, e⟩ := List.mem_map.1 hx2
      split at e
      · subst e
        show Reads w' (if y = y then v else vals y) _ _ _
        rw [if_pos rfl]; exact hrd _ _ _ _ hr hv
      · rename_i hne
        subst e
        show Reads w' (if z.1 = y then v else vals z.1) _ _ _
        rw [if_neg hne]; exact hrd _ _ _ _ (h.rd z hz) (h.xr z hz)
    · show FB w'.heap.size X tb vb kb (if x.1 = y then v else vals x.1)
      by_cases e : x.1 = y
      · rw [if_pos e]; exact hv.up g.size
      · rw [if_neg e]
        rcases mem_putV hx with rfl | hx
        · exact absurd rfl e
        · exact (h.xr x hx).up g.size
  · have hy' : ¬ y ∈ r.V.map (·.1) := hy
    have hnone : (votF r.V vals (.int .i64 y)).isSome = false := by show (if y ∈ r.V.map (·.1) then some (vals y) else none).isSome = false; rw [if_neg hy']; rfl
    rw [hnone] at hk
    have := h.voted y ts v hy' hr hv hk g
    unfold Proofs.Ytehneddmamnmiaa.putV
    rw [if_neg hy]; exact this
end Go.Proofs.Ytehneddmamnmiaa
