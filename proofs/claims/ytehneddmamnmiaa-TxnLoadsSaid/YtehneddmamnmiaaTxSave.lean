/- Save of a transaction. -/
import Derived.Test.YtehneddmamnmiaaTxLoadNo
import Derived.Test.YtehneddmamnmiaaTxGood
import Derived.Test.YtehneddmamnmiaaWireByte
import Derived.Test.YtehneddmamnmiaaKeysLaw
import Derived.Test.YtehneddmamnmiaaKeysVote
import Derived.Test.YtehneddmamnmiaaKeysAck
namespace Go.Proofs.Ytehneddmamnmiaa
open Go.RowKit Go.Maps Go.Cv Go.Shelf
set_option linter.unusedVariables false

/-- A Writer at wb into which all of tot but rest is written; made behind w0; the blocks in Q stay what they are. -/
def Ws (w0 wx : World) (wb : Nat) (Q : List (Nat × Obj)) (tot rest : List UInt8) : Prop := w0.heap.size ≤ wb ∧ tot.length ≤ 140737488354900 ∧ ∃ v xs, Wt wx wb v xs ∧ Fr (fun j => w0.heap.size ≤ j) w0 wx ∧ xs ++ rest = tot ∧ ∀ q ∈ Q, q.1 < wx.heap.size ∧ q.1 ≠ wb ∧ v.ownBlock ≠ some q.1 ∧ wx.heap[q.1]? = some q.2
theorem Ws.fr {w0 wx : World} {wb : Nat} {Q : List (Nat × Obj)} {tot rest : List UInt8} (h : Ws w0 wx wb Q tot rest) : Fr (fun j => w0.heap.size ≤ j) w0 wx := by obtain ⟨-, -, v, xs, -, h, -⟩ := h; exact h
theorem Ws.has {w0 wx : World} {wb : Nat} {Q : List (Nat × Obj)} {tot rest : List UInt8} (h : Ws w0 wx wb Q tot rest) {q : Nat} {o : Obj} (hq : (q, o) ∈ Q) : wx.heap[q]? = some o := by obtain ⟨-, -, v, xs, -, -, -, h⟩ := h; exact (h _ hq).2.2.2
theorem Ws.less {w0 wx : World} {wb : Nat} {Q Q' : List (Nat × Obj)} {tot rest : List UInt8} (h : Ws w0 wx wb Q tot rest) (hq : ∀ q ∈ Q', q ∈ Q) : Ws w0 wx wb Q' tot rest := by
  obtain ⟨h1, h2, v, xs, h3, h4, h5, h6⟩ := h; exact ⟨h1, h2, v, xs, h3, h4, h5, fun q hq' => h6 q (hq q hq')⟩
theorem Ws.fr0 {w0 wx wy : World} {wb : Nat} {Q : List (Nat × Obj)} {tot rest : List UInt8} (h : Ws w0 wx wb Q tot rest) (g : Fr (fun _ => False) wx wy) : Ws w0 wy wb Q tot rest := by
  obtain ⟨h1, h2, v, xs, h3, h4, h5, h6⟩ := h
  exact ⟨h1, h2, v, xs, h3.fr g, h4.trans g (fun _ _ h => h.elim), h5, fun q hq => ⟨Nat.lt_of_lt_of_le (h6 q hq).1 g.size, (h6 q hq).2.1, (h6 q hq).2.2.1, (g.block _ (h6 q hq).1 (fun h => h)).trans (h6 q hq).2.2.2⟩⟩
/-- More blocks, made since. -/
theorem Ws.adds {w0 wx wy : World} {wb : Nat} {Q Q0 : List (Nat × Obj)} {tot rest : List UInt8} (h : Ws w0 wx wb Q tot rest) (g : Fr (fun _ => False) wx wy) (hq : ∀ q ∈ Q0, wx.heap.size ≤ q.1 ∧ wy.heap[q.1]? = some q.2) : Ws w0 wy wb (Q0 ++ Q) tot rest := by
  obtain ⟨h1, h2, v, xs, h3, h4, h5, h6⟩ := h.fr0 g
  obtain ⟨-, -, v', xs', h3', -, h5', -⟩ := h
  have ev := h3.blk.symm.trans ((g.block _ (lt_of_block h3'.blk) (fun h => h)).trans h3'.blk)
  simp only [Option.some.injEq, Obj.cells.injEq, and_true] at ev
  have ev : v = v' := by simpa using ev
  refine ⟨h1, h2, v, xs, h3, h4, h5, fun p hp => ?_⟩
  rcases List.mem_append.1 hp with hp | hp
  · obtain ⟨q1, q2⟩ := hq p hp
    refine ⟨lt_of_block q2, fun e => ?_, fun e => ?_, q2⟩
    · have := lt_of_block h3'.blk; omega
    · rw [ev] at e; have := (h3'.own.lt _ e).2; omega
  · exact h6 p hp
theorem Ws.add {w0 wx wy : World} {wb : Nat} {Q : List (Nat × Obj)} {tot rest : List UInt8} (h : Ws w0 wx wb Q tot rest) (g : Fr (fun _ => False) wx wy) {q : Nat} {o : Obj} (hq : wx.heap.size ≤ q) (ho : wy.heap[q]? = some o) : Ws w0 wy wb ((q, o) :: Q) tot rest :=
  h.adds (Q0 := [(q, o)]) g (fun p hp => by rw [List.mem_singleton] at hp; subst hp; exact ⟨hq, ho⟩)
/-- A row that is owned, as the blocks that it leans on. -/
theorem own_Q {w : World} {base e s : Nat} {v : Value} {n : Nat} {xs : List Value} (h : w.ownsRow base e s v n xs) : ∃ Q0 : List (Nat × Obj), (∀ q ∈ Q0, base ≤ q.1 ∧ w.heap[q.1]? = some q.2) ∧ ∀ wx : World, (∀ q ∈ Q0, wx.heap[q.1]? = some q.2) → Reads wx v n s xs := by
  have hr := Reads.of_own h
  rcases h.2 with ⟨e1, e2⟩ | ⟨g, cap, cur, rfl, hb, hg, -⟩
  · subst e1 e2
    refine ⟨[], (fun q hq => by cases hq), fun wx _ => ?_⟩
    have : xs = [] := List.eq_nil_of_length_eq_zero (by have := h.1; omega)
    subst this; exact Reads.nil _ _
  · refine ⟨[(g, _)], (fun q hq => by rw [List.mem_singleton] at hq; subst hq; exact ⟨hb, hg⟩), fun wx hx => ?_⟩
    have hw := hx _ List.mem_cons_self
    obtain ⟨hn, a, c, e, h0, h1, h2⟩ := hr
    cases e
    refine ⟨hn, _, _, rfl, h0, h1, fun i u hu => ?_⟩
    obtain ⟨b, o, e3, hc⟩ := h2 i u hu
    cases e3
    exact ⟨_, _, rfl, by rw [World.cell?_of_block (w := w) (hw.trans hg.symm)]; exact hc⟩
theorem Ws.to {w0 wx wy : World} {wb : Nat} {Q : List (Nat × Obj)} {tot p rest xs : List UInt8} {v : Value} (h1 : w0.heap.size ≤ wb) (h2 : tot.length ≤ 140737488354900) (h3 : Wt wx wb v xs) (h4 : Fr (fun j => w0.heap.size ≤ j) w0 wx) (h5 : xs ++ (p ++ rest) = tot) (h6 : ∀ q ∈ Q, q.1 < wx.heap.size ∧ q.1 ≠ wb ∧ v.ownBlock ≠ some q.1 ∧ wx.heap[q.1]? = some q.2) (h : Wrote wx wy wb v (xs ++ p)) : Ws w0 wy wb Q tot rest := by
  obtain ⟨v', g1, g2, g3⟩ := h
  refine ⟨h1, h2, v', xs ++ p, g1, h4.trans g3 (fun j _ hj => ?_), by rw [List.append_assoc]; exact h5, fun q hq => ?_⟩
  · rcases hj with rfl | hj
    · exact h1
    · have := (h3.own.lt j hj).1; omega
  · obtain ⟨q1, q2, q3, q4⟩ := h6 q hq
    refine ⟨Nat.lt_of_lt_of_le q1 g3.size, q2, fun e => ?_, (g3.block _ q1 (fun h => h.elim q2 q3)).trans q4⟩
    rcases g2 with g2 | g2
    · exact q3 (g2 ▸ e)
    · have := g2 _ e; omega
theorem Ws.len {p rest xs tot : List UInt8} (h5 : xs ++ (p ++ rest) = tot) : xs.length + p.length ≤ tot.length := by rw [← h5, List.length_append, List.length_append]; omega
def Tb (s : ByteArray) : List UInt8 := beN (u64 s.size) 4 ++ s.data.toList
theorem Tb_len (s : ByteArray) : (Tb s).length = 4 + s.size := by simp [Tb, beN_length]
section
variable {w0 wx : World} {wb : Nat} {Q : List (Nat × Obj)} {tot rest : List UInt8}
theorem ws_four {n : Int} (h : Ws w0 wx wb Q tot (beN (u64 n) 4 ++ rest)) : Calls Try.prog 48 #[.pointer (some ⟨wb, 0, none⟩), .int .i64 n] wx fun e w' => e = .returned (.tuple #[]) ∧ Ws w0 w' wb Q tot rest := by
  obtain ⟨h1, h2, v, xs, h3, h4, h5, h6⟩ := h
  refine (four_any wx wb v xs h3 n (by have := Ws.len h5; omega)).mono ?_
  rintro e w' ⟨rfl, h⟩; exact ⟨rfl, Ws.to h1 h2 h3 h4 h5 h6 h⟩
theorem ws_eight {n : Int} (h : Ws w0 wx wb Q tot (beN (u64 n) 8 ++ rest)) : Calls Try.prog 49 #[.pointer (some ⟨wb, 0, none⟩), .int .i64 n] wx fun e w' => e = .returned (.tuple #[]) ∧ Ws w0 w' wb Q tot rest := by
  obtain ⟨h1, h2, v, xs, h3, h4, h5, h6⟩ := h
  refine (eight_any wx wb v xs h3 n (by have := Ws.len h5; omega)).mono ?_
  rintro e w' ⟨rfl, h⟩; exact ⟨rfl, Ws.to h1 h2 h3 h4 h5 h6 h⟩
theorem ws_byte {n : Int} (h : Ws w0 wx wb Q tot (beN (u64 n) 1 ++ rest)) : Calls Try.prog 50 #[.pointer (some ⟨wb, 0, none⟩), .int .i64 n] wx fun e w' => e = .returned (.tuple #[]) ∧ Ws w0 w' wb Q tot rest := by
  obtain ⟨h1, h2, v, xs, h3, h4, h5, h6⟩ := h
  refine (byte_any wx wb v xs h3 n (by have := Ws.len h5; omega)).mono ?_
  rintro e w' ⟨rfl, h⟩; exact ⟨rfl, Ws.to h1 h2 h3 h4 h5 h6 h⟩
theorem ws_text {s : ByteArray} (h : Ws w0 wx wb Q tot (Tb s ++ rest)) : Calls Try.prog 46 #[.pointer (some ⟨wb, 0, none⟩), .string s] wx fun e w' => e = .returned (.tuple #[]) ∧ Ws w0 w' wb Q tot rest := by
  obtain ⟨h1, h2, v, xs, h3, h4, h5, h6⟩ := h
  refine (text_any wx wb v xs h3 s (by have := Ws.len h5; rw [Tb_len] at this; omega)).mono ?_
  rintro e w' ⟨rfl, h⟩
  refine ⟨rfl, Ws.to h1 h2 h3 h4 h5 h6 ?_⟩
  unfold Tb; rw [← List.append_assoc]; exact h
end

def sortI (l : List Int) : List Int := l.mergeSort (fun a b => decide (a ≤ b))
theorem sortI_perm (l : List Int) : (sortI l).Perm l := List.mergeSort_perm l _
theorem sortI_st {l : List Int} (h : l.Nodup) : (sortI l).Pairwise (· < ·) := by
  have h1 : (sortI l).Pairwise (fun a b => decide (a ≤ b) = true) := List.pairwise_mergeSort (le := fun a b => decide (a ≤ b)) (by intro a b c h1 h2; simp at *; omega) (by intro a b; simp; omega) l
  have h2 := List.nodup_iff_pairwise_ne.1 ((sortI_perm l).nodup_iff.2 h)
  exact (h1.and h2).imp (fun {a b} hab => by
    have h3 := hab.1
    have h4 := hab.2
    simp at h3; omega)
theorem keys_votF {V : List (Int × List ByteArray)} (vals : Int → Value) (h : (V.map (·.1)).Nodup) : KeysI (votF V vals) (sortI (V.map (·.1))) :=
  ⟨sortI_st h, fun x => by
    rw [(sortI_perm _).mem_iff]
    show _ ↔ (if x ∈ V.map (·.1) then some (vals x) else none).isSome = true
    by_cases e : x ∈ V.map (·.1) <;> simp [e]⟩
theorem keys_setF {K : List Int} (h : K.Nodup) : KeysI (setF K) (sortI K) :=
  ⟨sortI_st h, fun x => by
    rw [(sortI_perm _).mem_iff]
    show _ ↔ (if x ∈ K then some (Value.int .i64 1) else none).isSome = true
    by_cases e : x ∈ K <;> simp [e]⟩

def opB (x : O4) : List UInt8 := beN (u64 x.1) 8 ++ (Tb x.2.1 ++ (Tb x.2.2.1 ++ beN (u64 x.2.2.2) 8))
def voteB (r : TxR) (g : Int) : List UInt8 := beN (u64 g) 1 ++ (voteOf r g).flatMap Tb
def ackBy (g : Int) : List UInt8 := beN (u64 g) 1
def mapB (r : TxR) : ByteArray := ⟨(sv r.ep r.parts).toArray⟩
/-- A transaction's bytes. -/
def svT (r : TxR) : List UInt8 :=
  Tb r.tx ++ (Tb (mapB r) ++ (beN (u64 r.ops.length) 4 ++ (r.ops.flatMap opB ++ (beN (u64 r.o) 1 ++ (beN (u64 r.pos) 8 ++ (beN (u64 r.why) 8 ++ (beN (u64 r.V.length) 4 ++ ((sortI (keys r)).flatMap (voteB r) ++ (beN (u64 r.K.length) 4 ++ ((sortI r.K).flatMap ackBy ++ []))))))))))
structure SvOk (r : TxR) : Prop where
  ol : r.ops.length ≤ 4
  pl : r.parts.length ≤ 4096
  vl : r.V.length ≤ 3
  kl : r.K.length ≤ 3
  kn : r.K.Nodup
  vw : ∀ g ∈ keys r, (Lit.int .i64 g).wf = true
  vt : ∀ x ∈ r.V, x.2.length ≤ 1000

theorem drop_flat {α : Type} {f : α → List UInt8} {l : List α} {k : Nat} {x : α} (h : l[k]? = some x) (R : List UInt8) : (l.drop k).flatMap f ++ R = f x ++ ((l.drop (k + 1)).flatMap f ++ R) := by
  obtain ⟨hk, rfl⟩ := List.getElem?_eq_some_iff.1 h
  rw [List.drop_eq_getElem_cons hk, List.flatMap_cons, List.append_assoc]
theorem drop_done {α : Type} {f : α → List UInt8} {l : List α} {k : Nat} (h : l.length ≤ k) (R : List UInt8) : (l.drop k).flatMap f ++ R = R := by
  rw [List.drop_of_length_le h]; rfl

set_option maxRecDepth 100000 in
set_option maxHeartbeats 6400000 in
theorem saveT_any (w : World) (X : Nat → Prop) (b0 tb : Nat) (r : TxR) (h : TX w X b0 tb r) (ok : SvOk r) (hlen : (svT r).length ≤ 140737488354900) :
    Calls Try.prog 22 #[.pointer (some ⟨tb, 0, none⟩)] w fun e w' => ∃ v', e = .returned v' ∧ w'.ownsRow w.heap.size 5 1 v' (svT r).length (bc (svT r)) ∧ Fr (fun _ => False) w w' := by
  obtain ⟨B, vb, kb, vo, vp, vg, va, vs, vals, h⟩ := h
  have hx : ∀ wx, Fr (fun j => w.heap.size ≤ j) w wx → Tx wx X b0 B tb vb kb vo vp vg va vs vals r := fun wx hf => h.fr hf (fun k hk hs => by omega)
  obtain ⟨tot, htot⟩ : ∃ tot, svT r = tot := ⟨_, rfl⟩
  rw [htot] at hlen
  rw [htot]
  obtain ⟨-, ao, co, rfl, -, -, -⟩ := id h.ops
  obtain ⟨-, ap, cp, rfl, -, -, -⟩ := id h.prt
  obtain ⟨n, hn⟩ : ∃ n, r.ops.length = n := ⟨_, rfl⟩
  obtain ⟨m, hm⟩ : ∃ m, r.parts.length = m := ⟨_, rfl⟩
  obtain ⟨nv, hnv⟩ : ∃ m, r.V.length = m := ⟨_, rfl⟩
  obtain ⟨nk, hnk⟩ : ∃ m, r.K.length = m := ⟨_, rfl⟩
  have hc : ∀ wx, Fr (fun j => w.heap.size ≤ j) w wx → wx.cell? ⟨tb, 0, none⟩ = some (.string r.tx) ∧ wx.cell? ⟨tb, 1, none⟩ = some (.slice ao n co) ∧ wx.cell? ⟨tb, 2, none⟩ = some (.int .i64 r.ep) ∧ wx.cell? ⟨tb, 3, none⟩ = some (.slice ap m cp) ∧ wx.cell? ⟨tb, 6, none⟩ = some (.map (some vb)) ∧ wx.cell? ⟨tb, 7, none⟩ = some (.map (some kb)) ∧ wx.cell? ⟨tb, 8, none⟩ = some (.int .i64 r.o) ∧ wx.cell? ⟨tb, 9, none⟩ = some (.int .i64 r.pos) ∧ wx.cell? ⟨tb, 10, none⟩ = some (.int .i64 r.why) := fun wx hf => by
    have h1 := hx wx hf
    refine ⟨h1.c 0, ?_, h1.c 2, ?_, h1.c 6, h1.c 7, h1.c 8, h1.c 9, h1.c 10⟩
    · rw [← hn]; exact h1.c 1
    · rw [← hm]; exact h1.c 3
  have hn4 : n ≤ 4 := by rw [← hn]; exact ok.ol
  have hm4 : m ≤ 4096 := by rw [← hm]; exact ok.pl
  have hv3 : nv ≤ 3 := by rw [← hnv]; exact ok.vl
  have hk3 : nk ≤ 3 := by rw [← hnk]; exact ok.kl
  obtain ⟨R10, e10⟩ : ∃ R, (sortI r.K).flatMap ackBy ++ [] = R := ⟨_, rfl⟩
  obtain ⟨R9, e9⟩ : ∃ R, beN (u64 nk) 4 ++ R10 = R := ⟨_, rfl⟩
  obtain ⟨R8, e8⟩ : ∃ R, (sortI (keys r)).flatMap (voteB r) ++ R9 = R := ⟨_, rfl⟩
  obtain ⟨R7, e7⟩ : ∃ R, beN (u64 nv) 4 ++ R8 = R := ⟨_, rfl⟩
  obtain ⟨R6, e6⟩ : ∃ R, beN (u64 r.why) 8 ++ R7 = R := ⟨_, rfl⟩
  obtain ⟨R5, e5⟩ : ∃ R, beN (u64 r.pos) 8 ++ R6 = R := ⟨_, rfl⟩
  obtain ⟨R4, e4⟩ : ∃ R, beN (u64 r.o) 1 ++ R5 = R := ⟨_, rfl⟩
  obtain ⟨R3, e3⟩ : ∃ R, r.ops.flatMap opB ++ R4 = R := ⟨_, rfl⟩
  obtain ⟨R2, e2⟩ : ∃ R, beN (u64 n) 4 ++ R3 = R := ⟨_, rfl⟩
  obtain ⟨R1, e1⟩ : ∃ R, Tb (mapB r) ++ R2 = R := ⟨_, rfl⟩
  have htot2 : Tb r.tx ++ R1 = tot := by
    rw [← htot, ← e1, ← e2, ← e3, ← e4, ← e5, ← e6, ← e7, ← e8, ← e9, ← e10]
    unfold svT; rw [hn, hnv, hnk]
  have hks := Try.sortedAnyVote
  have HTX := hide hx
  have HC := hide hc
  have HOK := hide ok
  have HND := hide h.nd
  have HN := hide hn
  have HM := hide hm
  have HNV := hide hnv
  have HNK := hide hnk
  have HTOT := hide htot2
  have HLEN := hide hlen
  have E1 := hide e1
  have E2 := hide e2
  have E3 := hide e3
  have E4 := hide e4
  have E5 := hide e5
  have E6 := hide e6
  have E7 := hide e7
  have E8 := hide e8
  have E9 := hide e9
  have E10 := hide e10
  clear h hx hc ok hn hm hnv hnk htot htot2 hlen e1 e2 e3 e4 e5 e6 e7 e8 e9 e10 hks
  go_enter Try.func22, Try.ntmps22
  go_wp2_with fail
  refine (newWriter_any w).mono ?_
  rintro e w1 ⟨rfl, h1, hf1⟩
  obtain ⟨wb, hwb⟩ : ∃ wb, w.heap.size = wb := ⟨_, rfl⟩
  rw [hwb] at h1
  rw [hwb]
  have W1 : Hid (Ws w w1 wb [] tot tot) := ⟨by omega, HLEN.out, _, [], h1, hf1.mono (fun _ _ h => h.elim), rfl, fun q hq => by cases hq⟩
  have HWB := hide hwb
  clear h1 hf1 hwb
  obtain ⟨c0, c1, c2, c3, c6, c7, c8, c9, c10⟩ := HC.out w1 W1.out.fr
  have t1 := ws_text (s := r.tx) (rest := R1) (by rw [HTOT.out]; exact W1.out)
  have T1 := hide t1
  clear t1
  go_wp2_with fail
  refine T1.out.mono ?_
  rintro e w2 ⟨rfl, hw⟩
  have W2 := hide hw
  clear hw T1 c0 c1 c2 c3 c6 c7 c8 c9 c10
  obtain ⟨c0, c1, c2, c3, c6, c7, c8, c9, c10⟩ := HC.out w2 W2.out.fr
  have hrp : RD w2 ap m cp r.parts := ⟨HM.out, by have := (HTX.out w2 W2.out.fr).prt; rw [HM.out] at this; exact this, hm4⟩
  have t1 := save_any w2 r.ep ap m cp r.parts hrp
  have T1 := hide t1
  clear t1 hrp
  go_wp2_with fail
  refine T1.out.mono ?_
  rintro e w3 ⟨v3, rfl, ho3, hf3⟩
  have hcv := run_string_reads (P := Try.prog) w3 57 9 5 v3 (sv r.ep r.parts) (Reads.of_own ho3) Try.underlying57 Try.underlying5 Try.underlying9
  have hcv : (convert 57 9 v3).run Try.prog w3 = .ok (.string (mapB r)) w3 := hcv
  have t1 := ws_text (s := mapB r) (rest := R2) (by rw [E1.out]; exact W2.out.fr0 hf3)
  have T1 := hide t1
  clear t1 ho3 hf3 c0 c1 c2 c3 c6 c7 c8 c9 c10
  go_wp2_with fail
  refine T1.out.mono ?_
  rintro e w4 ⟨rfl, hw⟩
  have W4 := hide hw
  clear hw T1 hcv
  obtain ⟨c0, c1, c2, c3, c6, c7, c8, c9, c10⟩ := HC.out w4 W4.out.fr
  have t1 := ws_four (n := (n : Int)) (rest := R3) (by rw [E2.out]; exact W4.out)
  have T1 := hide t1
  clear t1
  go_wp2_with fail
  refine T1.out.mono ?_
  rintro e w5 ⟨rfl, hw⟩
  have W5 := hide hw
  clear hw T1 c0 c1 c2 c3 c6 c7 c8 c9 c10
  obtain ⟨c0, c1, c2, c3, c6, c7, c8, c9, c10⟩ := HC.out w5 W5.out.fr
  go_wp2_with fail
  clear c0 c1 c2 c3 c6 c7 c8 c9 c10
  go_loopw [39] (fun i wr => ∃ k : Nat, i = .int .i64 k ∧ k ≤ n ∧ Hid (Ws w wr wb [] tot ((r.ops.drop k).flatMap opB ++ R4))) (fun i _ => n - (intOf i).toNat)
  case atStart => exact ⟨0, rfl, Nat.zero_le _, by rw [List.drop_zero, E3.out]; exact W5.out⟩
  case round =>
    obtain ⟨k, rfl, hk, HW⟩ := hrel
    by_cases hlt : k < n
    · have ik0 : (0 : Int) ≤ (k : Int) := by omega
      have ik1 : (k : Int) < (n : Int) := by omega
      obtain ⟨x, hx⟩ : ∃ x, r.ops[k]? = some x := ⟨_, List.getElem?_eq_getElem (by have := HN.out; omega)⟩
      have hro := (HTX.out wr HW.out.fr).ops
      rw [HN.out] at hro
      obtain ⟨b0', o0, rfl, hlt0, hcells⟩ := row_cells oc_len hro hx (by decide)
      have hdf := drop_flat (f := opB) hx R4
      obtain ⟨xk, xa, xn, xv⟩ := x
      have e0 := hcells 0 (.int .i64 xk) rfl wr rfl
      have e1 := hcells 1 (.string xa) rfl wr rfl
      have e2 := hcells 2 (.string xn) rfl wr rfl
      have e3 := hcells 3 (.int .i64 xv) rfl wr rfl
      rw [Nat.add_zero] at e0
      obtain ⟨xb, hxb⟩ : ∃ xb, wr.heap.size = xb := ⟨_, rfl⟩
      obtain ⟨wa, hwa⟩ : ∃ wa, wr.alloc (.cells #[.int .i64 xk, .string xa, .string xn, .int .i64 xv] 26) = wa := ⟨_, rfl⟩
      have hfa : Fr (fun _ => False) wr wa := by rw [← hwa]; exact Fr.alloc _ _ _
      have hba : wa.heap[xb]? = some (.cells #[.int .i64 xk, .string xa, .string xn, .int .i64 xv] 26 (0, 0)) := by rw [← hwa, ← hxb]; exact block_alloc _ _
      have hws := HW.out.add hfa (by rw [hxb]; exact Nat.le_refl _) hba
      have hdf2 : (r.ops.drop k).flatMap opB ++ R4 = beN (u64 xk) 8 ++ (Tb xa ++ (Tb xn ++ (beN (u64 xv) 8 ++ ((r.ops.drop (k + 1)).flatMap opB ++ R4)))) := by rw [hdf]; unfold opB; simp only [List.append_assoc]
      rw [hdf2] at hws
      have WA := hide hws
      have HWA := hide hwa
      have HXB := hide hxb
      have z0 : wa.cell? ⟨xb, 0, none⟩ = some (.int .i64 xk) := by rw [cell_of_block hba]; rfl
      have t1 := ws_eight WA.out
      have T1 := hide t1
      clear hx hro hcells hdf hdf2 hfa hba hws hwa hxb t1
      go_upto_region 8 with fail
      rw [HWA.out, HXB.out]
      go_wp2_with fail
      refine T1.out.mono ?_
      rintro e y1 ⟨rfl, hw⟩
      have Y1 := hide hw
      have z1 : y1.cell? ⟨xb, 1, none⟩ = some (.string xa) := by rw [cell_of_block (Y1.out.has List.mem_cons_self)]; rfl
      have t1 := ws_text Y1.out
      have T1 := hide t1
      clear hw t1 z0 e0 e1 e2 e3
      go_wp2_with fail
      refine T1.out.mono ?_
      rintro e y2 ⟨rfl, hw⟩
      have Y2 := hide hw
      have z2 : y2.cell? ⟨xb, 2, none⟩ = some (.string xn) := by rw [cell_of_block (Y2.out.has List.mem_cons_self)]; rfl
      have t1 := ws_text Y2.out
      have T1 := hide t1
      clear hw t1 z1
      go_wp2_with fail
      refine T1.out.mono ?_
      rintro e y3 ⟨rfl, hw⟩
      have Y3 := hide hw
      have z3 : y3.cell? ⟨xb, 3, none⟩ = some (.int .i64 xv) := by rw [cell_of_block (Y3.out.has List.mem_cons_self)]; rfl
      have t1 := ws_eight Y3.out
      have T1 := hide t1
      clear hw t1 z2
      go_wp2_with fail
      refine T1.out.mono ?_
      rintro e y4 ⟨rfl, hw⟩
      have Y4 := hide (hw.less (Q' := []) (fun q hq => by cases hq))
      clear hw T1 z3
      go_wp2_with fail
      go_roundw
      case rel => exact ⟨k + 1, by go_num, by omega, Y4.out⟩
      case measure => simp [intOf]; omega
    · have ik1 : ¬ (k : Int) < (n : Int) := by omega
      have hws := HW.out
      rw [drop_done (by have := HN.out; omega)] at hws
      have W6 := hide hws
      clear hws HW
      obtain ⟨c0, c1, c2, c3, c6, c7, c8, c9, c10⟩ := HC.out wr W6.out.fr
      have t1 := ws_byte (n := r.o) (rest := R5) (by rw [E4.out]; exact W6.out)
      have T1 := hide t1
      clear t1
      go_wp2_with fail
      refine T1.out.mono ?_
      rintro e w7 ⟨rfl, hw⟩
      have W7 := hide hw
      clear hw T1 c0 c1 c2 c3 c6 c7 c8 c9 c10
      obtain ⟨c0, c1, c2, c3, c6, c7, c8, c9, c10⟩ := HC.out w7 W7.out.fr
      have t1 := ws_eight (n := r.pos) (rest := R6) (by rw [E5.out]; exact W7.out)
      have T1 := hide t1
      clear t1
      go_wp2_with fail
      refine T1.out.mono ?_
      rintro e w8 ⟨rfl, hw⟩
      have W8 := hide hw
      clear hw T1 c0 c1 c2 c3 c6 c7 c8 c9 c10
      obtain ⟨c0, c1, c2, c3, c6, c7, c8, c9, c10⟩ := HC.out w8 W8.out.fr
      have t1 := ws_eight (n := r.why) (rest := R7) (by rw [E6.out]; exact W8.out)
      have T1 := hide t1
      clear t1
      go_wp2_with fail
      refine T1.out.mono ?_
      rintro e w9 ⟨rfl, hw⟩
      have W9 := hide hw
      clear hw T1 c0 c1 c2 c3 c6 c7 c8 c9 c10
      obtain ⟨c0, c1, c2, c3, c6, c7, c8, c9, c10⟩ := HC.out w9 W9.out.fr
      have hvl := (HTX.out w9 W9.out.fr).vm.len Try.underlying82 3
      rw [HNV.out] at hvl
      have t1 := ws_four (n := (nv : Int)) (rest := R8) (by rw [E7.out]; exact W9.out)
      have T1 := hide t1
      clear t1
      go_wp2_with fail
      refine T1.out.mono ?_
      rintro e w10 ⟨rfl, hw⟩
      have W10 := hide hw
      clear hw T1 hvl c0 c1 c2 c3 c6 c7 c8 c9 c10
      obtain ⟨c0, c1, c2, c3, c6, c7, c8, c9, c10⟩ := HC.out w10 W10.out.fr
      have hsv := Try.sortedAnyVote w10 vb nv (votF r.V vals) (by have := (HTX.out w10 W10.out.fr).vm.toF; rw [HNV.out] at this; exact this) (by omega) (sortI (keys r)) (keys_votF vals HND.out)
      obtain ⟨ks, hks⟩ : ∃ ks, sortI (keys r) = ks := ⟨_, rfl⟩
      have hkl : ks.length = nv := by rw [← hks, (sortI_perm _).length_eq]; unfold keys; rw [List.length_map]; exact HNV.out
      rw [hks, hkl] at hsv
      have HSV := hide hsv
      have HKS := hide hks
      have HKL := hide hkl
      clear hsv hks hkl
      go_wp2_with fail
      refine (Try.keysAnyVote w10 _).mono ?_
      rintro e wq ⟨rfl, rfl⟩
      go_wp2_with fail
      refine HSV.out.mono ?_
      rintro e w11 ⟨v11, rfl, ho11, hf11⟩
      obtain ⟨Q0, hq1, hq2⟩ := own_Q ho11
      obtain ⟨a11, c11', rfl⟩ := own_shape ho11
      have W11 : Hid (Ws w w11 wb (Q0 ++ []) tot ((ks.drop 0).flatMap (voteB r) ++ R9)) := by
        rw [List.drop_zero, ← HKS.out, E8.out]
        exact W10.out.adds hf11 (fun q hq => ⟨by have := (hq1 q hq).1; omega, (hq1 q hq).2⟩)
      rw [List.append_nil] at W11
      have HQ2 := hide hq2
      clear ho11 hf11 hq1 hq2 c0 c1 c2 c3 c6 c7 c8 c9 c10
      go_wp2_with fail
      go_loopw [92] (fun i wr => ∃ k : Nat, i = .int .i64 k ∧ k ≤ nv ∧ Hid (Ws w wr wb Q0 tot ((ks.drop k).flatMap (voteB r) ++ R9))) (fun i _ => nv - (intOf i).toNat)
      case atStart => exact ⟨0, rfl, Nat.zero_le _, W11.out⟩
      case round =>
        obtain ⟨k, rfl, hk, HW⟩ := hrel
        clear W11
        by_cases hlt : k < nv
        · have ik0 : (0 : Int) ≤ (k : Int) := by omega
          have ik1 : (k : Int) < (nv : Int) := by omega
          obtain ⟨g, hg⟩ : ∃ g, ks[k]? = some g := ⟨_, List.getElem?_eq_getElem (by have := HKL.out; omega)⟩
          have hkr := HQ2.out wr (fun q hq => HW.out.has (by cases q; exact hq))
          obtain ⟨-, a0, c0', e, -, -, hkc⟩ := id hkr
          cases e
          obtain ⟨bk, ok', rfl, e0⟩ := hkc k (.int .i64 g) (by rw [List.getElem?_map, hg]; rfl)
          have hgk : g ∈ keys r := by have := List.mem_of_getElem? hg; rw [← HKS.out] at this; exact (sortI_perm _).mem_iff.1 this
          obtain ⟨⟨g', ts⟩, hxV, hge⟩ := List.mem_map.1 hgk
          have hge : g' = g := hge
          subst hge
          have hvo := voteOf_eq HND.out hxV
          have hwf := HOK.out.vw g' hgk
          have hts := HOK.out.vt _ hxV
          obtain ⟨nt, hnt⟩ : ∃ nt, ts.length = nt := ⟨_, rfl⟩
          have hts : nt ≤ 1000 := by rw [← hnt]; exact hts
          have hdf := drop_flat (f := voteB r) hg R9
          have hdf2 : (ks.drop k).flatMap (voteB r) ++ R9 = beN (u64 g') 1 ++ ((ts.drop 0).flatMap Tb ++ ((ks.drop (k + 1)).flatMap (voteB r) ++ R9)) := by rw [hdf]; unfold voteB; rw [hvo, List.append_assoc, List.drop_zero]
          have hws := HW.out
          rw [hdf2] at hws
          have t1 := ws_byte hws
          have T1 := hide t1
          have hvs := (HTX.out wr HW.out.fr).rd _ hxV
          obtain ⟨-, at_, ct, hvsh, -, -, -⟩ := id hvs
          have hvsh : vals g' = .slice at_ ts.length ct := hvsh
          rw [hnt] at hvsh
          have hlk : ∀ wx, Fr (fun j => w.heap.size ≤ j) w wx → (Instr.lookup 82 (.map (some vb)) (.int .i64 g') false).run Try.prog wx = .ok (.slice at_ nt ct) wx := fun wx hf => by
            have h1 := (HTX.out wx hf).vm.toF.run law Try.underlying82 (zeroStrs _) (keyOf_int_mk Try.underlying3 hwf)
            rw [h1]
            show Result.ok ((if g' ∈ r.V.map (·.1) then some (vals g') else none).getD _) wx = _
            rw [if_pos (show g' ∈ r.V.map (·.1) from hgk), ← hvsh]; rfl
          have hrd : ∀ wx, Fr (fun j => w.heap.size ≤ j) w wx → Reads wx (.slice at_ nt ct) nt 1 (ts.map .string) := fun wx hf => by
            have h1 := (HTX.out wx hf).rd _ hxV
            have h1 : Reads wx (vals g') ts.length 1 (ts.map .string) := h1
            rw [hvsh, hnt] at h1; exact h1
          have hnt9 : (nt : Int) ≤ 1000 := by omega
          have HLK := hide hlk
          have HRD := hide hrd
          have HNT := hide hnt
          clear hg hkr hkc hgk hxV hvo hwf hnt hdf hdf2 hws t1 hvs hvsh hlk hrd
          go_wp2_with fail
          refine T1.out.mono ?_
          rintro e y1 ⟨rfl, hw⟩
          have Y1 := hide hw
          obtain ⟨c0, c1, c2, c3, c6, c7, c8, c9, c10⟩ := HC.out y1 Y1.out.fr
          have hlk1 := HLK.out y1 Y1.out.fr
          clear hw T1 e0
          go_wp2_with fail
          clear hlk1 c0 c1 c2 c3 c6 c7 c8 c9 c10
          go_loopw [106] (fun i wr => ∃ j : Nat, i = .int .i64 j ∧ j ≤ nt ∧ Hid (Ws w wr wb Q0 tot ((ts.drop j).flatMap Tb ++ ((ks.drop (k + 1)).flatMap (voteB r) ++ R9)))) (fun i _ => nt - (intOf i).toNat)
          case atStart => exact ⟨0, rfl, Nat.zero_le _, Y1.out⟩
          case round =>
            obtain ⟨j, rfl, hj, HW2⟩ := hrel
            by_cases hlt2 : j < nt
            · have jk0 : (0 : Int) ≤ (j : Int) := by omega
              have jk1 : (j : Int) < (nt : Int) := by omega
              obtain ⟨t, ht⟩ : ∃ t, ts[j]? = some t := ⟨_, List.getElem?_eq_getElem (by have := HNT.out; omega)⟩
              obtain ⟨-, a0, c0', e, -, -, hkc⟩ := HRD.out wr HW2.out.fr
              cases e
              obtain ⟨bt, ot, rfl, e0⟩ := hkc j (.string t) (by rw [List.getElem?_map, ht]; rfl)
              have hws := HW2.out
              rw [drop_flat ht] at hws
              have t1 := ws_text hws
              have T1 := hide t1
              clear ht hkc hws t1
              go_wp2_with fail
              refine T1.out.mono ?_
              rintro e y2 ⟨rfl, hw⟩
              have Y2 := hide hw
              clear hw T1 e0
              go_wp2_with fail
              go_roundw
              case rel => exact ⟨j + 1, by go_num, by omega, Y2.out⟩
              case measure => simp [intOf]; omega
            · have jk1 : ¬ (j : Int) < (nt : Int) := by omega
              have hws := HW2.out
              rw [drop_done (by have := HNT.out; omega)] at hws
              have Y3 := hide hws
              clear hws HW2
              go_wp2_with fail
              go_roundw
              case rel => exact ⟨k + 1, by go_num, by omega, Y3.out⟩
              case measure => simp [intOf]; omega
        · have ik1 : ¬ (k : Int) < (nv : Int) := by omega
          have hws := HW.out
          rw [drop_done (by have := HKL.out; omega)] at hws
          have W12 := hide (hws.less (Q' := []) (fun q hq => by cases hq))
          clear hws HW
          obtain ⟨c0, c1, c2, c3, c6, c7, c8, c9, c10⟩ := HC.out wr W12.out.fr
          have hvl := (HTX.out wr W12.out.fr).ak.len Try.underlying83 3
          rw [HNK.out] at hvl
          have t1 := ws_four (n := (nk : Int)) (rest := R10) (by rw [E9.out]; exact W12.out)
          have T1 := hide t1
          clear t1
          go_wp2_with fail
          refine T1.out.mono ?_
          rintro e w13 ⟨rfl, hw⟩
          have W13 := hide hw
          clear hw T1 hvl c0 c1 c2 c3 c6 c7 c8 c9 c10
          obtain ⟨c0, c1, c2, c3, c6, c7, c8, c9, c10⟩ := HC.out w13 W13.out.fr
          have hsv := Try.sortedAnyAck w13 kb nk (setF r.K) (by have := (HTX.out w13 W13.out.fr).ak.toF; rw [HNK.out] at this; exact this) (by omega) (sortI r.K) (keys_setF HOK.out.kn)
          obtain ⟨aL, hks⟩ : ∃ ks, sortI r.K = ks := ⟨_, rfl⟩
          have hkl : aL.length = nk := by rw [← hks, (sortI_perm _).length_eq]; exact HNK.out
          rw [hks, hkl] at hsv
          have HSV := hide hsv
          have HAS := hide hks
          have HAL := hide hkl
          clear hsv hks hkl
          go_wp2_with fail
          refine (Try.keysAnyAck w13 _).mono ?_
          rintro e wq ⟨rfl, rfl⟩
          go_wp2_with fail
          refine HSV.out.mono ?_
          rintro e w14 ⟨v14, rfl, ho14, hf14⟩
          obtain ⟨Q1, hq1, hq2⟩ := own_Q ho14
          obtain ⟨a14, c14, rfl⟩ := own_shape ho14
          have W14 : Hid (Ws w w14 wb (Q1 ++ []) tot ((aL.drop 0).flatMap ackBy ++ [])) := by
            rw [List.drop_zero, ← HAS.out, E10.out]
            exact W13.out.adds hf14 (fun q hq => ⟨by have := (hq1 q hq).1; omega, (hq1 q hq).2⟩)
          rw [List.append_nil] at W14
          have HQ3 := hide hq2
          clear ho14 hf14 hq1 hq2 c0 c1 c2 c3 c6 c7 c8 c9 c10
          go_wp2_with fail
          go_loopw [129] (fun i wr => ∃ k : Nat, i = .int .i64 k ∧ k ≤ nk ∧ Hid (Ws w wr wb Q1 tot ((aL.drop k).flatMap ackBy ++ []))) (fun i _ => nk - (intOf i).toNat)
          case atStart => exact ⟨0, rfl, Nat.zero_le _, W14.out⟩
          case round =>
            obtain ⟨k, rfl, hk, HW⟩ := hrel
            clear W14
            by_cases hlt : k < nk
            · have ik0 : (0 : Int) ≤ (k : Int) := by omega
              have ik1 : (k : Int) < (nk : Int) := by omega
              obtain ⟨g, hg⟩ : ∃ g, aL[k]? = some g := ⟨_, List.getElem?_eq_getElem (by have := HAL.out; omega)⟩
              have hkr := HQ3.out wr (fun q hq => HW.out.has (by cases q; exact hq))
              obtain ⟨-, a0, c0', e, -, -, hkc⟩ := id hkr
              cases e
              obtain ⟨bk, ok', rfl, e0⟩ := hkc k (.int .i64 g) (by rw [List.getElem?_map, hg]; rfl)
              have hws := HW.out
              rw [drop_flat hg] at hws
              have t1 := ws_byte hws
              have T1 := hide t1
              clear hg hkr hkc hws t1
              go_wp2_with fail
              refine T1.out.mono ?_
              rintro e y1 ⟨rfl, hw⟩
              have Y1 := hide hw
              clear hw T1 e0
              go_wp2_with fail
              go_roundw
              case rel => exact ⟨k + 1, by go_num, by omega, Y1.out⟩
              case measure => simp [intOf]; omega
            · have ik1 : ¬ (k : Int) < (nk : Int) := by omega
              have hws := HW.out
              rw [drop_done (by have := HAL.out; omega)] at hws
              obtain ⟨-, -, v15, xs, h3, h4, h5, -⟩ := hws
              rw [List.append_nil] at h5
              subst h5
              have t1 := done_any wr wb v15 xs h3 (by have := HLEN.out; omega)
              have T1 := hide t1
              have HFE := hide h4
              clear HW t1 h3 h4
              go_wp2_with fail
              refine T1.out.mono ?_
              rintro e w16 ⟨v16, rfl, ho, hf⟩
              have HO := hide ho
              have HF := hide (HFE.out.trans hf (fun _ _ h => h.elim))
              obtain ⟨a16, c16, rfl⟩ := own_shape ho
              clear ho hf
              go_wp2_with fail
              go_ret
              exact ⟨_, rfl, ownsRow_low HO.out (by have := HFE.out.size; have := HWB.out; omega), HF.out.fresh (fun j hj => by have := HWB.out; omega)⟩
end Go.Proofs.Ytehneddmamnmiaa
