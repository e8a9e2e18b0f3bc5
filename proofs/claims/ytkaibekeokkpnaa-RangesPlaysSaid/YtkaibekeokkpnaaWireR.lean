/- The Reader of wire. -/
import Derived.Test.YtkaibekeokkpnaaWire
namespace Go.Proofs.Ytkaibekeokkpnaa
open Go.RowKit Go.Maps Go.Cv
set_option linter.unusedVariables false

/-- Where a Reader is, and what it refused. -/
structure RS where
  at_ : Nat
  why : Int
  fin : Int

/-- Block rb is a Reader of the bytes bs, which lie in v. -/
structure Rd (w : World) (rb : Nat) (v : Value) (bs : List UInt8) (r : RS) : Prop where
  blk : w.heap[rb]? = some (.cells #[v, .int .i64 r.at_, .int .i64 r.why, .int .i64 r.fin] 97 (0, 0))
  own : w.ownsRow 0 5 1 v bs.length (bc bs)
  ne : ∀ k, v.ownBlock = some k → k ≠ rb
  le : r.at_ ≤ bs.length
  len : bs.length ≤ 140737488355328

theorem Rd.fr {w w' : World} {rb : Nat} {v : Value} {bs : List UInt8} {r : RS} (h : Rd w rb v bs r) {S : Nat → Prop} (g : Fr S w w') (h1 : ¬ S rb) (h2 : ∀ k, v.ownBlock = some k → ¬ S k) : Rd w' rb v bs r :=
  ⟨(g.block _ (lt_of_block h.blk) h1).trans h.blk, ownsRow_fr h.own g h2, h.ne, h.le, h.len⟩
theorem Rd.drewN {w : World} {rb : Nat} {v : Value} {bs : List UInt8} {r : RS} (h : Rd w rb v bs r) (n : Nat) : Rd (w.drewN n) rb v bs r :=
  h.fr ((Fr.refl (fun _ => False) w).drewN n) id (fun _ _ => id)

def RS.refuse (r : RS) (why at_ : Int) : RS := if r.why = 0 then { r with why := why, fin := at_ } else r

theorem refuse_any (w : World) (rb : Nat) (v : Value) (bs : List UInt8) (r : RS) (h : Rd w rb v bs r) (why at_ : Int) :
    Calls Try.prog 46 #[.pointer (some ⟨rb, 0, none⟩), .int .i64 why, .int .i64 at_] w fun e w' => e = .returned (.tuple #[]) ∧ Rd w' rb v bs (r.refuse why at_) ∧ Fr (fun k => k = rb) w w' := by
  have c2 : w.cell? ⟨rb, 2, none⟩ = some (.int .i64 r.why) := by rw [cell_of_block h.blk]; rfl
  have c3 : w.cell? ⟨rb, 3, none⟩ = some (.int .i64 r.fin) := by rw [cell_of_block h.blk]; rfl
  have f2 : w.frozen? ⟨rb, 2, none⟩ = false := free_of_block h.blk
  have f3 : w.frozen? ⟨rb, 3, none⟩ = false := free_of_block h.blk
  by_cases hw : r.why = 0
  · have hb : (r.why == 0) = true := by rw [beq_iff_eq]; exact hw
    have HW := hide hw
    clear hw
    go_enter Try.func46, Try.ntmps46
    go_wp2
    go_end0
    have b1 : ((w.setCell ⟨rb, 2, none⟩ (.int .i64 why)).setCell ⟨rb, 3, none⟩ (.int .i64 at_)).heap[rb]? = some (.cells #[v, .int .i64 r.at_, .int .i64 why, .int .i64 at_] 97 (0, 0)) := by
      rw [block_setCell (block_setCell h.blk _)]; rfl
    have fr : Fr (fun k => k = rb) w ((w.setCell ⟨rb, 2, none⟩ (.int .i64 why)).setCell ⟨rb, 3, none⟩ (.int .i64 at_)) :=
      (Fr.setCell (S := fun k => k = rb) w _ _ rfl).trans (Fr.setCell (S := fun k => k = rb) _ _ _ rfl) (fun _ _ h => h)
    refine ⟨rfl, ?_, fr⟩
    rw [RS.refuse, if_pos HW.out]
    exact ⟨b1, ownsRow_fr h.own fr (fun k hk => h.ne k hk), h.ne, h.le, h.len⟩
  · have hb : (r.why == 0) = false := by rw [beq_eq_false_iff_ne]; exact hw
    go_enter Try.func46, Try.ntmps46
    go_wp2
    go_end0
    refine ⟨rfl, ?_, Fr.refl _ _⟩
    rw [RS.refuse, if_neg hw]
    exact h

theorem newReader_any (w : World) (v : Value) (l : List UInt8) (h : Reads w v l.length 1 (bc l)) (hl : l.length ≤ 140737488355328) :
    Calls Try.prog 31 #[v] w fun e w' => ∃ rb v', e = .returned (.pointer (some ⟨rb, 0, none⟩)) ∧ w.heap.size ≤ rb ∧ (∀ k, v'.ownBlock = some k → w.heap.size ≤ k) ∧ Rd w' rb v' l ⟨0, 0, 0⟩ ∧ Fr (fun _ => False) w w' := by
  have hc := clone_any w v l h hl
  have HC := hide hc
  clear hc
  go_enter Try.func31, Try.ntmps31
  go_wp2_with fail
  refine HC.out.mono ?_
  rintro e w1 ⟨v1, rfl, h1, h2⟩
  obtain ⟨a1, c1, rfl⟩ := own_shape h1
  have H1 := hide h1
  have hs := h2.size
  have H2 := hide h2
  clear h1 h2
  go_wp2_with fail
  go_ret
  refine ⟨w1.heap.size, .slice a1 l.length c1, rfl, hs, fun k hk => (H1.out.lt k hk).1, ⟨block_alloc w1 _, ?_, fun k hk => ?_, Nat.zero_le _, hl⟩, H2.out.trans (Fr.alloc (fun _ => False) _ _) (fun _ _ h => h)⟩
  · have := H1.out.alloc (.cells #[.slice a1 l.length c1, .int .i64 0, .int .i64 0, .int .i64 0] 97)
    exact ⟨this.1, this.2.imp id (fun ⟨g, cap, cur, e, _, r⟩ => ⟨g, cap, cur, e, Nat.zero_le _, r⟩)⟩
  · have := (H1.out.lt k hk).2; omega

/-- What is cut out of a slice. -/
theorem reads_sliced {w : World} {a : Option Addr} {n c s : Nat} {xs : List Value} (h : Reads w (.slice a n c) n s xs) {lo hi : Nat} (h1 : lo ≤ hi) (h2 : hi ≤ n) :
    Reads w (Go.sliced a lo hi c s) (hi - lo) s ((xs.drop (lo * s)).take ((hi - lo) * s)) := by
  obtain ⟨hl, a0, c0, e, h3, h4, h5⟩ := h
  cases e
  have hm : lo * s + (hi - lo) * s ≤ n * s := by rw [← Nat.add_mul]; exact Nat.mul_le_mul_right _ (by omega)
  refine ⟨by rw [List.length_take, List.length_drop, hl]; omega, _, _, rfl, ?_, by omega, ?_⟩
  · intro he
    cases a with
    | none => obtain ⟨rfl, rfl⟩ := h3 rfl; omega
    | some a => split at he <;> cases he
  · intro i u hu
    have hi' : i < (hi - lo) * s := by
      have := (List.getElem?_eq_some_iff.1 hu).1
      rw [List.length_take] at this; omega
    rw [List.getElem?_take, if_pos hi', List.getElem?_drop] at hu
    obtain ⟨b, off, rfl, hc⟩ := h5 _ _ hu
    have hne : ¬ c = lo := by
      intro e2
      have : hi - lo = 0 := by omega
      rw [this] at hi'; omega
    refine ⟨b, off + lo * s, ?_, by rw [Nat.add_assoc]; exact hc⟩
    rw [if_neg hne, Option.map_some]; unfold Addr.add; split <;> simp_all

/-- What is taken, and where the Reader is behind it. -/
def RS.take (bs : List UInt8) (r : RS) (n : Nat) : List UInt8 × RS :=
  if r.why ≠ 0 then ([], r) else if bs.length - r.at_ < n then ([], { r with why := 10, fin := bs.length }) else ((bs.drop r.at_).take n, { r with at_ := r.at_ + n })

set_option maxRecDepth 100000 in
theorem take_any (w : World) (rb : Nat) (v : Value) (bs : List UInt8) (r : RS) (h : Rd w rb v bs r) (n : Nat) (hn : n ≤ 4611686018427387904) :
    Calls Try.prog 48 #[.pointer (some ⟨rb, 0, none⟩), .int .i64 n] w fun e w' => ∃ v', e = .returned v' ∧ Reads w' v' (r.take bs n).1.length 1 (bc (r.take bs n).1) ∧ Rd w' rb v bs (r.take bs n).2 ∧ Fr (fun k => k = rb) w w' := by
  obtain ⟨at_, why, fin⟩ := r
  have hle : at_ ≤ bs.length := h.le
  have hlen := h.len
  have c0 : w.cell? ⟨rb, 0, none⟩ = some v := by rw [cell_of_block h.blk]; rfl
  have c1 : w.cell? ⟨rb, 1, none⟩ = some (.int .i64 at_) := by rw [cell_of_block h.blk]; rfl
  have c2 : w.cell? ⟨rb, 2, none⟩ = some (.int .i64 why) := by rw [cell_of_block h.blk]; rfl
  have f1 : w.frozen? ⟨rb, 1, none⟩ = false := free_of_block h.blk
  obtain ⟨av, cv, rfl⟩ := own_shape h.own
  have H := hide h
  clear h
  by_cases hw : why = 0
  · by_cases hb : bs.length - at_ < n
    · have hw0 : (why != 0) = false := by rw [hw]; rfl
      have hlt : (bs.length : Int) - at_ < n := by omega
      have HW := hide hw
      have HB := hide hb
      clear hw hb
      go_enter Try.func48, Try.ntmps48
      go_wp2
      go_quiet (fail)
      go_wp2_with fail
      refine (refuse_any _ rb _ bs ⟨at_, why, fin⟩ (H.out.drewN _) 10 bs.length).mono ?_
      rintro e w1 ⟨rfl, h1, hf1⟩
      have H1 := hide h1
      clear h1
      go_wp2_with fail
      go_ret
      have e1 : (RS.refuse ⟨at_, why, fin⟩ 10 bs.length) = ⟨at_, 10, bs.length⟩ := by unfold RS.refuse; rw [if_pos HW.out]
      have e2 : RS.take bs ⟨at_, why, fin⟩ n = ([], ⟨at_, 10, bs.length⟩) := by
        unfold RS.take; rw [if_neg (by simpa using HW.out), if_pos HB.out]
      rw [e2]
      exact ⟨_, rfl, Reads.nil _ _, e1 ▸ H1.out, ((Fr.refl (fun k => k = rb) w).drewN _).trans hf1 (fun _ _ h => h)⟩
    · have hw0 : (why != 0) = false := by rw [hw]; rfl
      have hlt : ¬ ((bs.length : Int) - at_ < n) := by omega
      have HW := hide hw
      have HB := hide hb
      have hb1 : at_ + n ≤ bs.length := by omega
      clear hw hb
      go_enter Try.func48, Try.ntmps48
      go_wp2
      go_quiet (fail)
      go_wp2_with fail
      have hcap : bs.length ≤ cv := by
        obtain ⟨_, a0, c0', e, _, h4, _⟩ := Reads.of_own H.out.own
        cases e; exact h4
      have b1 : ((w.drewN nq).setCell ⟨rb, 1, none⟩ (.int .i64 ((at_ : Int) + n))).heap[rb]? = some (.cells #[.slice av bs.length cv, .int .i64 ((at_ : Int) + n), .int .i64 why, .int .i64 fin] 97 (0, 0)) := by
        rw [block_setCell (w := w.drewN nq) H.out.blk]; rfl
      have d0 : ((w.drewN nq).setCell ⟨rb, 1, none⟩ (.int .i64 ((at_ : Int) + n))).cell? ⟨rb, 0, none⟩ = some (.slice av bs.length cv) := by
        rw [cell_of_block b1]; rfl
      have d1 : ((w.drewN nq).setCell ⟨rb, 1, none⟩ (.int .i64 ((at_ : Int) + n))).cell? ⟨rb, 1, none⟩ = some (.int .i64 ((at_ : Int) + n)) := by
        rw [cell_of_block b1]; rfl
      have hf : Fr (fun k => k = rb) w ((w.drewN nq).setCell ⟨rb, 1, none⟩ (.int .i64 ((at_ : Int) + n))) := ((Fr.refl (fun k => k = rb) w).drewN nq).trans (Fr.setCell (S := fun k => k = rb) _ _ _ rfl) (fun _ _ h => h)
      generalize ((w.drewN nq).setCell ⟨rb, 1, none⟩ (.int .i64 ((at_ : Int) + n))) = w1 at *
      have hR : Rd w1 rb (.slice av bs.length cv) bs ⟨at_ + n, why, fin⟩ := ⟨b1, ownsRow_fr H.out.own hf (fun k hk => H.out.ne k hk), H.out.ne, hb1, H.out.len⟩
      have HR := hide hR
      have HF := hide hf
      clear hR hf b1 H
      have hwr : IntKind.i64.wrap ((at_ : Int) + n - n) = at_ := by rw [Int.add_sub_cancel]; exact IntWalk.i64_in _ (by omega)
      have l1 : (0 : Int) ≤ at_ := by omega
      have l2 : (at_ : Int) ≤ at_ + n := by omega
      have l3 : (at_ : Int) + n ≤ cv := by omega
      go_quiet (fail)
      have e2 : RS.take bs ⟨at_, why, fin⟩ n = ((bs.drop at_).take n, ⟨at_ + n, why, fin⟩) := by
        unfold RS.take; rw [if_neg (by simpa using HW.out), if_neg HB.out]
      have hs := reads_sliced (Reads.of_own HR.out.own) (lo := at_) (hi := at_ + n) (by omega) hb1
      unfold sliced at hs
      have ee : (at_ + n - at_) = n := by omega
      have el : ((bs.drop at_).take n).length = n := by rw [List.length_take, List.length_drop]; omega
      have ec : ((bc bs).drop at_).take n = bc ((bs.drop at_).take n) := by unfold bc; rw [List.map_take, List.map_drop]
      simp only [Nat.mul_one] at hs
      rw [ee, ec] at hs
      rw [ee]
      generalize (Value.slice (if cv = at_ then av else Option.map (fun x => x.add at_) av) n (cv - at_)) = V at *
      go_wp2_with fail
      go_ret
      rw [e2]
      refine ⟨_, rfl, ?_, HR.out.drewN _, HF.out.drewN _⟩
      rw [el]
      exact hs.heap rfl
  · have hw0 : (why != 0) = true := by rw [bne_iff_ne]; exact hw
    have HW := hide hw
    clear hw
    go_enter Try.func48, Try.ntmps48
    go_wp2
    go_ret
    unfold RS.take
    rw [if_pos HW.out]
    exact ⟨_, rfl, Reads.nil _ _, H.out, Fr.refl _ _⟩

theorem wrap_u64_nat (m : Nat) : IntKind.u64.wrap (m : Int) = ((m % 18446744073709551616 : Nat) : Int) := by
  simp [IntKind.wrap, IntKind.signed, IntKind.bits]
theorem or_u64 (n : Nat) (x : UInt8) : bits BinOp.or IntKind.u64 (IntKind.u64.wrap ((n:Int) * 256)) (IntKind.u64.wrap (x.toNat : Int)) = (((n * 256) % 18446744073709551616 ||| x.toNat : Nat) : Int) := by
  have e : (n : Int) * 256 = ((n * 256 : Nat) : Int) := by simp
  have hx := x.toNat_lt
  rw [e, wrap_u64_nat, wrap_u64_nat, Nat.mod_eq_of_lt (show x.toNat < 18446744073709551616 by omega)]
  have h : (n * 256 % 18446744073709551616 ||| x.toNat) < 18446744073709551616 := Nat.or_lt_two_pow (n := 64) (Nat.mod_lt _ (by decide)) (by omega)
  have h1 : n * 256 % 18446744073709551616 % 2 ^ 64 = n * 256 % 18446744073709551616 := Nat.mod_mod _ _
  have h2 : x.toNat % 2 ^ 64 = x.toNat := Nat.mod_eq_of_lt (by omega)
  have hb : ((BitVec.ofNat 64 (n * 256 % 18446744073709551616) ||| BitVec.ofNat 64 x.toNat : BitVec 64)).toNat = (n * 256 % 18446744073709551616 ||| x.toNat) := by
    rw [BitVec.toNat_or, BitVec.toNat_ofNat, BitVec.toNat_ofNat, h1, h2]
  unfold bits
  simp only [IntKind.bits, BitVec.ofInt_natCast]
  refine (congrArg (fun m : Nat => IntKind.u64.wrap (m : Int)) hb).trans ?_
  show IntKind.u64.wrap _ = _
  rw [wrap_u64_nat, Nat.mod_eq_of_lt h]

/-- A number out of bytes, the highest first. -/
def getN (l : List UInt8) : Nat := l.foldl (fun n b => (n * 256) % 18446744073709551616 ||| b.toNat) 0
theorem getN_snoc (l : List UInt8) (b : UInt8) : getN (l ++ [b]) = (getN l * 256) % 18446744073709551616 ||| b.toNat := by simp [getN]
def getJ (w : World) (rb : Nat) (v : Value) (bs : List UInt8) (r : RS) (size : Nat) (a' : Act) (w' : World) : Prop :=
  ∃ (i : Nat) (n : Int) (V u8 u9 u10 u11 u12 u13 u14 u15 u16 u17 u18 u19 u20 u21 u22 u23 u24 u25 : Value), a' = { tmps := #[.pointer (some ⟨rb, 0, none⟩), .int .i64 size, undef, undef, .int .u64 0, .int .u64 n, V, .int .i64 i, u8, u9, u10, u11, u12, u13, u14, u15, u16, u17, u18, u19, u20, u21, u22, u23, u24, u25], defers := [] } ∧
      n = getN ((r.take bs size).1.take i) ∧ i ≤ (r.take bs size).1.length ∧ Reads w' V (r.take bs size).1.length 1 (bc (r.take bs size).1) ∧ Rd w' rb v bs (r.take bs size).2 ∧ Fr (fun k => k = rb) w w'
def getM (n : Nat) (a' : Act) (_ : World) : Nat := n - (intOf (a'.tmps.getD 7 undef)).toNat
theorem take_length (bs : List UInt8) (r : RS) (n : Nat) : (r.take bs n).1.length ≤ n := by
  unfold RS.take; split
  · simp
  · split
    · simp
    · simp; omega

set_option maxRecDepth 100000 in
set_option maxHeartbeats 800000 in
theorem get_any (w : World) (rb : Nat) (v : Value) (bs : List UInt8) (r : RS) (h : Rd w rb v bs r) (size : Nat) (hs : size ≤ 8) :
    Calls Try.prog 45 #[.pointer (some ⟨rb, 0, none⟩), .int .i64 size] w fun e w' => e = .returned (.int .u64 (getN (r.take bs size).1)) ∧ Rd w' rb v bs (r.take bs size).2 ∧ Fr (fun k => k = rb) w w' := by
  have H := hide h
  clear h
  have hll := take_length bs r size
  go_enter Try.func45, Try.ntmps45
  go_wp2
  refine wp_scope_goto 0 (getJ w rb v bs r size) (getM 8) rfl ?_ ?_
  · intro a' w' hJ
    obtain ⟨i, n, V, u8, u9, u10, u11, u12, u13, u14, u15, u16, u17, u18, u19, u20, u21, u22, u23, u24, u25, rfl, rfl, hi, hr, hd, hf⟩ := hJ
    obtain ⟨l, hl⟩ : ∃ l, (r.take bs size).1 = l := ⟨_, rfl⟩
    rw [hl] at hi hr hll ⊢
    by_cases hlt : i < l.length
    · obtain ⟨x, hx⟩ : ∃ x, l[i]? = some x := ⟨_, List.getElem?_eq_getElem hlt⟩
      obtain ⟨_, a, c, rfl, h0, h1, h2⟩ := id hr
      obtain ⟨b, off, rfl, hc⟩ := h2 i (.int .u8 x.toNat) (by unfold bc; rw [List.getElem?_map, hx]; rfl)
      have hlt' : (i : Int) < l.length := by omega
      have R := hide hr
      have D := hide hd
      have F := hide hf
      clear hr hd hf h2 h0 h1
      go_wp2
      go_step3
      refine ⟨rfl, ⟨i + 1, _, _, _, _, _, _, _, _, _, _, _, _, _, _, _, _, _, _, _, _, rfl, ?_, by rw [hl]; exact hlt, by rw [hl]; exact R.out, D.out, F.out⟩, ?_⟩
      · have e1 : (getN (l.take (i + 1)) : Int) = bits BinOp.or IntKind.u64 (IntKind.u64.wrap (↑(getN (List.take i l)) * 256)) (IntKind.u64.wrap ↑x.toNat) := by
          rw [or_u64, List.take_add_one, hx, Option.toList_some, getN_snoc]
        rw [hl, e1]
      · simp only [getM, intOf, Array.getD, Array.size]
        simp
        omega
    · have hlt' : ¬ ((i : Int) < l.length) := by omega
      obtain ⟨_, a, c, rfl, h0, h1, h2⟩ := id hr
      have e1 : l.take i = l := List.take_of_length_le (by omega)
      rw [e1]
      go_wp2
      simp only [Exit.jump]
      refine bodyPost_ret (results_tmp rfl _ _ _) rfl ?_
      exact ⟨by rw [hl]; rfl, hd, hf⟩
  · intro hrest
    go_wp2_with fail
    refine (take_any w rb v bs r H.out size (by omega)).mono ?_
    rintro e w1 ⟨V, rfl, h1, h2, h3⟩
    have H1 := hide h1
    have H2 := hide h2
    have H3 := hide h3
    clear h1 h2 h3
    go_wp2
    go_step3
    rename_i K hK
    exact hK _ _ (hrest _ _ ⟨0, 0, V, _, _, _, _, _, _, _, _, _, _, _, _, _, _, _, _, _, _, rfl, rfl, Nat.zero_le _, H1.out, H2.out, H3.out⟩)

theorem getN_plain (l : List UInt8) (b : UInt8) (h : getN l < 72057594037927936) : getN (l ++ [b]) = getN l * 256 + b.toNat := by
  rw [getN_snoc, Nat.mod_eq_of_lt (by omega)]
  have := Nat.two_pow_add_eq_or_of_lt (i := 8) (b := b.toNat) b.toNat_lt (getN l)
  rw [Nat.mul_comm]; exact this.symm
theorem getN_lt : ∀ (k : Nat) (l : List UInt8), l.length = k → k ≤ 8 → getN l < 256 ^ k
  | 0, l, h, _ => by rw [List.eq_nil_of_length_eq_zero h]; decide
  | k + 1, l, h, hk => by
    rcases List.eq_nil_or_concat l with rfl | ⟨l', b, rfl⟩
    · simp at h
    · have hl : l'.length = k := by simpa using h
      have := getN_lt k l' hl (by omega)
      have h7 : (256 : Nat) ^ k ≤ 256 ^ 7 := Nat.pow_le_pow_right (by omega) (by omega)
      have hb := b.toNat_lt
      rw [List.concat_eq_append, getN_plain _ _ (by omega), Nat.pow_succ]
      omega
theorem getN_lt' (l : List UInt8) (k : Nat) (h : l.length ≤ k) (hk : k ≤ 8) : getN l < 256 ^ k :=
  Nat.lt_of_lt_of_le (getN_lt l.length l rfl (by omega)) (Nat.pow_le_pow_right (by omega) h)

/-- A number read. -/
def RS.get (bs : List UInt8) (r : RS) (k : Nat) : Nat × RS := (getN (r.take bs k).1, (r.take bs k).2)


theorem rdFour_any (w : World) (rb : Nat) (v : Value) (bs : List UInt8) (r : RS) (h : Rd w rb v bs r) :
    Calls Try.prog 32 #[.pointer (some ⟨rb, 0, none⟩)] w fun e w' => e = .returned (.int .i64 (r.get bs 4).1) ∧ Rd w' rb v bs (r.get bs 4).2 ∧ Fr (fun k => k = rb) w w' := by
  have hp := get_any w rb v bs r h 4 (by omega)
  have hlt := getN_lt' _ 4 (take_length bs r 4) (by omega)
  have hwr : IntKind.i64.wrap (getN (r.take bs 4).1 : Int) = getN (r.take bs 4).1 := IntWalk.i64_in _ (by omega)
  have HP := hide hp
  clear hp h hlt
  go_enter Try.func32, Try.ntmps32
  go_wp2_with fail
  refine HP.out.mono ?_
  rintro e w1 ⟨rfl, h1, h2⟩
  have H1 := hide h1
  have H2 := hide h2
  clear h1 h2
  go_wp2_with fail
  go_ret
  exact ⟨rfl, H1.out, H2.out⟩


/-- A Four of at most so much. -/
def RS.count (bs : List UInt8) (r : RS) (most : Int) : Nat × RS :=
  let g := r.get bs 4
  let r1 := if max most 0 < (g.1 : Int) then g.2.refuse 3 r.at_ else g.2
  (if r1.why = 0 then g.1 else 0, r1)

set_option maxHeartbeats 800000 in
theorem count_any (w : World) (rb : Nat) (v : Value) (bs : List UInt8) (r : RS) (h : Rd w rb v bs r) (most : Int) :
    Calls Try.prog 33 #[.pointer (some ⟨rb, 0, none⟩), .int .i64 most] w fun e w' => e = .returned (.int .i64 (r.count bs most).1) ∧ Rd w' rb v bs (r.count bs most).2 ∧ Fr (fun k => k = rb) w w' := by
  have c1 : w.cell? ⟨rb, 1, none⟩ = some (.int .i64 r.at_) := by rw [cell_of_block h.blk]; rfl
  have hM : ∃ M, max most 0 = M ∧ (most < 0 ∧ M = 0 ∨ ¬ most < 0 ∧ M = most) := ⟨_, rfl, by omega⟩
  obtain ⟨M, hM, hMM⟩ := hM
  have hcnt : r.count bs most = (let r1 := if M < ((r.get bs 4).1 : Int) then (r.get bs 4).2.refuse 3 r.at_ else (r.get bs 4).2; (if r1.why = 0 then (r.get bs 4).1 else 0, r1)) := by
    unfold RS.count; rw [hM]
  obtain ⟨⟨g, r0⟩, hg⟩ : ∃ p, r.get bs 4 = p := ⟨_, rfl⟩
  have hF := rdFour_any w rb v bs r h
  rw [hg] at hF hcnt
  have HF := hide hF
  clear hg hM hF
  rcases hMM with ⟨h0, hM0⟩ | ⟨h0, hM0⟩
  all_goals
    by_cases hc : M < (g : Int)
    · have hw0 : (r0.refuse 3 r.at_).why ≠ 0 := by
        unfold RS.refuse; split
        · simp
        · assumption
      simp only [if_pos hc, if_neg hw0] at hcnt
      rw [hcnt]
      have hw : ((r0.refuse 3 r.at_).why != 0) = true := by rw [bne_iff_ne]; exact hw0
      rw [hM0] at hc
      clear hw0 h hcnt
      go_enter Try.func33, Try.ntmps33
      go_wp2_with fail
      refine HF.out.mono ?_
      rintro e w1 ⟨rfl, h1, h2⟩
      have H1 := hide h1
      have H2 := hide h2
      clear h1 h2
      go_wp2_with fail
      refine (refuse_any _ rb v bs r0 H1.out 3 r.at_).mono ?_
      rintro e w2 ⟨rfl, h1, h2⟩
      have c2 : w2.cell? ⟨rb, 2, none⟩ = some (.int .i64 (r0.refuse 3 r.at_).why) := by rw [cell_of_block h1.blk]; rfl
      have G1 := hide h1
      have G2 := hide h2
      clear h1 h2
      go_wp2_with fail
      go_ret
      exact ⟨rfl, G1.out, H2.out.trans G2.out (fun _ _ h => h)⟩
    · simp only [if_neg hc] at hcnt
      rw [hM0] at hc
      by_cases hw0 : r0.why = 0
      · have hw : (r0.why != 0) = false := by rw [hw0]; rfl
        rw [if_pos hw0] at hcnt
        rw [hcnt]
        clear hw0 h hcnt
        go_enter Try.func33, Try.ntmps33
        go_wp2_with fail
        refine HF.out.mono ?_
        rintro e w1 ⟨rfl, h1, h2⟩
        have c2 : w1.cell? ⟨rb, 2, none⟩ = some (.int .i64 r0.why) := by rw [cell_of_block h1.blk]; rfl
        have H1 := hide h1
        have H2 := hide h2
        clear h1 h2
        go_wp2_with fail
        go_ret
        exact ⟨rfl, H1.out, H2.out⟩
      · have hw : (r0.why != 0) = true := by rw [bne_iff_ne]; exact hw0
        rw [if_neg hw0] at hcnt
        rw [hcnt]
        clear hw0 h hcnt
        go_enter Try.func33, Try.ntmps33
        go_wp2_with fail
        refine HF.out.mono ?_
        rintro e w1 ⟨rfl, h1, h2⟩
        have c2 : w1.cell? ⟨rb, 2, none⟩ = some (.int .i64 r0.why) := by rw [cell_of_block h1.blk]; rfl
        have H1 := hide h1
        have H2 := hide h2
        clear h1 h2
        go_wp2_with fail
        go_ret
        exact ⟨rfl, H1.out, H2.out⟩

theorem refuse_why (r : RS) (y z : Int) (h : y ≠ 0) : (r.refuse y z).why ≠ 0 := by
  unfold RS.refuse; split
  · exact h
  · assumption
theorem count_most (bs : List UInt8) (r : RS) (most : Int) : ((r.count bs most).1 : Int) ≤ max most 0 := by
  unfold RS.count
  simp only
  by_cases h : max most 0 < ((r.get bs 4).1 : Int)
  · simp only [if_pos h, if_neg (refuse_why _ 3 _ (by decide))]; omega
  · simp only [if_neg h]; split <;> omega
/-- A text of at most so much. -/
def RS.text (bs : List UInt8) (r : RS) (most : Int) : List UInt8 × RS := (r.count bs most).2.take bs (r.count bs most).1
theorem count_lt (bs : List UInt8) (r : RS) (most : Int) : (r.count bs most).1 < 4294967296 := by
  have := getN_lt' _ 4 (take_length bs r 4) (by omega)
  have h2 : ∀ (c : Prop) [Decidable c], (if c then (r.get bs 4).1 else 0) < 4294967296 := by
    intro c _; split
    · exact this
    · omega
  exact h2 _



/-- How much is left. -/
def RS.left (bs : List UInt8) (r : RS) : Int := if r.why = 0 then (bs.length : Int) - r.at_ else 0


/-- What is told at the end. -/
def RS.end_ (bs : List UInt8) (r : RS) : Int × Int := if r.why = 0 then (if r.at_ < bs.length then (11, r.at_) else (0, 0)) else (r.why, r.fin)

theorem end_any (w : World) (rb : Nat) (v : Value) (bs : List UInt8) (r : RS) (h : Rd w rb v bs r) :
    Calls Try.prog 34 #[.pointer (some ⟨rb, 0, none⟩)] w fun e w' => e = .returned (.tuple #[.int .i64 (r.end_ bs).1, .int .i64 (r.end_ bs).2]) ∧ Rd w' rb v bs r ∧ Fr (fun k => k = rb) w w' := by
  have hle : r.at_ ≤ bs.length := h.le
  have hlen := h.len
  have c0 : w.cell? ⟨rb, 0, none⟩ = some v := by rw [cell_of_block h.blk]; rfl
  have c1 : w.cell? ⟨rb, 1, none⟩ = some (.int .i64 r.at_) := by rw [cell_of_block h.blk]; rfl
  have c2 : w.cell? ⟨rb, 2, none⟩ = some (.int .i64 r.why) := by rw [cell_of_block h.blk]; rfl
  have c3 : w.cell? ⟨rb, 3, none⟩ = some (.int .i64 r.fin) := by rw [cell_of_block h.blk]; rfl
  obtain ⟨av, cv, rfl⟩ := own_shape h.own
  have H := hide h
  clear h
  by_cases hw : r.why = 0
  · have hb : (r.why != 0) = false := by rw [hw]; rfl
    by_cases ha : r.at_ < bs.length
    · have hl : r.end_ bs = (11, (r.at_ : Int)) := by unfold RS.end_; rw [if_pos hw, if_pos ha]
      have ha' : (r.at_ : Int) < bs.length := by omega
      rw [hl]
      clear hw hl
      go_enter Try.func34, Try.ntmps34
      go_wp2_with fail
      go_quiet (fail)
      go_wp2_with fail
      go_quiet (fail)
      go_wp2_with fail
      go_ret2
      exact ⟨rfl, (H.out.drewN _).drewN _, ((Fr.refl _ _).drewN _).drewN _⟩
    · have hl : r.end_ bs = (0, 0) := by unfold RS.end_; rw [if_pos hw, if_neg ha]
      have ha' : ¬ ((r.at_ : Int) < bs.length) := by omega
      rw [hl]
      clear hw hl
      go_enter Try.func34, Try.ntmps34
      go_wp2_with fail
      go_quiet (fail)
      go_wp2_with fail
      go_ret2
      exact ⟨rfl, H.out.drewN _, (Fr.refl _ _).drewN _⟩
  · have hb : (r.why != 0) = true := by rw [bne_iff_ne]; exact hw
    have hl : r.end_ bs = (r.why, r.fin) := by unfold RS.end_; rw [if_neg hw]
    rw [hl]
    clear hw hl
    go_enter Try.func34, Try.ntmps34
    go_wp2_with fail
    go_quiet (fail)
    go_wp2_with fail
    go_ret2
    exact ⟨rfl, H.out.drewN _, (Fr.refl _ _).drewN _⟩
end Go.Proofs.Ytkaibekeokkpnaa
