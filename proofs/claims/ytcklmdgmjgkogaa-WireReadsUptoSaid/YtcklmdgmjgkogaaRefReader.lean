/- The document's Reader: conclaveref1.Reader. -/
import Derived.Test.YtcklmdgmjgkogaaWireR
import Derived.Test.YtcklmdgmjgkogaaRows2
import Derived.Deep.RegionHeld3
import Derived.Deep.AppendLies
namespace Go.Proofs.Ytcklmdgmjgkogaa
open Go.RowKit Go.Maps Go.Cv
set_option linter.unusedVariables false

theorem step_append_reads {P : Program} {w : World} {ops : Array Oper} {o : Oper} {a : Act} {K : Act → World → Prop} {Q : Exit → Act → World → Prop} {E : Prop} (hgd : o.guard = none) (s x : Operand) (t : TypeId)
    (ho : o.op = .call { callee := .builtin .append, args := #[s, x], argTypes := #[t, t] })
    (base : Nat) (e : TypeId) (i : TypeInfo) (z : Value) (size bytes : Nat) (ht : P.underlying t = some (.slice e)) (hi : P.info? e = some i) (hz : i.zero = some z)
    (hsize : i.size = size) (hby : i.bytes = bytes) (hzs : z.cells.size = size) (hsz : 0 < size) (v : Value) (n : Nat) (xs : List Value) (hs : a.eval s = v) (hown : w.ownsRow base e size v n xs)
    (xv : Value) (m : Nat) (news : List Value) (hx : a.eval x = xv) (hr : Reads w xv m size news) (h1 : ∀ u ∈ news, u.oneCell' = true)
    (h63 : n + m ≤ maxLen) (hbytes : (n + m) * bytes ≤ 140737488355328) (hbase : base ≤ w.heap.size)
    (h : ∀ v' w', w'.ownsRow base e size v' (n + m) (xs ++ news) → w.grownBy w' v.ownBlock → (v'.ownBlock = v.ownBlock ∨ v'.ownBlock = some w.heap.size) → K (a.put o.dst v') w') :
    if Region.wanted o (yielded ops a.tmps) = true then Oper.wp P o a w K Q else E := by
  have hw : Region.wanted o (yielded ops a.tmps) = true := by simp [Region.wanted, hgd]
  rw [if_pos hw]
  exact wp_append_reads w s x t ho base e i z size bytes ht hi hz hsize hby hzs hsz v n xs hs hown xv m news hx hr h1 h63 hbytes hbase h

/-- Block qb is the document's Reader of the bytes bs, which lie in v. -/
structure Rr (w : World) (qb : Nat) (v : Value) (bs : List UInt8) (r : RS) : Prop where
  blk : w.heap[qb]? = some (.cells #[v, .int .i64 r.at_, .bool (r.why != 0), .int .i64 r.why, .int .i64 r.fin] 50 (0, 0))
  rd : Reads w v bs.length 1 (bc bs)
  ne : ∀ a n c, v = .slice (some a) n c → a.block ≠ qb
  le : r.at_ ≤ bs.length
  len : bs.length ≤ 140737488355000
theorem Rr.fr {w w' : World} {qb : Nat} {v : Value} {bs : List UInt8} {r : RS} (h : Rr w qb v bs r) {S : Nat → Prop} (g : Fr S w w') (h1 : ¬ S qb) (h2 : ∀ a n c, v = .slice (some a) n c → ¬ S a.block) : Rr w' qb v bs r :=
  ⟨(g.block _ (lt_of_block h.blk) h1).trans h.blk, h.rd.fr g h2, h.ne, h.le, h.len⟩
theorem Rr.drewN {w : World} {qb : Nat} {v : Value} {bs : List UInt8} {r : RS} (h : Rr w qb v bs r) (n : Nat) : Rr (w.drewN n) qb v bs r :=
  h.fr ((Fr.refl (fun _ => False) w).drewN n) id (fun _ _ _ _ => id)

theorem qRefuse_any (w : World) (qb : Nat) (v : Value) (bs : List UInt8) (r : RS) (h : Rr w qb v bs r) (why at_ : Int) (hy : why ≠ 0) :
    Calls Try.prog 48 #[.pointer (some ⟨qb, 0, none⟩), .int .i64 why, .int .i64 at_] w fun e w' => e = .returned (.tuple #[]) ∧ Rr w' qb v bs (r.refuse why at_) ∧ Fr (fun k => k = qb) w w' := by
  have c2 : w.cell? ⟨qb, 2, none⟩ = some (.bool (r.why != 0)) := by rw [cell_of_block h.blk]; rfl
  have c3 : w.cell? ⟨qb, 3, none⟩ = some (.int .i64 r.why) := by rw [cell_of_block h.blk]; rfl
  have c4 : w.cell? ⟨qb, 4, none⟩ = some (.int .i64 r.fin) := by rw [cell_of_block h.blk]; rfl
  have f2 : w.frozen? ⟨qb, 2, none⟩ = false := free_of_block h.blk
  have f3 : w.frozen? ⟨qb, 3, none⟩ = false := free_of_block h.blk
  have f4 : w.frozen? ⟨qb, 4, none⟩ = false := free_of_block h.blk
  have hyb : (why != 0) = true := by rw [bne_iff_ne]; exact hy
  have HYB := hide hyb
  by_cases hw : r.why = 0
  · have hb : (r.why != 0) = false := by rw [hw]; rfl
    rw [hb] at c2
    have HW := hide hw
    have HB := hide hb
    clear hw hb hyb hy
    go_enter Try.func48, Try.ntmps48
    go_wp2
    go_end0
    have b1 : (((w.setCell ⟨qb, 2, none⟩ (.bool true)).setCell ⟨qb, 3, none⟩ (.int .i64 why)).setCell ⟨qb, 4, none⟩ (.int .i64 at_)).heap[qb]? = some (.cells #[v, .int .i64 r.at_, .bool true, .int .i64 why, .int .i64 at_] 50 (0, 0)) := by
      rw [block_setCell (block_setCell (block_setCell h.blk _) _)]; rfl
    have fr : Fr (fun k => k = qb) w (((w.setCell ⟨qb, 2, none⟩ (.bool true)).setCell ⟨qb, 3, none⟩ (.int .i64 why)).setCell ⟨qb, 4, none⟩ (.int .i64 at_)) :=
      ((Fr.setCell (S := fun k => k = qb) w _ _ rfl).trans (Fr.setCell (S := fun k => k = qb) _ _ _ rfl) (fun _ _ h => h)).trans (Fr.setCell (S := fun k => k = qb) _ _ _ rfl) (fun _ _ h => h)
    refine ⟨rfl, ?_, fr⟩
    rw [RS.refuse, if_pos HW.out]
    refine ⟨?_, h.rd.fr fr (fun a n c e => h.ne a n c e), h.ne, h.le, h.len⟩
    rw [b1]; simp only [HYB.out]
  · have hb : (r.why != 0) = true := by rw [bne_iff_ne]; exact hw
    rw [hb] at c2
    go_enter Try.func48, Try.ntmps48
    go_wp2
    go_end0
    refine ⟨rfl, ?_, Fr.refl _ _⟩
    rw [RS.refuse, if_neg hw]
    exact h

set_option maxRecDepth 100000 in
set_option maxHeartbeats 1600000 in
theorem qRaw_any (w : World) (qb : Nat) (v : Value) (bs : List UInt8) (r : RS) (h : Rr w qb v bs r) (n : Nat) (hn : n ≤ 4611686018427387904) :
    Calls Try.prog 46 #[.pointer (some ⟨qb, 0, none⟩), .int .i64 n] w fun e w' => ∃ v', e = .returned v' ∧ Reads w' v' (r.take bs n).1.length 1 (bc (r.take bs n).1) ∧ Rr w' qb v bs (r.take bs n).2 ∧ Fr (fun k => k = qb) w w' := by
  obtain ⟨i0, hi0, hz0, hz1, hz2⟩ := info_parts info5
  obtain ⟨at_, why, fin⟩ := r
  have hle : at_ ≤ bs.length := h.le
  have hlen := h.len
  have hqb := lt_of_block h.blk
  have c0 : w.cell? ⟨qb, 0, none⟩ = some v := by rw [cell_of_block h.blk]; rfl
  have c1 : w.cell? ⟨qb, 1, none⟩ = some (.int .i64 at_) := by rw [cell_of_block h.blk]; rfl
  have c2 : w.cell? ⟨qb, 2, none⟩ = some (.bool (why != 0)) := by rw [cell_of_block h.blk]; rfl
  have f1 : w.frozen? ⟨qb, 1, none⟩ = false := free_of_block h.blk
  obtain ⟨-, av, cv, rfl, -, hcap, -⟩ := id h.rd
  have H := hide h
  clear h
  by_cases hw : why = 0
  · have hw0 : (why != 0) = false := by rw [hw]; rfl
    rw [hw0] at c2
    by_cases hb : bs.length - at_ < n
    · have hlt : (bs.length : Int) - at_ < n := by omega
      have HW := hide hw
      have HB := hide hb
      clear hw hb
      go_enter Try.func46, Try.ntmps46
      go_wp2_with fail
      go_quiet (fail)
      go_wp2_with fail
      refine (qRefuse_any _ qb _ bs ⟨at_, why, fin⟩ (H.out.drewN _) 10 bs.length (by decide)).mono ?_
      rintro e w1 ⟨rfl, h1, hf1⟩
      have H1 := hide h1
      clear h1
      go_wp2_with fail
      go_ret
      have e1 : (RS.refuse ⟨at_, why, fin⟩ 10 bs.length) = ⟨at_, 10, bs.length⟩ := by unfold RS.refuse; rw [if_pos HW.out]
      have e2 : RS.take bs ⟨at_, why, fin⟩ n = ([], ⟨at_, 10, bs.length⟩) := by
        unfold RS.take; rw [if_neg (by simpa using HW.out), if_pos HB.out]
      rw [e2]
      exact ⟨_, rfl, Reads.nil _ _, e1 ▸ H1.out, ((Fr.refl (fun k => k = qb) w).drewN _).trans hf1 (fun _ _ h => h)⟩
    · have hlt : ¬ ((bs.length : Int) - at_ < n) := by omega
      have HW := hide hw
      have HB := hide hb
      have hb1 : at_ + n ≤ bs.length := by omega
      clear hw hb
      go_enter Try.func46, Try.ntmps46
      go_wp2_with fail
      go_quiet (fail)
      rename_i nq _ _ _ _
      have d0 : (w.drewN nq).cell? ⟨qb, 0, none⟩ = some (.slice av bs.length cv) := c0
      have d1 : (w.drewN nq).cell? ⟨qb, 1, none⟩ = some (.int .i64 at_) := c1
      have HN := hide (H.out.drewN nq)
      have FN := hide ((Fr.refl (fun k => k = qb) w).drewN nq)
      have hqn : qb < (w.drewN nq).heap.size := hqb
      clear c0 c1 c2 f1 H
      generalize w.drewN nq = w1 at *
      have hs := reads_sliced HN.out.rd (lo := at_) (hi := at_ + n) (by omega) hb1
      unfold sliced at hs
      have ee : (at_ + n - at_) = n := by omega
      have el : ((bs.drop at_).take n).length = n := by rw [List.length_take, List.length_drop]; omega
      have ec : ((bc bs).drop at_).take n = bc ((bs.drop at_).take n) := by unfold bc; rw [List.map_take, List.map_drop]
      simp only [Nat.mul_one] at hs
      obtain ⟨M, hM⟩ : ∃ M, at_ + n - at_ = M := ⟨_, rfl⟩
      have hMn : M = n := by omega
      have hown0 : (w1.alloc (.cells #[] 5)).ownsRow w1.heap.size 5 1 (.slice (some ⟨w1.heap.size, 0, none⟩) 0 0) 0 [] :=
        World.ownsRow_made w1 #[] 0 (Nat.le_refl _) (by unfold maxLen; omega) rfl
      have hr1 := hs.fr (Fr.alloc (fun _ => False) w1 (.cells #[] 5)) (fun _ _ _ _ h => h)
      have hone : ∀ u ∈ List.take (at_ + n - at_) (List.drop at_ (bc bs)), u.oneCell' = true := fun u hu => bc_one bs u (List.mem_of_mem_drop (List.mem_of_mem_take hu))
      have HO := hide (hown0.drew)
      have HR := hide (hr1.heap (w' := (w1.alloc (.cells #[] 5)).drew) rfl)
      have p1 : 0 + (at_ + n - at_) ≤ maxLen := by unfold maxLen; omega
      have p2 : (0 + (at_ + n - at_)) * 1 ≤ 140737488355328 := by omega
      have p3 : w1.heap.size ≤ (w1.alloc (.cells #[] 5)).drew.heap.size := by simp
      have k1 : (w1.alloc (.cells #[] 5)).drew.cell? ⟨qb, 0, none⟩ = some (.slice av bs.length cv) ∧ (w1.alloc (.cells #[] 5)).drew.cell? ⟨qb, 1, none⟩ = some (.int .i64 at_) :=
        ⟨(World.cell?_of_block (w := w1) (Below.heap_alloc _ _ _ hqn)).trans d0, (World.cell?_of_block (w := w1) (Below.heap_alloc _ _ _ hqn)).trans d1⟩
      have l1 : (0 : Int) ≤ at_ := by omega
      have l2 : (at_ : Int) ≤ at_ + n := by omega
      have l3 : (at_ : Int) + n ≤ cv := by omega
      have lw : IntKind.i64.wrap ((at_ : Int) + n) = at_ + n := IntWalk.i64_in _ (by omega)
      clear hown0 hr1 hs
      go_wp2_with fail
      go_region_held3 (fun w' => w'.cell? ⟨qb, 0, none⟩ = some (.slice av bs.length cv) ∧ w'.cell? ⟨qb, 1, none⟩ = some (.int .i64 at_))
        (first | exact ⟨d0, d1⟩ | exact k1 | exact k2)
        ((refine step_append_reads (by rfl) _ _ _ (by rfl) w1.heap.size 5 i0 _ 1 1 Try.underlying22 hi0 hz0 hz1 hz2 rfl (by omega) _ 0 [] (by rfl) HO.out _ (at_ + n - at_) _ (by rfl) HR.out hone p1 p2 p3 ?_; intro v2 w2 hown2 hgrow2 hat2
          have k2 : w2.cell? ⟨qb, 0, none⟩ = some (.slice av bs.length cv) ∧ w2.cell? ⟨qb, 1, none⟩ = some (.int .i64 at_) :=
            ⟨(World.cell?_of_block (w := (w1.alloc (.cells #[] 5)).drew) (hgrow2.block qb (by simp; omega) (by simp [Value.ownBlock]; omega))).trans k1.1, (World.cell?_of_block (w := (w1.alloc (.cells #[] 5)).drew) (hgrow2.block qb (by simp; omega) (by simp [Value.ownBlock]; omega))).trans k1.2⟩))
      have hF2 : Fr (fun _ => False) w1 w2 :=
        (((Fr.alloc (fun k => w1.heap.size ≤ k) w1 (.cells #[] 5)).drew).trans (Fr.grown (S := fun k => w1.heap.size ≤ k) hgrow2 (fun k hk => by cases hk; exact Nat.le_refl _)) (fun _ _ h => h)).fresh (fun _ h => h)
      have hR2 := HN.out.fr hF2 id (fun _ _ _ _ => id)
      have f2 : w2.frozen? ⟨qb, 1, none⟩ = false := free_of_block hR2.blk
      have k3 := k2.2
      have hr2 := Reads.of_own hown2
      rw [Nat.zero_add, List.nil_append, ee, ec] at hr2
      have hv2 : ∀ k, v2.ownBlock = some k → w1.heap.size ≤ k := fun k hk => (hown2.lt k hk).1
      have R2 := hide hr2
      have Q2 := hide hR2
      have F2 := hide hF2
      have V2 := hide hv2
      clear hown2 hgrow2 hat2 hF2 hR2 hr2 k2 hv2 hM hMn HO HR k1 d0 d1
      generalize (if cv = at_ then av else Option.map (fun x => x.add at_) av) = V at *
      go_wp2_with fail
      go_ret
      have e2 : RS.take bs ⟨at_, why, fin⟩ n = ((bs.drop at_).take n, ⟨at_ + n, why, fin⟩) := by
        unfold RS.take; rw [if_neg (by simpa using HW.out), if_neg HB.out]
      rw [e2]
      have fs : Fr (fun k => k = qb) w2 (w2.setCell ⟨qb, 1, none⟩ (.int .i64 ((at_ : Int) + n))) := Fr.setCell (S := fun k => k = qb) _ _ _ rfl
      refine ⟨v2, rfl, ?_, ⟨?_, Q2.out.rd.fr fs (fun a n c e => Q2.out.ne a n c e), Q2.out.ne, hb1, Q2.out.len⟩, (FN.out.trans F2.out (fun _ _ h => h.elim)).trans fs (fun _ _ h => h)⟩
      · rw [el]
        exact R2.out.fr fs (fun a m c e => by
          have := V2.out a.block (by rw [e]; rfl)
          omega)
      · rw [block_setCell Q2.out.blk]; rfl
  · have hw0 : (why != 0) = true := by rw [bne_iff_ne]; exact hw
    rw [hw0] at c2
    have HW := hide hw
    clear hw hw0
    go_enter Try.func46, Try.ntmps46
    go_wp2_with fail
    go_ret
    have e2 : RS.take bs ⟨at_, why, fin⟩ n = ([], ⟨at_, why, fin⟩) := by unfold RS.take; rw [if_pos HW.out]
    rw [e2]
    exact ⟨_, rfl, Reads.nil _ _, H.out, Fr.refl _ _⟩
end Go.Proofs.Ytcklmdgmjgkogaa
