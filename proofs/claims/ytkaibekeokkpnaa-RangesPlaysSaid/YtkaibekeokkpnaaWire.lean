/- The Writer of wire. -/
import Derived.Test.YtkaibekeokkpnaaRows
import Derived.Test.YtkaibekeokkpnaaBytes
import Derived.Test.YtkaibekeokkpnaaGoto
import Derived.Deep.RegionLaw
import Derived.WalkLawsBesides
import Derived.WalkSpells
import Derived.BigQuiet
import Derived.Outline
namespace Go.Proofs.Ytkaibekeokkpnaa
open Go.RowKit Go.Maps Go.Cv
set_option linter.unusedVariables false

/-- Block b is a Writer: its slice v holds the bytes xs. -/
structure Wt (w : World) (b : Nat) (v : Value) (xs : List UInt8) : Prop where
  blk : w.heap[b]? = some (.cells #[v] 92 (0, 0))
  own : w.ownsRow (b + 1) 5 1 v xs.length (bc xs)

theorem Wt.held {w wx : World} {b : Nat} {v : Value} {xs : List UInt8} (h : Wt w b v xs) (e : wx.heap[b]? = w.heap[b]?) : wx.cell? ⟨b, 0, none⟩ = some v ∧ wx.frozen? ⟨b, 0, none⟩ = false :=
  ⟨by rw [cell_of_block (e.trans h.blk)]; rfl, free_of_block (e.trans h.blk)⟩

theorem info5 : (Try.prog.info? 5).map (fun i => (i.zero, i.size, i.bytes)) = some (some (.int .u8 0), 1, 1) := by kernel_rfl

theorem newWriter_any (w : World) : Calls Try.prog 28 #[] w fun e w' => e = .returned (.pointer (some ⟨w.heap.size, 0, none⟩)) ∧ Wt w' w.heap.size (.slice none 0 0) [] ∧ Fr (fun _ => False) w w' := by
  go_enter Try.func28, Try.ntmps28
  go_wp2
  go_ret
  exact ⟨rfl, ⟨block_alloc w _, World.ownsRow_nil _ _ _ _⟩, Fr.alloc _ _ _⟩

/-- The lowest k bytes of n, the highest first. -/
def beN (n : Nat) : Nat → List UInt8
  | 0 => []
  | k + 1 => UInt8.ofNat (n >>> (8 * k)) :: beN n k
theorem beN_length (n k : Nat) : (beN n k).length = k := by induction k with | zero => rfl | succ k ih => simp [beN, ih]

def putJ (w : World) (b : Nat) (v : Value) (xs : List UInt8) (n size : Nat) (a' : Act) (w' : World) : Prop :=
  ∃ (k : Nat) (v' : Value) (ys : List UInt8) (u8 u9 u10 u11 u12 u13 u14 u15 u16 u17 u18 u19 u20 u21 u22 u23 u24 u25 : Value), a' = { tmps := #[.pointer (some ⟨b, 0, none⟩), .int .u64 n, .int .i64 size, undef, undef, undef, .int .i64 k, .int .i64 size, u8, u9, u10, u11, u12, u13, u14, u15, u16, u17, u18, u19, u20, u21, u22, u23, u24, u25], defers := [] } ∧
      k ≤ size ∧ ys ++ beN n k = xs ++ beN n size ∧ Wt w' b v' ys ∧ (v'.ownBlock = v.ownBlock ∨ ∀ k, v'.ownBlock = some k → w.heap.size ≤ k) ∧ Fr (fun k => k = b ∨ v.ownBlock = some k) w w'
def putM (a' : Act) (_ : World) : Nat := (intOf (a'.tmps.getD 6 undef)).toNat

set_option maxRecDepth 100000 in
set_option maxHeartbeats 800000 in
theorem put_any (w : World) (b : Nat) (v : Value) (xs : List UInt8) (h : Wt w b v xs) (n size : Nat) (hn : n < 18446744073709551616) (hs : size ≤ 8) (hx : xs.length ≤ 140737488355000) :
    Calls Try.prog 43 #[.pointer (some ⟨b, 0, none⟩), .int .u64 n, .int .i64 size] w fun e w' => e = .returned (.tuple #[]) ∧ ∃ v', Wt w' b v' (xs ++ beN n size) ∧ (v'.ownBlock = v.ownBlock ∨ ∀ k, v'.ownBlock = some k → w.heap.size ≤ k) ∧ Fr (fun k => k = b ∨ v.ownBlock = some k) w w' := by
  obtain ⟨i0, hi0, hz0, hz1, hz2⟩ := info_parts info5
  have H := hide h
  clear h
  go_enter Try.func43, Try.ntmps43
  go_wp2
  refine wp_scope_goto 0 (putJ w b v xs n size) putM rfl ?_ ?_
  · intro a' w' hJ
    obtain ⟨k, v', ys, u8, u9, u10, u11, u12, u13, u14, u15, u16, u17, u18, u19, u20, u21, u22, u23, u24, u25, rfl, hk, hys, hw, hv, hfr⟩ := hJ
    cases k with
    | zero =>
      go_wp2
      simp only [Exit.jump]
      refine bodyPost_ret (results_none rfl _ _ _) rfl ?_
      simp only [beN, List.append_nil] at hys
      subst hys
      exact ⟨rfl, v', hw, hv, hfr⟩
    | succ j =>
      have c0 : w'.cell? ⟨b, 0, none⟩ = some v' := by rw [cell_of_block hw.blk]; rfl
      have hlen : ys.length + (j + 1) = xs.length + size := by
        have := congrArg List.length hys
        simpa [beN_length] using this
      have HYS := hide hys
      have HW := hide hw
      have HV := hide hv
      have HF := hide hfr
      clear hys hw hv hfr
      have hb : b < w'.heap.size := lt_of_block HW.out.blk
      have f0 : w'.frozen? ⟨b, 0, none⟩ = false := free_of_block HW.out.blk
      have hmul : IntKind.i64.wrap (8 * (j : Int)) = 8 * (j : Int) := IntWalk.i64_in _ (by omega)
      obtain ⟨m, hm⟩ : ∃ m, n >>> (8 * j) = m := ⟨_, rfl⟩
      have hwr : IntKind.u8.wrap ((n : Int) / 2 ^ (8 * (j : Int)).toNat) = ((UInt8.ofNat m).toNat : Int) := by
        rw [← wrap_u8, ← hm, show (8 * (j : Int)).toNat = 8 * j by omega, Nat.shiftRight_eq_div_pow]; simp
      have hbe : beN n (j + 1) = UInt8.ofNat m :: beN n j := by rw [beN, hm]
      generalize UInt8.ofNat m = u at *
      have HBE := hide hbe
      have hlv : ∀ k, v'.ownBlock = some k → k ≠ b := fun k hk => by have := (HW.out.own.lt k hk).1; omega
      have HLV := hide hlv
      clear hbe hm hlv
      go_wp2
      go_region_law
        ((refine step_append_lies _ (by rfl) _ _ _ (by rfl) (b + 1) 5 i0 _ 1 1 Try.underlying49 hi0 hz0 hz1 hz2 rfl (by omega) v' ys.length _ (by rfl) ((HW.out.own.alloc _).drew)
            ⟨w'.heap.size, 0, none⟩ 1 1 [.int .u8 (u.toNat : Int)] (by rfl) (by rfl) (World.news_of_block (cs := #[.int .u8 (u.toNat : Int)]) (t := 5) (fr := (0, 0)) (heap_alloc_new w' _)) (by simp [Value.oneCell'])
            (by omega) (by unfold maxLen; omega) (by omega) (by simp; omega) (w'.heap.size + 1) (by simp) ?_; intro gg cap w2 hown2 hgrow hat hlt2
          obtain ⟨hc2, hf2⟩ := HW.out.held ((hgrow.block b (by simp; omega) (fun e => HLV.out _ e.symm rfl)).trans (Below.heap_alloc _ _ _ hb))))
      all_goals
        go_wp2
        go_step3
        refine ⟨rfl, ⟨j, .slice (some ⟨gg, 0, none⟩) (ys.length + 1) cap, ys ++ [u], _, _, _, _, _, _, _, _, _, _, _, _, _, _, _, _, _, _, rfl, by omega, ?_, ⟨?_, ?_⟩, ?_, ?_⟩, ?_⟩
        · have h1 := HYS.out
          rw [HBE.out] at h1
          rw [← h1]; simp
        · rw [block_setCell (((hgrow.block b (by simp; omega) (fun e => HLV.out _ e.symm rfl)).trans (Below.heap_alloc _ _ _ hb)).trans HW.out.blk)]; rfl
        · rw [List.length_append, bc_append]
          exact ownsRow_setCell_below hown2 (by simp) _
        · rcases hat with hat | hat
          · rcases HV.out with hv | hv
            · left; rw [← hv, hat]; rfl
            · right; intro k hk; cases hk; exact hv _ hat
          · right; intro k hk; cases hk; show w.heap.size ≤ gg; have := HF.out.size; omega
        · refine HF.out.trans (((Fr.alloc (fun k => k = b ∨ v'.ownBlock = some k) w' _).drew.trans (Fr.grown (S := fun k => k = b ∨ v'.ownBlock = some k) hgrow (fun k hk => Or.inr hk)) (fun _ _ h => h)).trans (Fr.setCell (S := fun k => k = b ∨ v'.ownBlock = some k) _ _ _ (Or.inl rfl)) (fun _ _ h => h)) ?_
          intro k hk h2
          rcases h2 with h2 | h2
          · exact Or.inl h2
          · rcases HV.out with hv | hv
            · right; rw [← hv, h2]
            · have := hv _ h2; omega
        · simp [putM, intOf]
  · intro hrest
    go_wp2
    go_step3
    rename_i K hK
    exact hK _ _ (hrest _ _ ⟨size, v, xs, _, _, _, _, _, _, _, _, _, _, _, _, _, _, _, _, _, _, rfl, Nat.le_refl _, rfl, H.out, Or.inl rfl, Fr.refl _ _⟩)

/-- A whole number as 64 bits. -/
def u64 (n : Int) : Nat := (n % 18446744073709551616).toNat
theorem u64_lt (n : Int) : u64 n < 18446744073709551616 := by unfold u64; omega
theorem wrap_u64 (n : Int) : IntKind.u64.wrap n = (u64 n : Int) := by
  have h : IntKind.u64.wrap n = n % 18446744073709551616 := by simp [IntKind.wrap, IntKind.signed, IntKind.bits]
  rw [h]; unfold u64; omega

/-- What a call of a Writer leaves. -/
def Wrote (w w' : World) (b : Nat) (v : Value) (xs : List UInt8) : Prop :=
  ∃ v', Wt w' b v' xs ∧ (v'.ownBlock = v.ownBlock ∨ ∀ k, v'.ownBlock = some k → w.heap.size ≤ k) ∧ Fr (fun k => k = b ∨ v.ownBlock = some k) w w'

theorem Wrote.trans {a b c : World} {p : Nat} {v : Value} {xs ys : List UInt8} (h : Wrote a b p v xs) (h' : ∀ v', Wt b p v' xs → Wrote b c p v' ys) : Wrote a c p v ys := by
  obtain ⟨v1, h1, h2, h3⟩ := h
  obtain ⟨v2, g1, g2, g3⟩ := h' v1 h1
  refine ⟨v2, g1, ?_, h3.trans g3 ?_⟩
  · rcases g2 with g2 | g2
    · rcases h2 with h2 | h2
      · left; rw [g2, h2]
      · right; intro k hk; rw [g2] at hk; exact h2 k hk
    · right; intro k hk; have := g2 k hk; have := h3.size; omega
  · intro k hk hh
    rcases hh with hh | hh
    · exact Or.inl hh
    · rcases h2 with h2 | h2
      · right; rw [← h2, hh]
      · have := h2 k hh; omega


theorem four_any (w : World) (b : Nat) (v : Value) (xs : List UInt8) (h : Wt w b v xs) (n : Int) (hx : xs.length ≤ 140737488355000) :
    Calls Try.prog 29 #[.pointer (some ⟨b, 0, none⟩), .int .i64 n] w fun e w' => e = .returned (.tuple #[]) ∧ Wrote w w' b v (xs ++ beN (u64 n) 4) := by
  have hwr := wrap_u64 n
  have hp := put_any w b v xs h (u64 n) 4 (u64_lt n) (by omega) hx
  have HP := hide hp
  clear hp
  go_enter Try.func29, Try.ntmps29
  go_wp2_with fail
  refine HP.out.mono ?_
  rintro e w1 ⟨rfl, h1⟩
  go_wp2_with fail
  go_end0
  exact ⟨rfl, h1⟩



/-- slices.Clone of bytes. -/
theorem clone_any (w : World) (v : Value) (l : List UInt8) (h : Reads w v l.length 1 (bc l)) (hl : l.length ≤ 140737488355328) :
    Calls Try.prog 44 #[v] w fun e w' => ∃ v', e = .returned v' ∧ w'.ownsRow w.heap.size 5 1 v' l.length (bc l) ∧ Fr (fun _ => False) w w' := by
  obtain ⟨i0, hi0, hz0, hz1, hz2⟩ := info_parts info5
  obtain ⟨n, hn⟩ : ∃ n, l.length = n := ⟨_, rfl⟩
  have h' := h
  rw [hn] at h'
  obtain ⟨_, a, c, rfl, h0, _, hc⟩ := h'
  have heq := fun (wx : World) => Lib.run_eql_slice_nil (P := Try.prog) wx 49 5 a n c 0 0 Try.underlying49
  cases a with
  | none =>
    obtain ⟨rfl, rfl⟩ := h0 rfl
    have : l = [] := List.eq_nil_of_length_eq_zero hn
    subst this
    clear h0 hc
    go_enter Try.func44, Try.ntmps44
    go_wp2
    go_ret
    exact ⟨_, rfl, World.ownsRow_nil _ _ _ _, Fr.refl _ _⟩
  | some a =>
    have H := hide h
    have HN := hide hn
    clear h h0 hc hn
    go_enter Try.func44, Try.ntmps44
    have hown0 : (w.alloc (.cells #[] 5)).ownsRow w.heap.size 5 1 (.slice (some ⟨w.heap.size, 0, none⟩) 0 0) 0 [] :=
      World.ownsRow_made w #[] 0 (Nat.le_refl _) (by unfold maxLen; omega) rfl
    have HO0 := hide hown0
    have hr0 : Reads (w.alloc (.cells #[] 5)) (.slice (some a) n c) n 1 (bc l) := by
      have := H.out.fr (Fr.alloc (fun _ => False) w (.cells #[] 5)) (fun _ _ _ _ h => h)
      rwa [HN.out] at this
    have HR0 := hide hr0
    have hone := bc_one l
    have h1 : 0 + n ≤ maxLen := by have := HN.out; unfold maxLen; omega
    have h2 : (0 + n) * 1 ≤ 140737488355328 := by have := HN.out; omega
    have h3 : w.heap.size ≤ (w.alloc (.cells #[] 5)).heap.size := by simp
    clear hown0 hr0
    go_wp2_with (at_builtin; refine wpList_append_reads _ rfl _ _ _ rfl w.heap.size 5 i0 _ 1 1 Try.underlying49 hi0 hz0 hz1 hz2 rfl (by decide) _ 0 [] rfl HO0.out _ n _ rfl HR0.out hone h1 h2 h3 ?_; intro v2 w2 hown2 hgrow hat; have HO2 := hide hown2; have HG2 := hide hgrow; clear hown2 hgrow hat)
    go_ret
    refine ⟨v2, rfl, ?_, ?_⟩
    · have := HO2.out
      rw [Nat.zero_add] at this
      rw [HN.out]; simpa using this
    · exact ((Fr.alloc (fun k => w.heap.size ≤ k) w _).trans (Fr.grown (S := fun k => w.heap.size ≤ k) HG2.out (fun k hk => by cases hk; exact Nat.le_refl _)) (fun _ _ h => h)).fresh (fun _ h => h)

theorem done_any (w : World) (b : Nat) (v : Value) (xs : List UInt8) (h : Wt w b v xs) (hx : xs.length ≤ 140737488355328) :
    Calls Try.prog 30 #[.pointer (some ⟨b, 0, none⟩)] w fun e w' => ∃ v', e = .returned v' ∧ w'.ownsRow w.heap.size 5 1 v' xs.length (bc xs) ∧ Fr (fun _ => False) w w' := by
  have c0 : w.cell? ⟨b, 0, none⟩ = some v := by rw [cell_of_block h.blk]; rfl
  have hc := clone_any w v xs (Reads.of_own h.own) hx
  have HC := hide hc
  clear hc
  go_enter Try.func30, Try.ntmps30
  go_wp2_with fail
  refine HC.out.mono ?_
  rintro e w1 ⟨v1, rfl, h1, h2⟩
  have H1 := hide h1
  clear h1
  go_wp2_with fail
  go_ret
  exact ⟨v1, rfl, H1.out, h2⟩
end Go.Proofs.Ytkaibekeokkpnaa
