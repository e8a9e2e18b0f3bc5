/- The document's Map: Hash, Owner, Move. -/
import Derived.Test.YtkaibekeokkpnaaRgRef
import Derived.Test.YtkaibekeokkpnaaRgHash
namespace Go.Proofs.Ytkaibekeokkpnaa
open Go.RowKit Go.Maps Go.Cv Go.Shelf
set_option linter.unusedVariables false

set_option maxRecDepth 100000 in
theorem refCrc_any (w : World) (v : Value) (bs : List UInt8) (h : Reads w v bs.length 1 (bc bs)) (hl : bs.length ≤ maxLen) :
    Calls Try.prog 47 #[v] w fun e w' => e = .returned (.int .u32 (bits BinOp.xor IntKind.u32 (crcK bs) 4294967295)) ∧ w' = w := by
  obtain ⟨n, hn⟩ : ∃ n, bs.length = n := ⟨_, rfl⟩
  rw [hn] at h
  obtain ⟨-, a, cp, rfl, h0, _, hc⟩ := id h
  have HC := hide hc
  have HN := hide hn
  unfold maxLen at hl
  have hn9 : (n : Int) ≤ 9223372036854775807 := by omega
  clear h hc h0 hn hl
  go_enter Try.func47, Try.ntmps47
  go_wp2_with fail
  go_loopw [3, 4] (fun c i wr => ∃ (k : Nat), c = .int .u32 (crcK (bs.take k)) ∧ i = .int .i64 k ∧ k ≤ n ∧ wr = w)
    (fun _ i _ => n - (intOf i).toNat)
  case atStart => exact ⟨0, rfl, rfl, Nat.zero_le _, rfl⟩
  case round =>
    obtain ⟨k, rfl, rfl, hk, rfl⟩ := hrel
    by_cases hlt : k < n
    · obtain ⟨x, hx⟩ : ∃ x, bs[k]? = some x := ⟨_, List.getElem?_eq_getElem (by have := HN.out; omega)⟩
      obtain ⟨b0, o0, rfl, e0⟩ := HC.out k (.int .u8 x.toNat) (by simp [bc, hx])
      have ik1 : (k : Int) < (n : Int) := by omega
      have ik0 : (0 : Int) ≤ (k : Int) := by omega
      obtain ⟨C, hC⟩ : ∃ C, crcK (bs.take k) = C := ⟨_, rfl⟩
      have hnx : crcK (bs.take (k + 1)) = crcX C x := by rw [List.take_add_one, hx, ← hC]; simp [crcK]
      rw [hC]
      have HNX := hide hnx
      clear hnx hC hx
      go_wp2_with fail
      go_loopw [3, 5] (fun c i wr' => ∃ (j : Nat), c = .int .u32 (crcJ (bits BinOp.xor IntKind.u32 C ((x.toNat : Int) % 4294967296)) j) ∧ i = .int .i64 j ∧ j ≤ 8 ∧ wr' = wr)
        (fun _ i _ => 8 - (intOf i).toNat)
      case atStart => exact ⟨0, rfl, rfl, by omega, rfl⟩
      case round =>
        obtain ⟨j, rfl, rfl, hj, rfl⟩ := hrel
        by_cases hlt2 : j < 8
        · have ik2 : (j : Int) < 8 := by omega
          obtain ⟨D, hD⟩ : ∃ D, crcJ (bits BinOp.xor IntKind.u32 C ((x.toNat : Int) % 4294967296)) j = D := ⟨_, rfl⟩
          have hnj : crcJ (bits BinOp.xor IntKind.u32 C ((x.toNat : Int) % 4294967296)) (j + 1) = crcB D := by rw [crcJ, hD]
          rw [hD]
          have HNJ := hide hnj
          clear hnj hD
          by_cases hb : bits BinOp.and IntKind.u32 D 1 = 1
          · have hbe : (bits BinOp.and IntKind.u32 D 1 == 1) = true := by simp [hb]
            have HB := hide (show crcB D = bits BinOp.xor IntKind.u32 (D / 2) 3988292384 by unfold crcB; rw [if_pos hb])
            clear hb
            go_wp2_with fail
            go_roundw
            case rel => exact ⟨j + 1, by rw [HNJ.out, HB.out], by go_num, by omega, trivial⟩
            case measure => simp [intOf]; omega
          · have hbe : (bits BinOp.and IntKind.u32 D 1 == 1) = false := by simp [hb]
            have HB := hide (show crcB D = D / 2 by unfold crcB; rw [if_neg hb])
            clear hb
            go_wp2_with fail
            go_roundw
            case rel => exact ⟨j + 1, by rw [HNJ.out, HB.out], by go_num, by omega, trivial⟩
            case measure => simp [intOf]; omega
        · have hj8 : j = 8 := by omega
          subst hj8
          go_wp2_with fail
          go_roundw
          case rel => exact ⟨k + 1, by rw [HNX.out]; rfl, by go_num, by omega, trivial⟩
          case measure => simp [intOf]; omega
    · have hkn : k = n := by omega
      subst hkn
      have ik1 : ¬ (k : Int) < (k : Int) := by omega
      rw [List.take_of_length_le (by have := HN.out; omega)]
      go_wp2_with fail
      go_ret
      exact ⟨rfl, rfl⟩

theorem refHash_any (w : World) (s : ByteArray) (hs : s.size ≤ maxLen) :
    Calls Try.prog 39 #[.string s] w fun e w' => e = .returned (.int .i64 (hashF s)) ∧ Fr (fun _ => False) w w' := by
  obtain ⟨v, wb, hrun, hr, hf⟩ := conv_bytes w s
  have hc := refCrc_any wb v s.data.toList hr (by simpa using hs)
  obtain ⟨h0, h1⟩ := hashF_lt s
  obtain ⟨c, hcc⟩ : ∃ c, bits BinOp.xor IntKind.u32 (crcK s.data.toList) 4294967295 = c := ⟨_, rfl⟩
  have hd : hashF s = bits BinOp.and IntKind.u32 c 255 := by unfold hashF; rw [hcc]
  rw [hcc] at hc
  obtain ⟨q, hq⟩ : ∃ q, bits BinOp.and IntKind.u32 c 255 = q := ⟨_, rfl⟩
  rw [hd, hq] at h0 h1 ⊢
  have HC := hide hc
  have HF := hide hf
  clear hr hf hc hcc hd
  go_enter Try.func39, Try.ntmps39
  go_wp2_with fail
  refine HC.out.mono ?_
  rintro e w1 ⟨rfl, rfl⟩
  go_wp2_with fail
  go_ret
  exact ⟨rfl, HF.out⟩

set_option maxRecDepth 100000 in
set_option maxHeartbeats 1600000 in
theorem refOwner_any (w : World) (cs : Array Value) (ep : Int) (f : Int → Int) (h : RC cs ep f) (s : ByteArray) (hs : s.size ≤ maxLen) :
    Calls Try.prog 23 #[.agg cs, .string s] w fun e w' => e = .returned (.int .i64 (f (hashF s))) ∧ Fr (fun _ => False) w w' := by
  have R0 := RB.made h w
  have F0 : Fr (fun _ => False) w _ := Fr.alloc (fun _ => False) w (.cells cs 58)
  obtain ⟨wa, hwa⟩ : ∃ wa, w.alloc (.cells cs 58) = wa := ⟨_, rfl⟩
  rw [hwa] at R0 F0
  obtain ⟨pb, hpb⟩ : ∃ pb, w.heap.size = pb := ⟨_, rfl⟩
  rw [hpb] at R0
  obtain ⟨h0, h1⟩ := hashF_lt s
  have hh := refHash_any wa s hs
  obtain ⟨Q, hQ⟩ : ∃ Q : Nat, hashF s = (Q : Int) := ⟨(hashF s).toNat, by omega⟩
  rw [hQ] at h0 h1 hh ⊢
  obtain ⟨d, hd⟩ : ∃ d, f (Q : Int) = d := ⟨_, rfl⟩
  rw [hd]
  have HWA := hide hwa
  have HPB := hide hpb
  have HR0 := hide R0
  have HF0 := hide F0
  have HH := hide hh
  have HD := hide hd
  clear hwa hpb R0 F0 h hh hQ hs hd
  go_enter Try.func23, Try.ntmps23
  go_upto_region 1 with fail
  rw [HWA.out, HPB.out]
  go_wp2_with fail
  refine HH.out.mono ?_
  rintro e w1 ⟨rfl, hf⟩
  have hr1 := HR0.out.fr hf id
  have hq := hr1.of Q (by omega)
  rw [HD.out] at hq
  have HF1 := hide (HF0.out.trans hf (fun _ _ h => h))
  clear hf hr1
  go_wp2_with fail
  go_ret
  exact ⟨rfl, HF1.out⟩

theorem results_cell_row2 {P : Program} {fn : Func} {p q : Tmp} {ty : TypeId} (h : fn.results = #[.cell p ty, .tmp q]) (tmps : Array Value) (w : World) (g : Nat) (t : TypeId) (cs : Array Value) (fr : Nat × Nat) (d : TypeDesc)
    (hp : tmps.getD p undef = .pointer (some ⟨g, 0, none⟩)) (hg : w.heap[g]? = some (.cells cs t fr))
    (hu : P.underlying ty = some d) (hd : (match d with | .struct _ | .array _ _ => true | _ => false) = true) (hi : (P.info? ty).map (·.size) = some cs.size) (u : Value) (hq : tmps.getD q undef = u) :
    (results fn tmps).run P w = .ok (.tuple #[.agg cs, u]) w := by
  have hp' : tmps[p]?.getD undef = .pointer (some ⟨g, 0, none⟩) := by simpa using hp
  have hq' : tmps[q]?.getD undef = u := by simpa using hq
  simp [results, h, hp', hq', asAddr, run_loadVar_row w g t ty cs fr d hg hu hd hi]
theorem builtRef0 : ∃ cs, Try.prog.built 58 [] = some cs ∧ RC cs 0 (fun _ => 0) := by
  refine ⟨Array.replicate 257 (.int .i64 0), ?_, rc_zero⟩
  have hu := Try.underlying58
  have h := infoRef
  cases hq : Try.prog.info? 58 with
  | none => rw [hq] at h; cases h
  | some it =>
    rw [hq] at h
    simp only [Option.map_some, Option.some.injEq, Prod.mk.injEq] at h
    unfold Program.built
    rw [hq, hu]
    simp only [h.1]
    have h3 : (Try.prog.info? 3).map (fun i => i.size) = some 1 := by kernel_rfl
    have h39 : (Try.prog.info? 39).map (fun i => i.size) = some 256 := by kernel_rfl
    simp only [List.mapM_cons, List.mapM_nil]
    cases h3q : Try.prog.info? 3 with
    | none => rw [h3q] at h3; cases h3
    | some i3 =>
      cases h9q : Try.prog.info? 39 with
      | none => rw [h9q] at h39; cases h39
      | some i9 =>
        rw [h3q] at h3; rw [h9q] at h39
        simp at h3 h39
        simp [Instr.fill, Value.cells, h3, h39]
theorem wpList_build_ref0 {ops : Array Oper} {rest : List Oper} {o : Oper} {a : Act} {w : World} {Q : Exit → Act → World → Prop} (hg : o.guard = none) (ho : o.op = .build 58 #[])
    (h : ∀ cs, RC cs 0 (fun _ => 0) → wpList Try.prog ops Q rest (a.put o.dst (.agg cs)) w) : wpList Try.prog ops Q (o :: rest) a w := by
  obtain ⟨cs, h1, h2⟩ := builtRef0
  have h1' : Try.prog.built 58 ((#[] : Array (Nat × Operand)).map fun (i, x) => (i, a.eval x)).toList = some cs := by
    rw [← h1]; simp
  refine wpList_build hg _ _ ho (by rw [h1']; rfl) ?_
  rw [h1']; exact h cs h2

/-- What the document's Move answers. -/
def refMoveE (ep lo hi g : Int) : Int := if lo < 0 ∨ hi ≤ lo ∨ 256 < hi ∨ g < 0 ∨ 3 ≤ g then 1 else if 1073741824 ≤ ep then 23 else 0
set_option maxRecDepth 100000 in
set_option maxHeartbeats 3200000 in
theorem refMove_any (w : World) (cs : Array Value) (ep : Int) (f : Int → Int) (h : RC cs ep f) (lo hi g : Int) (hlo : 0 ≤ lo) (hlh : lo < hi) (hhi : hi ≤ 256) (hg0 : 0 ≤ g) (hg3 : g < 3) (hep0 : 0 ≤ ep) (hep : ep < 1073741824) :
    Calls Try.prog 21 #[.agg cs, .int .i64 lo, .int .i64 hi, .int .i64 g] w fun e w' => ∃ cs', e = .returned (.tuple #[.agg cs', .int .i64 0]) ∧ RC cs' (ep + 1) (fun x => if lo ≤ x ∧ x < hi then g else f x) ∧ Fr (fun _ => False) w w' := by
  have R0 := RB.made h w
  have F0 : Fr (fun _ => False) w _ := Fr.alloc (fun _ => False) w (.cells cs 58)
  obtain ⟨wa, hwa⟩ : ∃ wa, w.alloc (.cells cs 58) = wa := ⟨_, rfl⟩
  rw [hwa] at R0 F0
  obtain ⟨pb, hpb⟩ : ∃ pb, w.heap.size = pb := ⟨_, rfl⟩
  rw [hpb] at R0
  obtain ⟨L, rfl⟩ : ∃ L : Nat, lo = (L : Int) := ⟨lo.toNat, by omega⟩
  obtain ⟨H, rfl⟩ : ∃ H : Nat, hi = (H : Int) := ⟨hi.toNat, by omega⟩
  have i1 : ¬ (L : Int) < 0 := by omega
  have i2 : ¬ (H : Int) ≤ (L : Int) := by omega
  have i3 : ¬ (256 : Int) < (H : Int) := by omega
  have i4 : ¬ g < 0 := by omega
  have i5 : ¬ 3 ≤ g := by omega
  have i6 : ¬ 1073741824 ≤ ep := by omega
  have HWA := hide hwa
  have HPB := hide hpb
  have HR0 := hide R0
  have HF0 := hide F0
  clear hwa hpb R0 F0 h
  go_enter Try.func21, Try.ntmps21
  go_upto_region 1 with (refine wpList_alloc_ref rfl rfl ?_; intro c0 hc0)
  rw [HWA.out, HPB.out]
  have R1 := RB.made hc0 wa
  have F1 : Fr (fun _ => False) wa _ := Fr.alloc (fun _ => False) wa (.cells c0 58)
  obtain ⟨wb, hwb⟩ : ∃ wb, wa.alloc (.cells c0 58) = wb := ⟨_, rfl⟩
  have hsz : wa.heap.size = pb + 1 := by rw [← HWA.out, ← HPB.out]; simp
  obtain ⟨qb, hqb⟩ : ∃ qb, pb + 1 = qb := ⟨_, rfl⟩
  rw [hwb] at R1 F1
  rw [hsz, hqb] at R1
  have hpq : pb < qb := by omega
  have hr0 := HR0.out.fr F1 id
  have HR1 := hide R1
  have HRP := hide hr0
  have HF1 := hide (HF0.out.trans F1 (fun _ _ h => h))
  have HWB := hide hwb
  have HQB := hide hqb
  have e0 := hr0.ep0
  have e1 := hr0.free 0
  clear R1 F1 hr0 hwb hqb hc0 hsz
  rw [HWB.out, HQB.out]
  have iep : wrap64 (ep + 1) = ep + 1 := by unfold wrap64; omega
  obtain ⟨w5, hw5⟩ : ∃ w5, wb.setCell ⟨pb, 0, none⟩ (.int .i64 (ep + 1)) = w5 := ⟨_, rfl⟩
  have hs5 : Fr (fun k => k = pb) wb w5 := by rw [← hw5]; exact Fr.setCell _ _ _ rfl
  have hr5 : RB w5 pb (ep + 1) f := by
    obtain ⟨cs1, q1, q2, q3, q4⟩ := HRP.out
    refine ⟨_, by rw [← hw5]; exact block_setCell q1 _, by simpa using q2, ?_, fun j hj => ?_⟩
    · rw [Array.getElem?_setIfInBounds]; simp [q2]
    · rw [Array.getElem?_setIfInBounds_ne (by omega)]; exact q4 j hj
  have hq5 := HR1.out.fr hs5 (by omega)
  have HW5 := hide hw5
  have HR5 := hide hr5
  have HQ5 := hide hq5
  have HF5 := hide ((HF1.out.mono (S' := fun k => pb ≤ k) (fun _ _ h => h.elim)).trans hs5 (fun k _ e => by omega))
  clear hw5 hs5 hr5 hq5
  go_upto_region 6 with fail
  rw [HW5.out]
  clear e0 e1
  go_wp2_with fail
  go_loopw [10] (fun i wr => ∃ (k : Nat), i = .int .i64 k ∧ L ≤ k ∧ k ≤ H ∧ RB wr pb (ep + 1) (fun x => if (L : Int) ≤ x ∧ x < (k : Int) then g else f x) ∧ RB wr qb 0 (fun _ => 0) ∧ Fr (fun k => pb ≤ k) w wr) (fun i _ => H - (intOf i).toNat)
  case atStart => exact ⟨L, rfl, Nat.le_refl _, by omega, HR5.out.congr (fun i h0 h1 => by rw [if_neg (by omega)]), HQ5.out, HF5.out⟩
  case round =>
    obtain ⟨k, rfl, hk1, hk2, hm, hr, hf⟩ := hrel
    have HM := hide hm
    have HR := hide hr
    have HFr := hide hf
    clear hm hr hf
    by_cases hlt : k < H
    · have ik1 : (k : Int) < (H : Int) := by omega
      have ik0 : (0 : Int) ≤ (k : Int) := by omega
      have ik2 : (k : Int) < 256 := by omega
      obtain ⟨d, hd⟩ : ∃ d, wr.cell? ⟨pb, 1 + k, none⟩ = some (.int .i64 d) := ⟨_, HM.out.of k (by omega)⟩
      have d1 : wr.frozen? ⟨pb, 1 + k, none⟩ = false := HM.out.free (1 + k)
      go_wp2_with fail
      go_roundw
      case rel =>
        have hs : Fr (fun k => k = pb) wr (wr.setCell ⟨pb, 1 + k, none⟩ (.int .i64 g)) := Fr.setCell _ _ _ rfl
        refine ⟨k + 1, by go_num, by omega, by omega, (HM.out.set k (by omega) g).congr (fun i h0 h1 => ?_), HR.out.fr hs (by omega), HFr.out.trans hs (fun _ _ h => by omega)⟩
        by_cases e : i = (k : Int)
        · rw [if_pos (by omega), if_pos e]
        · rw [if_neg e]
          by_cases e2 : (L : Int) ≤ i ∧ i < (k : Int)
          · rw [if_pos (by omega), if_pos e2]
          · rw [if_neg (by omega), if_neg e2]
      case measure => simp [intOf]; omega
    · have hkH : k = H := by omega
      subst hkH
      have ik1 : ¬ (k : Int) < (k : Int) := by omega
      go_wp2_with (first
        | (refine wpList_load_ref rfl _ rfl pb rfl (ep + 1) _ HM.out ?_; intro c3 hc3)
        | (refine wpList_store_ref rfl _ _ rfl qb c3 rfl rfl (ep + 1) 0 _ _ HR.out hc3 ?_; intro wc2 hR2 hF2))
      obtain ⟨cs', hcs1, hcs2⟩ := id hR2
      refine bodyPost_ret (results_cell_row2 rfl _ _ qb _ cs' _ _ rfl hcs1 Try.underlying58 rfl (refSize hcs2) (.int .i64 0) rfl) rfl ⟨cs', rfl, hcs2, ?_⟩
      exact (HFr.out.trans hF2 (fun _ _ h => by omega)).fresh (fun j hj => by have := HPB.out; omega)
end Go.Proofs.Ytkaibekeokkpnaa
