/- The document's table of locks: Writer, Free; and the statement's own 'in'. -/
import Derived.Test.YtkboipnfpcngcaaRefLk
import Derived.Deep.RegionLaw
namespace Go.Proofs.Ytkboipnfpcngcaa
open Go.RowKit Go.Maps Go.Cv
set_option linter.unusedVariables false

/-- append(v, x...) within a drawn region, v the call's own, x whatever slice. -/
theorem step_append_reads {P : Program} {w : World} {ops : Array Oper} {o : Oper} {a : Act} {K : Act → World → Prop} {Q : Exit → Act → World → Prop} {E : Prop} (hgd : o.guard = none) (s x : Operand) (t : TypeId)
    (ho : o.op = .call { callee := .builtin .append, args := #[s, x], argTypes := #[t, t] })
    (base : Nat) (e : TypeId) (i : TypeInfo) (z : Value) (size bytes : Nat) (ht : P.underlying t = some (.slice e)) (hi : P.info? e = some i) (hz : i.zero = some z)
    (hsize : i.size = size) (hby : i.bytes = bytes) (hzs : z.cells.size = size) (hsz : 0 < size) (v : Value) (n : Nat) (xs : List Value) (hs : a.eval s = v) (hown : w.ownsRow base e size v n xs)
    (xv : Value) (m : Nat) (news : List Value) (hx : a.eval x = xv) (hr : Reads w xv m size news) (h1 : ∀ u ∈ news, u.oneCell' = true)
    (h63 : n + m ≤ maxLen) (hbytes : (n + m) * bytes ≤ 140737488355328) (hbase : base ≤ w.heap.size) (N : Nat) (hN : n + m = N)
    (h : ∀ a' c' w', w'.ownsRow base e size (.slice a' N c') N (xs ++ news) → w.grownBy w' v.ownBlock → ((Value.slice a' N c').ownBlock = v.ownBlock ∨ (Value.slice a' N c').ownBlock = some w.heap.size) → K (a.put o.dst (.slice a' N c')) w') :
    if Region.wanted o (yielded ops a.tmps) = true then Oper.wp P o a w K Q else E := by
  have hw : Region.wanted o (yielded ops a.tmps) = true := by simp [Region.wanted, hgd]
  rw [if_pos hw]
  subst hN
  refine wp_append_reads w s x t ho base e i z size bytes ht hi hz hsize hby hzs hsz v n xs hs hown xv m news hx hr h1 h63 hbytes hbase fun v' w' h2 h3 h4 => ?_
  obtain ⟨a', c', rfl⟩ := own_shape h2
  exact h a' c' w' h2 h3 h4

theorem infoW : (Try.prog.info? 61).map (fun i => (i.zero, i.size, i.bytes)) = some (some (.agg #[.string ⟨#[]⟩, .bool false]), 2, 24) := by kernel_rfl
theorem infoL : (Try.prog.info? 63).map (fun i => (i.zero, i.size, i.bytes)) = some (some (.agg #[.string ⟨#[]⟩, .string ⟨#[]⟩, .bool false]), 3, 40) := by kernel_rfl
theorem w_size : (Value.agg #[.string ⟨#[]⟩, .bool false]).cells.size = 2 := by simp [Value.cells]
theorem l_size : (Value.agg #[.string ⟨#[]⟩, .string ⟨#[]⟩, .bool false]).cells.size = 3 := by simp [Value.cells]
theorem wcell_one (l : List WantT) : ∀ u ∈ l.flatMap wcell, u.oneCell' = true := by
  intro u hu
  simp only [List.mem_flatMap, wcell, List.mem_cons, List.not_mem_nil, or_false] at hu
  obtain ⟨x, _, rfl | rfl⟩ := hu <;> rfl
theorem rcell_one (l : List LkR) : ∀ u ∈ l.flatMap rcell, u.oneCell' = true := by
  intro u hu
  simp only [List.mem_flatMap, rcell, List.mem_cons, List.not_mem_nil, or_false] at hu
  obtain ⟨x, _, rfl | rfl | rfl⟩ := hu <;> rfl

set_option maxRecDepth 100000 in
set_option maxHeartbeats 6400000 in
theorem in_any (w : World) (v : Value) (l : List WantT) (h : Reads w v l.length 2 (l.flatMap wcell)) (hl : l.length ≤ 1000) :
    Calls Try.prog 19 #[v] w fun e w' => ∃ v', e = .returned v' ∧ Reads w' v' l.length 2 (l.flatMap wcell) ∧ Fr (fun _ => False) w w' ∧ ∀ b, foot v' = some b → w.heap.size ≤ b := by
  obtain ⟨i0, hi0, hz0, hz1, hz2⟩ := info_parts infoW
  obtain ⟨n, hn⟩ : ∃ n, l.length = n := ⟨_, rfl⟩
  rw [hn] at h hl
  rw [hn]
  obtain ⟨-, a, cp, rfl, -, -, -⟩ := id h
  obtain ⟨N, hN⟩ : ∃ N, w.heap.size = N := ⟨_, rfl⟩
  have hn9 : (n : Int) ≤ 1000 := by omega
  have HR := hide h
  have HN := hide hn
  have HNN := hide hN
  clear h hn hN
  go_enter Try.func19, Try.ntmps19
  go_wp2_with fail
  go_loopw [3, 4] (fun o i wr => ∃ k : Nat, i = .int .i64 k ∧ k ≤ n ∧ Hid (wr.ownsRow N 61 2 o k ((l.take k).flatMap wcell)) ∧ Fr (fun _ => False) w wr) (fun _ i _ => n - (intOf i).toNat)
  case atStart => exact ⟨0, rfl, Nat.zero_le _, World.ownsRow_nil _ _ _ _, Fr.refl _ _⟩
  case round =>
    obtain ⟨k, rfl, hk, HO, hf⟩ := hrel
    obtain ⟨ao, co, hsh⟩ := own_shape HO.out
    subst hsh
    by_cases hlt : k < n
    · have ik0 : (0 : Int) ≤ (k : Int) := by omega
      have ik1 : (k : Int) < (n : Int) := by omega
      obtain ⟨x, hx⟩ : ∃ x, l[k]? = some x := ⟨_, List.getElem?_eq_getElem (by rw [HN.out]; exact hlt)⟩
      obtain ⟨b1, o1, rfl, hl1, hc1⟩ := row_cells wcell_len HR.out hx (by decide)
      have hstep : (l.take (k + 1)).flatMap wcell = (l.take k).flatMap wcell ++ wcell x := by rw [List.take_add_one, hx]; simp
      obtain ⟨c, b⟩ := x
      have hbl := hf.block b1 hl1 (fun h => h)
      have e0 := hc1 0 (.string c) rfl wr hbl
      rw [Nat.add_zero] at e0
      have e1 := hc1 1 (.bool b) rfl wr hbl
      have hal : Fr (fun _ => False) wr (wr.alloc (.cells #[.string c, .bool b] 61)).drew := (Fr.alloc (fun _ => False) wr _).drew
      have HO3 := hide (ownsRow_fr HO.out hal (fun _ _ => id))
      have hrd : Reads (wr.alloc (.cells #[.string c, .bool b] 61)).drew (.slice (some ⟨wr.heap.size, 0, none⟩) 1 1) 1 2 (wcell (c, b)) := by
        have := readsW wr [(c, b)] 1 rfl 61
        exact this.heap rfl
      have HR3 := hide hrd
      have HONE := hide (fun u (hu : u ∈ wcell (c, b)) => wcell_one [(c, b)] u (by simpa using hu))
      have HFA := hide (hf.trans hal (fun _ _ h => h))
      have HST := hide hstep
      have hszN : N ≤ (wr.alloc (.cells #[.string c, .bool b] 61)).drew.heap.size := by have := HFA.out.size; have := HNN.out; omega
      have HSZ := hide hszN
      clear hx hc1 hbl hstep hal hrd hszN
      go_wp2_with fail
      go_region_law
        ((first
          | (refine step_append_reads (by rfl) _ _ 48 (by rfl) N 61 i0 _ 2 24 Try.underlying48 hi0 hz0 hz1 hz2 w_size (by decide) (.slice ao k co) k ((l.take k).flatMap wcell) (by rfl) HO3.out (.slice (some ⟨wr.heap.size, 0, none⟩) 1 1) 1 (wcell (c, b)) (by rfl) HR3.out HONE.out (by unfold maxLen; omega) (by omega) HSZ.out (k + 1) rfl ?_; intro a2 c2' W1 hown1 hgrow1 hat1; have HO4 := hide hown1; have HG4 := hide hgrow1; clear hown1 hgrow1 hat1)))
      all_goals
        go_wp2_with fail
        go_roundw
        case rel =>
          refine ⟨k + 1, by go_num, by omega, by rw [HST.out]; exact HO4.out, ?_⟩
          exact HFA.out.trans (Fr.grown (S := fun q => N ≤ q) HG4.out (fun q hq => (HO3.out.lt q hq).1)) (fun q hq hN => by have := HNN.out; omega)
        case measure => simp [intOf]; omega
    · have ik1 : ¬ (k : Int) < (n : Int) := by omega
      have hkn : k = n := by omega
      have HF := hide hf
      have hO2 := Reads.of_own HO.out
      have htk : l.take k = l := List.take_of_length_le (by rw [HN.out, hkn]; exact Nat.le_refl _)
      rw [htk] at hO2
      have HO2 := hide hO2
      have HFT := hide (fun b (hb : foot (.slice ao k co) = some b) => (show w.heap.size ≤ b by rw [HNN.out]; exact (ownsRow_foot HO.out hb).1))
      clear hf HO htk hO2
      subst hkn
      go_wp2_with fail
      go_ret
      exact ⟨.slice ao k co, rfl, HO2.out, HF.out, HFT.out⟩

def wrR : Option ByteArray → Value
  | some u => .tuple #[.string u, .bool true]
  | none => .tuple #[.string ⟨#[]⟩, .bool false]
set_option maxRecDepth 100000 in
set_option maxHeartbeats 3200000 in
theorem rWriter_any (w : World) (rb : Nat) (u : Value) (R : List LkR) (h : Rk w rb u R) (hl : R.length ≤ 1000000) (c : ByteArray) :
    Calls Try.prog 23 #[.pointer (some ⟨rb, 0, none⟩), .string c] w fun e w' => e = .returned (wrR (writerR R c)) ∧ w' = w := by
  obtain ⟨n, hn⟩ : ∃ n, R.length = n := ⟨_, rfl⟩
  have hrd := Reads.of_own h.own
  rw [hn] at hrd hl
  obtain ⟨-, a, cp, rfl, -, -, -⟩ := id hrd
  have c1 := h.c
  have HR := hide hrd
  have HN := hide hn
  have hn9 : (n : Int) ≤ 1000000 := by omega
  clear h hrd hn
  go_enter Try.func23, Try.ntmps23
  go_wp2_with fail
  go_loopw [6] (fun i wr => ∃ k : Nat, i = .int .i64 k ∧ k ≤ n ∧ wr = w ∧ Hid (∀ (j : Nat) y, j < k → R[j]? = some y → ¬ (y.2.1 = c ∧ y.2.2 = true))) (fun i _ => n - (intOf i).toNat)
  case atStart => exact ⟨0, rfl, Nat.zero_le _, rfl, fun j y hj => absurd hj (Nat.not_lt_zero _)⟩
  case round =>
    obtain ⟨k, rfl, hk, rfl, HB⟩ := hrel
    by_cases hlt : k < n
    · obtain ⟨y, hy⟩ : ∃ y, R[k]? = some y := ⟨_, List.getElem?_eq_getElem (by have := HN.out; omega)⟩
      obtain ⟨b0, o0, rfl, hlt0, hcells⟩ := row_cells rcell_len HR.out hy (by decide)
      obtain ⟨yt, yc, yb⟩ := y
      have e0 := hcells 0 (.string yt) rfl wr rfl
      have e1 := hcells 1 (.string yc) rfl wr rfl
      have e2 := hcells 2 (.bool yb) rfl wr rfl
      rw [Nat.add_zero] at e0
      have ik0 : (0 : Int) ≤ (k : Int) := by omega
      have ik1 : (k : Int) < (n : Int) := by omega
      have HY := hide hy
      clear hy hcells
      have hnext : ¬ (yc = c ∧ yb = true) → Hid (∀ (j : Nat) y, j < k + 1 → R[j]? = some y → ¬ (y.2.1 = c ∧ y.2.2 = true)) := fun hno j y hj hy => by
        by_cases e : j < k
        · exact HB.out j y e hy
        · have : j = k := by omega
          subst this
          rw [HY.out] at hy; cases hy; exact hno
      by_cases hc : yc = c
      · subst hc
        have hsb : (yc.toList == yc.toList) = true := by simp
        cases yb with
        | true =>
          have hres : writerR R yc = some yt := by
            unfold writerR
            have : R.find? (fun y => decide (y.2.1 = yc) && y.2.2) = some (yt, yc, true) := by
              rw [List.find?_eq_some_iff_getElem]
              obtain ⟨hk2, hku⟩ := List.getElem?_eq_some_iff.1 HY.out
              refine ⟨by simp, k, hk2, hku, fun j hj => ?_⟩
              have := HB.out j R[j] hj (List.getElem?_eq_getElem (by omega))
              cases h9 : (decide (R[j].2.1 = yc) && R[j].2.2) with
              | false => rfl
              | true => exact absurd (by simpa using h9) this
            rw [this]; rfl
          have HRES := hide hres
          clear hres hnext
          go_wp2_with fail
          go_ret2
          exact ⟨by rw [HRES.out]; rfl, rfl⟩
        | false =>
          have HNX := hide (hnext (by simp))
          clear hnext
          go_wp2_with fail
          go_roundw
          case rel => exact ⟨k + 1, by go_num, by omega, trivial, HNX.out.out⟩
          case measure => simp [intOf]; omega
      · have hsb := bytes_beq hc
        have HNX := hide (hnext (fun h => hc h.1))
        clear hnext hc
        go_wp2_with fail
        go_roundw
        case rel => exact ⟨k + 1, by go_num, by omega, trivial, HNX.out.out⟩
        case measure => simp [intOf]; omega
    · have ik1 : ¬ (k : Int) < (n : Int) := by omega
      have hres : writerR R c = none := by
        unfold writerR
        have : R.find? (fun y => decide (y.2.1 = c) && y.2.2) = none := by
          rw [List.find?_eq_none]
          intro y hy hb
          obtain ⟨j, hj⟩ := List.mem_iff_getElem?.1 hy
          exact HB.out j y (by have := (List.getElem?_eq_some_iff.1 hj).1; have := HN.out; omega) hj (by simpa using hb)
        rw [this]; rfl
      have HRES := hide hres
      clear hres
      go_wp2_with fail
      go_ret2
      exact ⟨by rw [HRES.out]; rfl, rfl⟩

/-- The document's table has turned. -/
def RTd (w w' : World) (rb : Nat) (u : Value) (R : List LkR) : Prop :=
  ∃ u', Rk w' rb u' R ∧ (u'.ownBlock = u.ownBlock ∨ ∀ k, u'.ownBlock = some k → w.heap.size ≤ k) ∧ Fr (fun k => k = rb ∨ u.ownBlock = some k) w w'

set_option maxRecDepth 100000 in
set_option maxHeartbeats 3200000 in
theorem rFree_any (w : World) (rb : Nat) (u : Value) (R : List LkR) (h : Rk w rb u R) (hl : R.length ≤ 1000000) (c : ByteArray) :
    Calls Try.prog 20 #[.pointer (some ⟨rb, 0, none⟩), .string c] w fun e w' => e = .returned (.bool (decide ((freeR R c).length < R.length))) ∧ RTd w w' rb u (freeR R c) := by
  obtain ⟨i0, hi0, hz0, hz1, hz2⟩ := info_parts infoL
  obtain ⟨n, hn⟩ : ∃ n, R.length = n := ⟨_, rfl⟩
  have hrd := Reads.of_own h.own
  rw [hn] at hrd hl
  rw [hn]
  obtain ⟨-, a, cp, rfl, -, -, -⟩ := id hrd
  have c1 := h.c
  obtain ⟨N, hN⟩ : ∃ N, w.heap.size = N := ⟨_, rfl⟩
  have HH := hide h
  have HR := hide hrd
  have HN := hide hn
  have HNN := hide hN
  have hn9 : (n : Int) ≤ 1000000 := by omega
  clear h hrd hn hN
  obtain ⟨F, hF⟩ : ∃ F : Nat → List LkR, F = fun k => (R.take k).filter (fun y => decide (y.1 ≠ c)) := ⟨_, rfl⟩
  have hF0 : F 0 = [] := by rw [hF]; simp
  have hFn : F n = freeR R c := by rw [hF]; show (R.take n).filter _ = _; rw [List.take_of_length_le (by rw [HN.out]; exact Nat.le_refl _)]; rfl
  have hFl : ∀ k, (F k).length ≤ k := fun k => by rw [hF]; exact Nat.le_trans (List.length_filter_le _ _) (List.length_take_le _ _)
  have hFs : ∀ k y, R[k]? = some y → F (k + 1) = if y.1 = c then F k else F k ++ [y] := fun k y hy => by
    rw [hF]
    show (R.take (k + 1)).filter _ = _
    rw [List.take_add_one, hy]
    by_cases e : y.1 = c <;> simp [e, List.filter_append]
  rw [← hFn]
  have HF0 := hide hF0
  have HFL := hide hFl
  have HFS := hide hFs
  clear hF hF0 hFn hFl hFs
  go_enter Try.func20, Try.ntmps20
  go_wp2_with fail
  go_loopw [5, 6] (fun o i wr => ∃ k : Nat, i = .int .i64 k ∧ k ≤ n ∧ Hid (wr.ownsRow N 63 3 o (F k).length ((F k).flatMap rcell)) ∧ Fr (fun _ => False) w wr) (fun _ i _ => n - (intOf i).toNat)
  case atStart => exact ⟨0, rfl, Nat.zero_le _, by rw [HF0.out]; exact World.ownsRow_nil _ _ _ _, Fr.refl _ _⟩
  case round =>
    obtain ⟨k, rfl, hk, HO, hf⟩ := hrel
    have c2 := cell_fr0 hf c1
    have hpl := HFL.out k
    have hO := HO.out
    obtain ⟨fl, hfl⟩ : ∃ fl, (F k).length = fl := ⟨_, rfl⟩
    rw [hfl] at hO hpl
    obtain ⟨ao, co, hsh⟩ := own_shape hO
    subst hsh
    have HO1 := hide hO
    have HFl := hide hfl
    clear hO HO hfl
    by_cases hlt : k < n
    · obtain ⟨y, hy⟩ : ∃ y, R[k]? = some y := ⟨_, List.getElem?_eq_getElem (by have := HN.out; omega)⟩
      obtain ⟨b0, o0, rfl, hlt0, hcells⟩ := row_cells rcell_len HR.out hy (by decide)
      have hFS := HFS.out k y hy
      obtain ⟨yt, yc, yb⟩ := y
      have hbl := hf.block b0 hlt0 (fun h => h)
      have e0 := hcells 0 (.string yt) rfl wr hbl
      have e1 := hcells 1 (.string yc) rfl wr hbl
      have e2 := hcells 2 (.bool yb) rfl wr hbl
      rw [Nat.add_zero] at e0
      have ik0 : (0 : Int) ≤ (k : Int) := by omega
      have ik1 : (k : Int) < (n : Int) := by omega
      have HF := hide hf
      have HFK := hide hFS
      clear hy hcells hbl hf hFS
      by_cases hc : yt = c
      · subst hc
        have hsb : (yt.toList == yt.toList) = true := by simp
        have hsb2 : (yt.toList != yt.toList) = false := by simp
        go_wp2_with fail
        go_roundw
        case rel => exact ⟨k + 1, by go_num, by omega, by rw [HFK.out, if_pos (show (yt, yc, yb).1 = yt from rfl), HFl.out]; exact HO1.out, HF.out⟩
        case measure => simp [intOf]; omega
      · have hsb := bytes_beq hc
        have hsb2 : (yt.toList != c.toList) = true := by simp [bne, hsb]
        have HNC := hide hc
        have hal : Fr (fun _ => False) wr (wr.alloc (.cells #[.string yt, .string yc, .bool yb] 63)) := Fr.alloc _ _ _
        have HO3 := hide (ownsRow_fr HO1.out hal (fun _ _ => id))
        have hrd : Reads (wr.alloc (.cells #[.string yt, .string yc, .bool yb] 63)) (.slice (some ⟨wr.heap.size, 0, none⟩) 1 1) 1 3 (rcell (yt, yc, yb)) :=
          ⟨rfl, _, _, rfl, (by intro h; cases h), Nat.le_refl _, fun i u hu => ⟨_, _, rfl, by rw [cell_of_block (block_alloc wr _)]; simpa [rcell] using hu⟩⟩
        have HR3 := hide hrd
        have HONE := hide (fun u (hu : u ∈ rcell (yt, yc, yb)) => rcell_one [(yt, yc, yb)] u (by simpa using hu))
        have b1' : fl + 1 ≤ maxLen := by unfold maxLen; omega
        have b2' : (fl + 1) * 40 ≤ 140737488355328 := by omega
        have b3' : N ≤ (wr.alloc (.cells #[.string yt, .string yc, .bool yb] 63)).heap.size := by have := HF.out.size; have := HNN.out; have := hal.size; omega
        have HAL := hide (HF.out.trans hal (fun _ _ h => h))
        clear hc hal hrd
        go_wp2_with (at_builtin; refine wpList_append_reads _ rfl _ _ _ rfl N 63 i0 _ 3 40 Try.underlying44 hi0 hz0 hz1 hz2 l_size (by decide) _ fl _ rfl HO3.out _ 1 (rcell (yt, yc, yb)) rfl HR3.out HONE.out b1' b2' b3' ?_; intro v3 w3 hown3 hgrow hat; have HO4 := hide hown3; have HG4 := hide hgrow; clear hown3 hgrow hat)
        go_roundw
        case rel =>
          refine ⟨k + 1, by go_num, by omega, ?_, HAL.out.trans (Fr.grown (S := fun q => N ≤ q) HG4.out (fun q hq => (HO3.out.lt q hq).1)) (fun q hq hN => by have := HNN.out; omega)⟩
          rw [HFK.out, if_neg HNC.out, List.length_append, HFl.out, List.flatMap_append]
          show w3.ownsRow N 63 3 v3 (fl + 1) ((F k).flatMap rcell ++ [(yt, yc, yb)].flatMap rcell)
          simpa using HO4.out
        case measure => simp [intOf]; omega
    · have ik1 : ¬ (k : Int) < (n : Int) := by omega
      have hkn : k = n := by omega
      subst hkn
      have hblk := (hf.block rb (lt_of_block HH.out.blk) (fun h => h)).trans HH.out.blk
      have c3 := free_of_block (j := 0) hblk
      have HB := hide hblk
      have HF := hide hf
      have HFLk := HFl.out
      clear hblk hf
      go_wp2_with fail
      go_ret
      refine ⟨?_, ?_⟩
      · rfl
      · refine ⟨.slice ao fl co, ⟨block_setCell HB.out _, ?_⟩, .inr (fun q hq => ?_), ?_⟩
        · rw [HFLk]
          have h5 : wr.ownsRow (rb + 1) 63 3 (.slice ao fl co) fl ((F k).flatMap rcell) := ownsRow_low HO1.out (by have := lt_of_block HH.out.blk; have := HNN.out; omega)
          exact ownsRow_setCell_below h5 (by simp) _
        · have := (HO1.out.lt q hq).1; have := HNN.out; omega
        · exact (HF.out.mono (fun _ _ h => h.elim)).trans (Fr.setCell (S := fun q => q = rb ∨ (Value.slice a k cp).ownBlock = some q) _ _ _ (.inl rfl)) (fun _ _ h => h)
end Go.Proofs.Ytkboipnfpcngcaa
