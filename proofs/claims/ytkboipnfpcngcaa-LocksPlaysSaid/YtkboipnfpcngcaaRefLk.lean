/- The document's table of locks: Put, Held, Holders, All, Writer. -/
import Derived.Test.YtkboipnfpcngcaaRefLkPlain
import Derived.Deep.CutBlock
namespace Go.Proofs.Ytkboipnfpcngcaa
open Go.RowKit Go.Maps Go.Cv
set_option linter.unusedVariables false

theorem putF_len (s : Bs) : ∀ (l : List Bs) (o : List Bs) (d : Bool), (l.foldl (putF s) (o, d)).1.length ≤ o.length + 2 * l.length
  | [], o, d => Nat.le_add_right _ _
  | x :: r, o, d => by
    rw [List.foldl_cons]
    have h1 : (r.foldl (putF s) (putF s (o, d) x)).1.length ≤ (putF s (o, d) x).1.length + 2 * r.length := putF_len s r (putF s (o, d) x).1 (putF s (o, d) x).2
    have h2 : (putF s (o, d) x).1.length ≤ o.length + 2 := by
      unfold putF
      simp only [List.length_append]
      split <;> split <;> simp <;> omega
    rw [List.length_cons]; omega
theorem geq_le (x s : Bs) : (!Go.Op.bytesLess (toB x).toList (toB s).toList) = leB s x := by
  rw [ByteArray.toList_eq, ByteArray.toList_eq]
  show (!Go.Op.bytesLess x s) = leB s x
  cases h : leB s x with
  | true =>
    have : ¬ x < s := by simpa [leB] using h
    have h2 := mt (less_list x s).1 this
    simpa using h2
  | false =>
    have : ¬ s ≤ x := by simpa [leB] using h
    have h2 := (less_list x s).2 (List.not_le.1 this)
    rw [h2]; rfl

set_option maxRecDepth 100000 in
set_option maxHeartbeats 6400000 in
theorem rPut_any (w : World) (v : Value) (l : List Bs) (h : Reads w v l.length 1 (l.map encStr)) (hl : l.length ≤ 1000000) (s : ByteArray) :
    Calls Try.prog 29 #[v, .string s] w fun e w' => ∃ v', e = .returned v' ∧ Reads w' v' (putS l s.data.toList).length 1 ((putS l s.data.toList).map encStr) ∧ Fr (fun _ => False) w w' := by
  obtain ⟨i0, hi0, hz0, hz1, hz2⟩ := info_parts infoStr
  obtain ⟨-, a, cp, rfl, -, -, hc⟩ := h
  obtain ⟨n, hn⟩ : ∃ n, l.length = n := ⟨_, rfl⟩
  rw [hn] at hl
  rw [hn]
  obtain ⟨sb, hsb⟩ : ∃ sb, s.data.toList = sb := ⟨_, rfl⟩
  have hs : s = toB sb := by rw [← hsb, toB_data]
  rw [hsb]
  obtain ⟨N, hN⟩ : ∃ N, w.heap.size = N := ⟨_, rfl⟩
  have hn9 : (n : Int) ≤ 1000000 := by omega
  have HC := hide hc
  have HN := hide hn
  have HS := hide hs
  have HNN := hide hN
  clear hc hn hs hsb hN
  go_enter Try.func29, Try.ntmps29
  go_wp2_with fail
  go_loopw [5, 6, 7] (fun o d i wr => ∃ (k : Nat) (p : List Bs × Bool), i = .int .i64 k ∧ k ≤ n ∧ d = .bool p.2 ∧ Hid ((l.take k).foldl (putF sb) ([], false) = p) ∧ Hid (wr.ownsRow N 9 1 o p.1.length (p.1.map encStr)) ∧ Hid (Fr (fun _ => False) w wr)) (fun _ _ i _ => n - (intOf i).toNat)
  case atStart => exact ⟨0, ([], false), rfl, Nat.zero_le _, rfl, rfl, World.ownsRow_nil _ _ _ _, Fr.refl _ _⟩
  case round =>
    obtain ⟨k, ⟨P, D⟩, rfl, hk, rfl, HP, HO, HF⟩ := hrel
    have hpl := putF_len sb (l.take k) [] false
    rw [HP.out] at hpl
    have hpl : P.length ≤ 2 * k := by have := List.length_take_le k l; simp at hpl; omega
    obtain ⟨fl, hfl⟩ : ∃ fl, P.length = fl := ⟨_, rfl⟩
    have hO := HO.out
    simp only [hfl] at hO hpl
    obtain ⟨ao, co, hshape⟩ := own_shape hO
    subst hshape
    have HO1 := hide hO
    have HFL := hide hfl
    clear hO hfl HO
    by_cases hlt : k < n
    · have ik0 : (0 : Int) ≤ (k : Int) := by omega
      have ik1 : (k : Int) < (n : Int) := by omega
      obtain ⟨x, hx⟩ : ∃ x, l[k]? = some x := ⟨_, List.getElem?_eq_getElem (by rw [HN.out]; exact hlt)⟩
      obtain ⟨b1, o1, rfl, e1'⟩ := HC.out k (encStr x) (by rw [List.getElem?_map, hx]; rfl)
      obtain ⟨X, hX⟩ : ∃ X : ByteArray, toB x = X := ⟨_, rfl⟩
      have hcell : ∀ wx, Fr (fun _ => False) w wx → wx.cell? ⟨b1, o1 + k, none⟩ = some (.string X) := fun wx hf => by rw [← hX]; exact cell_fr0 hf e1'
      have e1 := hcell wr HF.out
      have hstep : (l.take (k + 1)).foldl (putF sb) ([], false) = putF sb (P, D) x := by rw [List.take_add_one, hx, List.foldl_append, HP.out]; rfl
      have hge := geq_le x sb
      rw [hX, ← HS.out] at hge
      have hne : (X.toList == s.toList) = decide (x = sb) := by
        rw [HS.out, ← hX, ByteArray.toList_eq, ByteArray.toList_eq]
        show (x == sb) = _
        by_cases e : x = sb <;> simp [e]
      obtain ⟨G, hG⟩ : ∃ G, leB sb x = G := ⟨_, rfl⟩
      obtain ⟨E, hE⟩ : ∃ E, decide (x = sb) = E := ⟨_, rfl⟩
      rw [hG] at hge
      rw [hE] at hne
      have HCELL := hide hcell
      have HSTEP := hide hstep
      have HG := hide hG
      have HE := hide hE
      have HXX := hide hX
      clear hx e1' hcell hstep hG hE hX
      go_upto_region 6 with fail
      obtain ⟨Q, hQ⟩ : ∃ Q, (!D && G) = Q := ⟨_, rfl⟩
      have HQ0 := hide hQ
      clear hQ
      go_cut [23] from 14 to 22 (fun q wx => q = .bool Q ∧ wx = wr)
      case first =>
        cases D with
        | true =>
          go_wp2_with fail
          go_meet
          case rel => exact ⟨by rw [← HQ0.out]; rfl, rfl⟩
        | false =>
          go_wp2_with fail
          go_meet
          case rel => exact ⟨by rw [← HQ0.out]; simp, rfl⟩
      case rest =>
        obtain ⟨rfl, rfl⟩ := hcut
        go_upto_if 23 with fail
        go_cut [5, 6] from 24 to 27 (fun o d wx => ∃ P', d = .bool (D || G) ∧ Hid (P' = if D = false ∧ G = true then P ++ [sb] else P) ∧ Hid (wx.ownsRow N 9 1 o P'.length (P'.map encStr)) ∧ Hid (Fr (fun _ => False) w wx))
        case first =>
          cases Q with
          | true =>
            have hq : D = false ∧ G = true := by have := HQ0.out; cases D <;> cases G <;> simp at this ⊢
            obtain ⟨rfl, rfl⟩ := hq
            have hal : Fr (fun _ => False) wc (wc.alloc (.cells #[.string s] 9)) := Fr.alloc _ _ _
            have HO3 := hide (ownsRow_fr HO1.out hal (fun _ _ => id))
            have HR3 := hide (Reads.built wc [.string s] 9 : Reads (wc.alloc (.cells #[.string s] 9)) (.slice (some ⟨wc.heap.size, 0, none⟩) 1 1) 1 1 [.string s])
            have b1' : fl + 1 ≤ maxLen := by unfold maxLen; omega
            have b2' : (fl + 1) * 16 ≤ 140737488355328 := by omega
            have b3' : N ≤ (wc.alloc (.cells #[.string s] 9)).heap.size := by have := HF.out.size; have := HNN.out; have := hal.size; omega
            have HAL := hide (HF.out.trans hal (fun _ _ h => h))
            clear hal
            go_wp2_with (at_builtin; refine wpList_append_reads _ rfl _ _ _ rfl N 9 i0 _ 1 16 Try.underlying30 hi0 hz0 hz1 hz2 sizeStr (by decide) _ fl _ rfl HO3.out _ 1 [.string s] rfl HR3.out (by intro u hu; simp at hu; subst hu; rfl) b1' b2' b3' ?_; intro v3 w3 hown3 hgrow hat; have HO4 := hide hown3; have HG4 := hide hgrow; clear hown3 hgrow hat)
            go_meet
            case rel =>
              refine ⟨P ++ [sb], by simp, hide (by simp), ?_, ?_⟩
              · rw [List.length_append, HFL.out, List.map_append]
                have := HO4.out
                rw [HS.out] at this
                exact this
              · exact HAL.out.trans (Fr.grown (S := fun q => N ≤ q) HG4.out (fun q hq => (HO3.out.lt q hq).1)) (fun q hq hN => by have := HNN.out; omega)
          | false =>
            have hq : ¬ (D = false ∧ G = true) := by have := HQ0.out; cases D <;> cases G <;> simp at this ⊢
            have hq3 : (D || G) = D := by cases D <;> cases G <;> simp at hq ⊢
            have HQ := hide hq
            clear hq
            go_wp2_with fail
            go_meet
            case rel => exact ⟨P, by rw [hq3], hide (by rw [if_neg HQ.out]), by rw [HFL.out]; exact HO1.out, HF.out⟩
        case rest =>
          obtain ⟨P', rfl, HP', HO', HF'⟩ := hcut
          have hpl' : P'.length ≤ 2 * k + 1 := by
            have := HFL.out
            rw [HP'.out]; split
            · rw [List.length_append, List.length_singleton]; omega
            · omega
          obtain ⟨fl', hfl'⟩ : ∃ fl, P'.length = fl := ⟨_, rfl⟩
          have hO := HO'.out
          rw [hfl'] at hO hpl'
          obtain ⟨ao', co', hshape⟩ := own_shape hO
          subst hshape
          have HO1' := hide hO
          have HFL' := hide hfl'
          have hst2 : (l.take (k + 1)).foldl (putF sb) ([], false) = (P' ++ (if E = true then [] else [x]), D || G) := by
            rw [HSTEP.out, HP'.out, ← HG.out, ← HE.out]
            unfold putF
            by_cases e : x = sb <;> simp [e]
          have HST2 := hide hst2
          obtain ⟨wd, hwd⟩ : ∃ wd, wc = wd := ⟨_, rfl⟩
          rw [hwd] at HF' HO1'
          rw [hwd]
          have e1 := HCELL.out wd HF'.out
          clear hwd hO hfl' hst2 HO' HO1 HF
          cases E with
          | false =>
            have hne2 : (X.toList != s.toList) = true := by simp [bne, hne]
            have hal : Fr (fun _ => False) wd (wd.alloc (.cells #[.string X] 9)) := Fr.alloc _ _ _
            have HO3 := hide (ownsRow_fr HO1'.out hal (fun _ _ => id))
            have HR3 := hide (Reads.built wd [.string X] 9 : Reads (wd.alloc (.cells #[.string X] 9)) (.slice (some ⟨wd.heap.size, 0, none⟩) 1 1) 1 1 [.string X])
            have b1' : fl' + 1 ≤ maxLen := by unfold maxLen; omega
            have b2' : (fl' + 1) * 16 ≤ 140737488355328 := by omega
            have b3' : N ≤ (wd.alloc (.cells #[.string X] 9)).heap.size := by have := HF'.out.size; have := HNN.out; have := hal.size; omega
            have HAL := hide (HF'.out.trans hal (fun _ _ h => h))
            clear hal
            go_wp2_with (at_builtin; refine wpList_append_reads _ rfl _ _ _ rfl N 9 i0 _ 1 16 Try.underlying30 hi0 hz0 hz1 hz2 sizeStr (by decide) _ fl' _ rfl HO3.out _ 1 [.string X] rfl HR3.out (by intro u hu; simp at hu; subst hu; rfl) b1' b2' b3' ?_; intro v3 w3 hown3 hgrow hat; have HO4 := hide hown3; have HG4 := hide hgrow; clear hown3 hgrow hat)
            go_roundw
            case rel =>
              refine ⟨k + 1, (P' ++ [x], D || G), by go_num, by omega, rfl, HST2.out, ?_, ?_⟩
              · show w3.ownsRow N _ 1 v3 (P' ++ [x]).length ((P' ++ [x]).map encStr)
                rw [List.length_append, HFL'.out, List.map_append]
                have := HO4.out
                rw [← HXX.out] at this
                exact this
              · exact HAL.out.trans (Fr.grown (S := fun q => N ≤ q) HG4.out (fun q hq => (HO3.out.lt q hq).1)) (fun q hq hN => by have := HNN.out; omega)
            case measure => simp [intOf]; omega
          | true =>
            have hne2 : (X.toList != s.toList) = false := by simp [bne, hne]
            go_wp2_with fail
            go_roundw
            case rel =>
              refine ⟨k + 1, (P' ++ [], D || G), by go_num, by omega, rfl, HST2.out, ?_, HF'.out⟩
              show wd.ownsRow N _ 1 _ (P' ++ []).length ((P' ++ []).map encStr)
              rw [List.append_nil, HFL'.out]; exact HO1'.out
            case measure => simp [intOf]; omega
    · have ik1 : ¬ (k : Int) < (n : Int) := by omega
      have hkn : k = n := by omega
      have hput : putS l sb = if D then P else P ++ [sb] := by
        have := HP.out
        rw [hkn, List.take_of_length_le (by rw [HN.out]; exact Nat.le_refl _)] at this
        unfold putS; rw [this]
      have HPUT := hide hput
      clear hput hkn
      cases D with
      | true =>
        go_wp2_with fail
        go_ret
        have e : putS l sb = P := by rw [HPUT.out]; simp
        exact ⟨.slice ao fl co, rfl, by rw [e, HFL.out]; exact Reads.of_own HO1.out, HF.out⟩
      | false =>
        have hal : Fr (fun _ => False) wr (wr.alloc (.cells #[.string s] 9)) := Fr.alloc _ _ _
        have HO3 := hide (ownsRow_fr HO1.out hal (fun _ _ => id))
        have HR3 := hide (Reads.built wr [.string s] 9 : Reads (wr.alloc (.cells #[.string s] 9)) (.slice (some ⟨wr.heap.size, 0, none⟩) 1 1) 1 1 [.string s])
        have b1' : fl + 1 ≤ maxLen := by unfold maxLen; omega
        have b2' : (fl + 1) * 16 ≤ 140737488355328 := by omega
        have b3' : N ≤ (wr.alloc (.cells #[.string s] 9)).heap.size := by have := HF.out.size; have := HNN.out; have := hal.size; omega
        have HAL := hide (HF.out.trans hal (fun _ _ h => h))
        clear hal
        go_wp2_with (at_builtin; refine wpList_append_reads _ rfl _ _ _ rfl N 9 i0 _ 1 16 Try.underlying30 hi0 hz0 hz1 hz2 sizeStr (by decide) _ fl _ rfl HO3.out _ 1 [.string s] rfl HR3.out (by intro u hu; simp at hu; subst hu; rfl) b1' b2' b3' ?_; intro v3 w3 hown3 hgrow hat; have HO4 := hide hown3; have HG4 := hide hgrow; clear hown3 hgrow hat)
        go_ret
        refine ⟨_, rfl, ?_, HAL.out.trans (Fr.grown (S := fun q => N ≤ q) HG4.out (fun q hq => (HO3.out.lt q hq).1)) (fun q hq hN => by have := HNN.out; omega)⟩
        have e : putS l sb = P ++ [sb] := by rw [HPUT.out]; simp
        rw [e, List.length_append, HFL.out, List.map_append]
        have := Reads.of_own HO4.out
        rw [HS.out] at this
        exact this

def rcell (y : LkR) : List Value := [.string y.1, .string y.2.1, .bool y.2.2]
theorem rcell_len (y : LkR) : (rcell y).length = 3 := rfl
/-- Block rb is the document's table. -/
structure Rk (w : World) (rb : Nat) (u : Value) (R : List LkR) : Prop where
  blk : w.heap[rb]? = some (.cells #[u] 46 (0, 0))
  own : w.ownsRow (rb + 1) 63 3 u R.length (R.flatMap rcell)
theorem Rk.fr {w w' : World} {rb : Nat} {u : Value} {R : List LkR} (h : Rk w rb u R) {S : Nat → Prop} (g : Fr S w w') (h1 : ¬ S rb) (h2 : ∀ k, u.ownBlock = some k → ¬ S k) : Rk w' rb u R :=
  ⟨(g.block _ (lt_of_block h.blk) h1).trans h.blk, ownsRow_fr h.own g h2⟩
theorem Rk.fr0 {w w' : World} {rb : Nat} {u : Value} {R : List LkR} (h : Rk w rb u R) (g : Fr (fun _ => False) w w') : Rk w' rb u R := h.fr g id (fun _ _ => id)
theorem Rk.c {w : World} {rb : Nat} {u : Value} {R : List LkR} (h : Rk w rb u R) : w.cell? ⟨rb, 0, none⟩ = some u := by rw [cell_of_block h.blk]; rfl

theorem puts_len : ∀ (r : List Bs) {l : List Bs}, Srt l → (r.foldl putS l).length ≤ l.length + r.length
  | [], l, h => Nat.le_refl _
  | y :: r, l, h => by
    have h1 := puts_len r (putS_spec h y).1
    have h2 := putS_len l y h
    rw [List.foldl_cons, List.length_cons]; omega

set_option maxRecDepth 100000 in
set_option maxHeartbeats 3200000 in
theorem rHolders_any (w : World) (rb : Nat) (u : Value) (R : List LkR) (h : Rk w rb u R) (hl : R.length ≤ 1000000) (c : ByteArray) :
    Calls Try.prog 24 #[.pointer (some ⟨rb, 0, none⟩), .string c] w fun e w' => ∃ v, e = .returned v ∧ Reads w' v (holdersR R c).length 1 ((holdersR R c).map encStr) ∧ Fr (fun _ => False) w w' := by
  obtain ⟨n, hn⟩ : ∃ n, R.length = n := ⟨_, rfl⟩
  have hrd := Reads.of_own h.own
  rw [hn] at hrd hl
  obtain ⟨-, a, cp, rfl, -, -, -⟩ := id hrd
  have c1 := h.c
  have HR := hide hrd
  have HN := hide hn
  have hn9 : (n : Int) ≤ 1000000 := by omega
  clear h hrd hn
  obtain ⟨F, hF⟩ : ∃ F : Nat → List Bs, F = fun k => (((R.take k).filter (fun y => decide (y.2.1 = c))).map who).foldl putS [] := ⟨_, rfl⟩
  have hF0 : F 0 = [] := by rw [hF]; simp
  have hFn : F n = holdersR R c := by rw [hF]; show (((R.take n).filter (fun y => decide (y.2.1 = c))).map who).foldl putS [] = _; rw [List.take_of_length_le (by rw [HN.out]; exact Nat.le_refl _)]; rfl
  have hFl : ∀ k, (F k).length ≤ k := fun k => by
    rw [hF]
    have h1 := puts_len (((R.take k).filter (fun y => decide (y.2.1 = c))).map who) Srt.nil
    have h2 : (((R.take k).filter (fun y => decide (y.2.1 = c))).map who).length ≤ k := by rw [List.length_map]; exact Nat.le_trans (List.length_filter_le _ _) (List.length_take_le _ _)
    rw [List.length_nil, Nat.zero_add] at h1
    exact Nat.le_trans h1 h2
  have hFs : ∀ k y, R[k]? = some y → F (k + 1) = if y.2.1 = c then putS (F k) (who y) else F k := fun k y hy => by
    rw [hF]
    show (((R.take (k + 1)).filter (fun y => decide (y.2.1 = c))).map who).foldl putS [] = _
    rw [List.take_add_one, hy]
    by_cases e : y.2.1 = c <;> simp [e, List.filter_append]
  rw [← hFn]
  have HF0 := hide hF0
  have HFL := hide hFl
  have HFS := hide hFs
  clear hF hF0 hFn hFl hFs
  go_enter Try.func24, Try.ntmps24
  go_wp2_with fail
  go_loopw [5, 6] (fun o i wr => ∃ k : Nat, i = .int .i64 k ∧ k ≤ n ∧ Hid (Reads wr o (F k).length 1 ((F k).map encStr)) ∧ Fr (fun _ => False) w wr) (fun _ i _ => n - (intOf i).toNat)
  case atStart => exact ⟨0, rfl, Nat.zero_le _, by rw [HF0.out]; exact Reads.nil _ _, Fr.refl _ _⟩
  case round =>
    obtain ⟨k, rfl, hk, HO, hf⟩ := hrel
    have c2 := cell_fr0 hf c1
    obtain ⟨ao, co, hsh⟩ := reads_shape HO.out
    have hpl := HFL.out k
    obtain ⟨fl, hfl⟩ : ∃ fl, (F k).length = fl := ⟨_, rfl⟩
    rw [hfl] at hsh hpl
    by_cases hlt : k < n
    · obtain ⟨y, hy⟩ : ∃ y, R[k]? = some y := ⟨_, List.getElem?_eq_getElem (by have := HN.out; omega)⟩
      obtain ⟨b0, o0, rfl, hlt0, hcells⟩ := row_cells rcell_len HR.out hy (by decide)
      have hFS := HFS.out k y hy
      obtain ⟨yt, yc, yb⟩ := y
      have hbl := hf.block b0 hlt0 (fun h => h)
      have e0 := hcells 0 (.string yt) rfl wr hbl
      have e1 := hcells 1 (.string yc) rfl wr hbl
      rw [Nat.add_zero] at e0
      have ik0 : (0 : Int) ≤ (k : Int) := by omega
      have ik1 : (k : Int) < (n : Int) := by omega
      have t1 := rPut_any wr u5 (F k) HO.out (by rw [hfl]; omega) yt
      subst hsh
      have T1 := hide t1
      have HF := hide hf
      have HFK := hide hFS
      have HO0 := hide HO.out
      clear hy hcells hbl t1 hf hFS hfl HO
      by_cases hc : yc = c
      · subst hc
        have hsb : (yc.toList == yc.toList) = true := by simp
        go_wp2_with fail
        refine T1.out.mono ?_
        rintro e w2 ⟨v2, rfl, hr2, hf2⟩
        obtain ⟨a2, q2, hs2⟩ := reads_shape hr2
        have HR2 := hide hr2
        have HF2 := hide (HF.out.trans hf2 (fun _ _ h => h))
        clear hr2 hf2
        subst hs2
        go_wp2_with fail
        go_roundw
        case rel => exact ⟨k + 1, by go_num, by omega, by rw [HFK.out, if_pos trivial]; exact HR2.out, HF2.out⟩
        case measure => simp [intOf]; omega
      · have hsb := bytes_beq hc
        have HNC := hide hc
        clear hc
        go_wp2_with fail
        go_roundw
        case rel => exact ⟨k + 1, by go_num, by omega, by rw [HFK.out, if_neg HNC.out]; exact HO0.out, HF.out⟩
        case measure => simp [intOf]; omega
    · have ik1 : ¬ (k : Int) < (n : Int) := by omega
      have hkn : k = n := by omega
      have HF := hide hf
      have HO2 := hide (show Reads wr u5 (F n).length 1 ((F n).map encStr) by rw [← hkn]; exact HO.out)
      clear hf hkn HO hfl
      subst hsh
      go_wp2_with fail
      go_ret
      exact ⟨_, rfl, HO2.out, HF.out⟩

set_option maxRecDepth 100000 in
set_option maxHeartbeats 3200000 in
theorem rHeld_any (w : World) (rb : Nat) (u : Value) (R : List LkR) (h : Rk w rb u R) (hl : R.length ≤ 1000000) (c : ByteArray) :
    Calls Try.prog 21 #[.pointer (some ⟨rb, 0, none⟩), .string c] w fun e w' => ∃ v, e = .returned v ∧ Reads w' v (heldR R c).length 1 ((heldR R c).map encStr) ∧ Fr (fun _ => False) w w' := by
  obtain ⟨n, hn⟩ : ∃ n, R.length = n := ⟨_, rfl⟩
  have hrd := Reads.of_own h.own
  rw [hn] at hrd hl
  obtain ⟨-, a, cp, rfl, -, -, -⟩ := id hrd
  have c1 := h.c
  have HR := hide hrd
  have HN := hide hn
  have hn9 : (n : Int) ≤ 1000000 := by omega
  clear h hrd hn
  obtain ⟨F, hF⟩ : ∃ F : Nat → List Bs, F = fun k => (((R.take k).filter (fun y => decide (y.1 = c))).map cas).foldl putS [] := ⟨_, rfl⟩
  have hF0 : F 0 = [] := by rw [hF]; simp
  have hFn : F n = heldR R c := by rw [hF]; show (((R.take n).filter (fun y => decide (y.1 = c))).map cas).foldl putS [] = _; rw [List.take_of_length_le (by rw [HN.out]; exact Nat.le_refl _)]; rfl
  have hFl : ∀ k, (F k).length ≤ k := fun k => by
    rw [hF]
    have h1 := puts_len (((R.take k).filter (fun y => decide (y.1 = c))).map cas) Srt.nil
    have h2 : (((R.take k).filter (fun y => decide (y.1 = c))).map cas).length ≤ k := by rw [List.length_map]; exact Nat.le_trans (List.length_filter_le _ _) (List.length_take_le _ _)
    rw [List.length_nil, Nat.zero_add] at h1
    exact Nat.le_trans h1 h2
  have hFs : ∀ k y, R[k]? = some y → F (k + 1) = if y.1 = c then putS (F k) (cas y) else F k := fun k y hy => by
    rw [hF]
    show (((R.take (k + 1)).filter (fun y => decide (y.1 = c))).map cas).foldl putS [] = _
    rw [List.take_add_one, hy]
    by_cases e : y.1 = c <;> simp [e, List.filter_append]
  rw [← hFn]
  have HF0 := hide hF0
  have HFL := hide hFl
  have HFS := hide hFs
  clear hF hF0 hFn hFl hFs
  go_enter Try.func21, Try.ntmps21
  go_wp2_with fail
  go_loopw [5, 6] (fun o i wr => ∃ k : Nat, i = .int .i64 k ∧ k ≤ n ∧ Hid (Reads wr o (F k).length 1 ((F k).map encStr)) ∧ Fr (fun _ => False) w wr) (fun _ i _ => n - (intOf i).toNat)
  case atStart => exact ⟨0, rfl, Nat.zero_le _, by rw [HF0.out]; exact Reads.nil _ _, Fr.refl _ _⟩
  case round =>
    obtain ⟨k, rfl, hk, HO, hf⟩ := hrel
    have c2 := cell_fr0 hf c1
    obtain ⟨ao, co, hsh⟩ := reads_shape HO.out
    have hpl := HFL.out k
    obtain ⟨fl, hfl⟩ : ∃ fl, (F k).length = fl := ⟨_, rfl⟩
    rw [hfl] at hsh hpl
    by_cases hlt : k < n
    · obtain ⟨y, hy⟩ : ∃ y, R[k]? = some y := ⟨_, List.getElem?_eq_getElem (by have := HN.out; omega)⟩
      obtain ⟨b0, o0, rfl, hlt0, hcells⟩ := row_cells rcell_len HR.out hy (by decide)
      have hFS := HFS.out k y hy
      obtain ⟨yt, yc, yb⟩ := y
      have hbl := hf.block b0 hlt0 (fun h => h)
      have e0 := hcells 0 (.string yt) rfl wr hbl
      have e1 := hcells 1 (.string yc) rfl wr hbl
      rw [Nat.add_zero] at e0
      have ik0 : (0 : Int) ≤ (k : Int) := by omega
      have ik1 : (k : Int) < (n : Int) := by omega
      have t1 := rPut_any wr u5 (F k) HO.out (by rw [hfl]; omega) yc
      subst hsh
      have T1 := hide t1
      have HF := hide hf
      have HFK := hide hFS
      have HO0 := hide HO.out
      clear hy hcells hbl t1 hf hFS hfl HO
      by_cases hc : yt = c
      · subst hc
        have hsb : (yt.toList == yt.toList) = true := by simp
        go_wp2_with fail
        refine T1.out.mono ?_
        rintro e w2 ⟨v2, rfl, hr2, hf2⟩
        obtain ⟨a2, q2, hs2⟩ := reads_shape hr2
        have HR2 := hide hr2
        have HF2 := hide (HF.out.trans hf2 (fun _ _ h => h))
        clear hr2 hf2
        subst hs2
        go_wp2_with fail
        go_roundw
        case rel => exact ⟨k + 1, by go_num, by omega, by rw [HFK.out, if_pos trivial]; exact HR2.out, HF2.out⟩
        case measure => simp [intOf]; omega
      · have hsb := bytes_beq hc
        have HNC := hide hc
        clear hc
        go_wp2_with fail
        go_roundw
        case rel => exact ⟨k + 1, by go_num, by omega, by rw [HFK.out, if_neg HNC.out]; exact HO0.out, HF.out⟩
        case measure => simp [intOf]; omega
    · have ik1 : ¬ (k : Int) < (n : Int) := by omega
      have hkn : k = n := by omega
      have HF := hide hf
      have HO2 := hide (show Reads wr u5 (F n).length 1 ((F n).map encStr) by rw [← hkn]; exact HO.out)
      clear hf hkn HO hfl
      subst hsh
      go_wp2_with fail
      go_ret
      exact ⟨_, rfl, HO2.out, HF.out⟩

set_option maxRecDepth 100000 in
set_option maxHeartbeats 3200000 in
theorem rAll_any (w : World) (rb : Nat) (u : Value) (R : List LkR) (h : Rk w rb u R) (hl : R.length ≤ 1000000) :
    Calls Try.prog 22 #[.pointer (some ⟨rb, 0, none⟩)] w fun e w' => ∃ v, e = .returned v ∧ Reads w' v (allR R).length 1 ((allR R).map encStr) ∧ Fr (fun _ => False) w w' := by
  obtain ⟨n, hn⟩ : ∃ n, R.length = n := ⟨_, rfl⟩
  have hrd := Reads.of_own h.own
  rw [hn] at hrd hl
  obtain ⟨-, a, cp, rfl, -, -, -⟩ := id hrd
  have c1 := h.c
  have HR := hide hrd
  have HN := hide hn
  have hn9 : (n : Int) ≤ 1000000 := by omega
  clear h hrd hn
  obtain ⟨F, hF⟩ : ∃ F : Nat → List Bs, F = fun k => ((R.take k).map who).foldl putS [] := ⟨_, rfl⟩
  have hF0 : F 0 = [] := by rw [hF]; simp
  have hFn : F n = allR R := by rw [hF]; show ((R.take n).map who).foldl putS [] = _; rw [List.take_of_length_le (by rw [HN.out]; exact Nat.le_refl _)]; rfl
  have hFl : ∀ k, (F k).length ≤ k := fun k => by
    rw [hF]
    have h1 := puts_len ((R.take k).map who) Srt.nil
    have h2 : ((R.take k).map who).length ≤ k := by rw [List.length_map]; exact List.length_take_le _ _
    rw [List.length_nil, Nat.zero_add] at h1
    exact Nat.le_trans h1 h2
  have hFs : ∀ k y, R[k]? = some y → F (k + 1) = putS (F k) (who y) := fun k y hy => by
    rw [hF]
    show ((R.take (k + 1)).map who).foldl putS [] = _
    rw [List.take_add_one, hy]
    simp
  rw [← hFn]
  have HF0 := hide hF0
  have HFL := hide hFl
  have HFS := hide hFs
  clear hF hF0 hFn hFl hFs
  go_enter Try.func22, Try.ntmps22
  go_wp2_with fail
  go_loopw [3, 4] (fun o i wr => ∃ k : Nat, i = .int .i64 k ∧ k ≤ n ∧ Hid (Reads wr o (F k).length 1 ((F k).map encStr)) ∧ Fr (fun _ => False) w wr) (fun _ i _ => n - (intOf i).toNat)
  case atStart => exact ⟨0, rfl, Nat.zero_le _, by rw [HF0.out]; exact Reads.nil _ _, Fr.refl _ _⟩
  case round =>
    obtain ⟨k, rfl, hk, HO, hf⟩ := hrel
    have c2 := cell_fr0 hf c1
    obtain ⟨ao, co, hsh⟩ := reads_shape HO.out
    have hpl := HFL.out k
    obtain ⟨fl, hfl⟩ : ∃ fl, (F k).length = fl := ⟨_, rfl⟩
    rw [hfl] at hsh hpl
    by_cases hlt : k < n
    · obtain ⟨y, hy⟩ : ∃ y, R[k]? = some y := ⟨_, List.getElem?_eq_getElem (by have := HN.out; omega)⟩
      obtain ⟨b0, o0, rfl, hlt0, hcells⟩ := row_cells rcell_len HR.out hy (by decide)
      have hFS := HFS.out k y hy
      obtain ⟨yt, yc, yb⟩ := y
      have hbl := hf.block b0 hlt0 (fun h => h)
      have e0 := hcells 0 (.string yt) rfl wr hbl
      have e1 := hcells 1 (.string yc) rfl wr hbl
      rw [Nat.add_zero] at e0
      have ik0 : (0 : Int) ≤ (k : Int) := by omega
      have ik1 : (k : Int) < (n : Int) := by omega
      have t1 := rPut_any wr u3 (F k) HO.out (by rw [hfl]; omega) yt
      subst hsh
      have T1 := hide t1
      have HF := hide hf
      have HFK := hide hFS
      clear hy hcells hbl t1 hf hFS hfl HO
      go_wp2_with fail
      refine T1.out.mono ?_
      rintro e w2 ⟨v2, rfl, hr2, hf2⟩
      obtain ⟨a2, q2, hs2⟩ := reads_shape hr2
      have HR2 := hide hr2
      have HF2 := hide (HF.out.trans hf2 (fun _ _ h => h))
      clear hr2 hf2
      subst hs2
      go_wp2_with fail
      go_roundw
      case rel => exact ⟨k + 1, by go_num, by omega, by rw [HFK.out]; exact HR2.out, HF2.out⟩
      case measure => simp [intOf]; omega
    · have ik1 : ¬ (k : Int) < (n : Int) := by omega
      have hkn : k = n := by omega
      have HF := hide hf
      have HO2 := hide (show Reads wr u3 (F n).length 1 ((F n).map encStr) by rw [← hkn]; exact HO.out)
      clear hf hkn HO hfl
      subst hsh
      go_wp2_with fail
      go_ret
      exact ⟨_, rfl, HO2.out, HF.out⟩
end Go.Proofs.Ytkboipnfpcngcaa
