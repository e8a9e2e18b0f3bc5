/- Promise of paxos. -/
import Derived.Test.YtkefffcfiedkeaaPaxosB
import Derived.Test.YtkefffcfiedkeaaGoto
import Derived.Test.YtkefffcfiedkeaaRows2
namespace Go.Cv
variable {P : Program} {a : Act} {w : World} {Q : Exit → Act → World → Prop}

/-- As Q; by a goto to a label: J. -/
def Exit.jumps (J : Nat → Act → World → Prop) (Q : Exit → Act → World → Prop) : Exit → Act → World → Prop
  | .goto l', a, w => J l' a w
  | e, a, w => Q e a w
theorem Exit.jumps_mono {J J' : Nat → Act → World → Prop} (h : ∀ l a w, J l a w → J' l a w) : ∀ (e : Exit) (a : Act) (w : World), Exit.jumps J Q e a w → Exit.jumps J' Q e a w := fun e a w hq => by
  cases e <;> first | exact hq | exact h _ a w hq

theorem wp_scope_many {c : Code} (J : Nat → Act → World → Prop) (μ : Nat → Act → World → Nat)
    (first : c.wp P (Exit.jumps J Q) a w)
    (pass : ∀ l a w, J l a w → ∃ rest, findLabel c l = some rest ∧ rest.wp P (Exit.jumps (fun l' a' w' => J l' a' w' ∧ μ l' a' w' < μ l a w) Q) a w) : (Code.scope c).wp P Q a w := by
  intro b k cs
  have hg : ∀ l rest, findLabel c l = some rest → gotoIn l (.inScope c :: k) = some (.code rest :: .inScope c :: k) := fun l rest hf => by simp [gotoIn, hf]
  have key : ∀ n l a w rest, findLabel c l = some rest → μ l a w = n → J l a w → ∃ e a' w', Q e a' w' ∧ Arrives P (lone (b.at a (.code rest :: .inScope c :: k)) cs w) b k cs e a' w' := by
    intro n
    induction n using Nat.strongRecOn with
    | _ n ih =>
      intro l a w rest hf hn hJ
      obtain ⟨rest', hf', hp⟩ := pass l a w hJ
      rw [hf] at hf'
      cases hf'
      obtain ⟨e, a₁, w₁, hq, harr⟩ := hp b (.inScope c :: k) cs
      cases e with
      | normal => exact ⟨.normal, a₁, w₁, hq, Steps.trans harr (.one step_inScope)⟩
      | exit id => exact ⟨.exit id, a₁, w₁, hq, fun k' hk => harr k' (by simp [exitTo, hk])⟩
      | goto l' =>
        obtain ⟨hJ', hlt⟩ := hq
        obtain ⟨rest2, hf2, _⟩ := pass l' a₁ w₁ hJ'
        obtain ⟨e₂, a₂, w₂, hq₂, harr₂⟩ := ih _ (by omega) l' a₁ w₁ rest2 hf2 rfl hJ'
        exact ⟨e₂, a₂, w₂, hq₂, .of_steps (harr _ (hg _ _ hf2)) harr₂⟩
      | ret => exact ⟨_, a₁, w₁, hq, harr⟩
      | panic ch => exact ⟨_, a₁, w₁, hq, harr⟩
      | outgrown => exact ⟨_, a₁, w₁, hq, harr⟩
  obtain ⟨e, a₁, w₁, hq, harr⟩ := first b (.inScope c :: k) cs
  cases e with
  | normal => exact ⟨.normal, a₁, w₁, hq, .head step_scope (Steps.trans harr (.one step_inScope))⟩
  | exit id => exact ⟨.exit id, a₁, w₁, hq, fun k' hk => .head step_scope (harr k' (by simp [exitTo, hk]))⟩
  | goto l' =>
    obtain ⟨rest2, hf2, _⟩ := pass l' a₁ w₁ hq
    obtain ⟨e₂, a₂, w₂, hq₂, harr₂⟩ := key _ l' a₁ w₁ rest2 hf2 rfl hq
    exact ⟨e₂, a₂, w₂, hq₂, .of_steps (.head step_scope (harr _ (hg _ _ hf2))) harr₂⟩
  | ret => exact ⟨_, a₁, w₁, hq, .of_steps (.one step_scope) harr⟩
  | panic ch => exact ⟨_, a₁, w₁, hq, .of_steps (.one step_scope) harr⟩
  | outgrown => exact ⟨_, a₁, w₁, hq, .of_steps (.one step_scope) harr⟩
/-- Two labels: 0 at the end, 1 at a loop. -/
theorem wp_scope_two {c rest0 X : Code} (J0 J1 : Act → World → Prop) (μ : Act → World → Nat) (h0 : findLabel c 0 = some rest0) (h1 : findLabel c 1 = some (Code.skip.seq X))
    (end0 : ∀ a w, J0 a w → rest0.wp P (Exit.jumps (fun _ _ _ => False) Q) a w)
    (pass : ∀ a w, J1 a w → X.wp P (Exit.jumps (fun l a' w' => match l with | 0 => J0 a' w' | 1 => J1 a' w' ∧ μ a' w' < μ a w | _ => False) Q) a w)
    (first : (∀ a w, J1 a w → X.wp P (Exit.jumps (fun l a' w' => match l with | 0 => J0 a' w' | 1 => J1 a' w' | _ => False) Q) a w) → c.wp P (Exit.jumps (fun l a' w' => match l with | 0 => J0 a' w' | 1 => J1 a' w' | _ => False) Q) a w) :
    (Code.scope c).wp P Q a w := by
  refine wp_scope_many (fun l a' w' => match l with | 0 => J0 a' w' | 1 => J1 a' w' | _ => False) (fun l a' w' => match l with | 0 => 0 | _ => 1 + μ a' w') (first fun a w hJ => Code.wp_mono (Exit.jumps_mono (fun l a' w' hh => ?_)) (pass a w hJ)) ?_
  · match l, hh with
    | 0, hh => exact hh
    | 1, hh => exact hh.1
  · intro l a' w' hJ
    match l, hJ with
    | 0, hJ => exact ⟨_, h0, Code.wp_mono (Exit.jumps_mono (fun _ _ _ hh => hh.elim)) (end0 a' w' hJ)⟩
    | 1, hJ =>
      refine ⟨_, h1, wp_seq (wp_skip (Code.wp_mono (Exit.jumps_mono (fun l a2 w2 hh => ?_)) (pass a' w' hJ)))⟩
      match l, hh with
      | 0, hh => exact ⟨hh, by show 0 < 1 + _; omega⟩
      | 1, hh => exact ⟨hh.1, by show 1 + _ < 1 + _; have := hh.2; omega⟩
end Go.Cv
namespace Go.Proofs.Ytkefffcfiedkeaa
open Go.RowKit Go.Maps Go.Cv
set_option linter.unusedVariables false

/-- A vote that came with a promise. -/
def hadB (l : List Vt) (x : Vt) : Bool := match at_ l x.1 with | none => true | some y => less y.2.1 x.2.1
def addV (fr : Int) (l : List Vt) (x : Vt) : List Vt := if x.1 < fr ∨ 512 ≤ x.1 then l else if hadB l x then putV l x else l
def okB (s : PS) (node : Int) (b : Bt) : Bool := !(!(b.1 == s.b.1 && b.2 == s.b.2)) && !(b.1 == 0 && b.2 == 0) && (decide (0 ≤ node) && decide (node < s.nodes)) && !decide (node ∈ s.ps)
def promS (s : PS) (node : Int) (b : Bt) (l : List Vt) : PS :=
  if okB (seenS s b.1) node b then { seenS s b.1 with ps := addS s.ps node, vs := l.foldl (addV s.fr) s.vs } else seenS s b.1

/-- The slots at the label. -/
def proA (pb : Nat) (node : Int) (v : Value) (k : Int) (u : Nat → Value) : Act := { tmps := #[.pointer (some ⟨pb, 0, none⟩), .int .i64 node, u 2, v, u 4, u 5, u 6, u 7, .int .i64 k, u 9, u 10, u 11, u 12, u 13, u 14, u 15, u 16, u 17, u 18, u 19, u 20, u 21, u 22, u 23, u 24, u 25, u 26, u 27, u 28, u 29, u 30, u 31, u 32, u 33, u 34, u 35, u 36, u 37, u 38, u 39, u 40, u 41, u 42, u 43, u 44, u 45, u 46, u 47, u 48, u 49, u 50, u 51, u 52, u 53, u 54, u 55, u 56, u 57, u 58, u 59, u 60, u 61, u 62, u 63, u 64, u 65, u 66, u 67, u 68, u 69, u 70, u 71, u 72, u 73, u 74, u 75, u 76, u 77, u 78, u 79, u 80, u 81, u 82, u 83, u 84, u 85, u 86, u 87, u 88, u 89, u 90, u 91, u 92, u 93], defers := [] }
theorem proA_mk (pb : Nat) (node : Int) (v : Value) (k : Int) (a' : Act) (h : a' = { tmps := #[.pointer (some ⟨pb, 0, none⟩), .int .i64 node, a'.tmps.getD 2 undef, v, a'.tmps.getD 4 undef, a'.tmps.getD 5 undef, a'.tmps.getD 6 undef, a'.tmps.getD 7 undef, .int .i64 k, a'.tmps.getD 9 undef, a'.tmps.getD 10 undef, a'.tmps.getD 11 undef, a'.tmps.getD 12 undef, a'.tmps.getD 13 undef, a'.tmps.getD 14 undef, a'.tmps.getD 15 undef, a'.tmps.getD 16 undef, a'.tmps.getD 17 undef, a'.tmps.getD 18 undef, a'.tmps.getD 19 undef, a'.tmps.getD 20 undef, a'.tmps.getD 21 undef, a'.tmps.getD 22 undef, a'.tmps.getD 23 undef, a'.tmps.getD 24 undef, a'.tmps.getD 25 undef, a'.tmps.getD 26 undef, a'.tmps.getD 27 undef, a'.tmps.getD 28 undef, a'.tmps.getD 29 undef, a'.tmps.getD 30 undef, a'.tmps.getD 31 undef, a'.tmps.getD 32 undef, a'.tmps.getD 33 undef, a'.tmps.getD 34 undef, a'.tmps.getD 35 undef, a'.tmps.getD 36 undef, a'.tmps.getD 37 undef, a'.tmps.getD 38 undef, a'.tmps.getD 39 undef, a'.tmps.getD 40 undef, a'.tmps.getD 41 undef, a'.tmps.getD 42 undef, a'.tmps.getD 43 undef, a'.tmps.getD 44 undef, a'.tmps.getD 45 undef, a'.tmps.getD 46 undef, a'.tmps.getD 47 undef, a'.tmps.getD 48 undef, a'.tmps.getD 49 undef, a'.tmps.getD 50 undef, a'.tmps.getD 51 undef, a'.tmps.getD 52 undef, a'.tmps.getD 53 undef, a'.tmps.getD 54 undef, a'.tmps.getD 55 undef, a'.tmps.getD 56 undef, a'.tmps.getD 57 undef, a'.tmps.getD 58 undef, a'.tmps.getD 59 undef, a'.tmps.getD 60 undef, a'.tmps.getD 61 undef, a'.tmps.getD 62 undef, a'.tmps.getD 63 undef, a'.tmps.getD 64 undef, a'.tmps.getD 65 undef, a'.tmps.getD 66 undef, a'.tmps.getD 67 undef, a'.tmps.getD 68 undef, a'.tmps.getD 69 undef, a'.tmps.getD 70 undef, a'.tmps.getD 71 undef, a'.tmps.getD 72 undef, a'.tmps.getD 73 undef, a'.tmps.getD 74 undef, a'.tmps.getD 75 undef, a'.tmps.getD 76 undef, a'.tmps.getD 77 undef, a'.tmps.getD 78 undef, a'.tmps.getD 79 undef, a'.tmps.getD 80 undef, a'.tmps.getD 81 undef, a'.tmps.getD 82 undef, a'.tmps.getD 83 undef, a'.tmps.getD 84 undef, a'.tmps.getD 85 undef, a'.tmps.getD 86 undef, a'.tmps.getD 87 undef, a'.tmps.getD 88 undef, a'.tmps.getD 89 undef, a'.tmps.getD 90 undef, a'.tmps.getD 91 undef, a'.tmps.getD 92 undef, a'.tmps.getD 93 undef], defers := [] }) : ∃ u, a' = proA pb node v k u := ⟨fun j => a'.tmps.getD j undef, h⟩

set_option maxRecDepth 100000 in
set_option maxHeartbeats 30000000 in
theorem promise_any (w : World) (pb : Nat) (mo : Mo) (n : Nat) (s : PS) (h : Pr w pb mo n s) (node : Int) (b : Bt) (v : Value) (l : List Vt) (hb : b.1 ≤ 9223372036854775807)
    (hv : Reads w v l.length 4 (rowV l)) (hsep : ∀ k, v.ownBlock = some k → k ∉ blocks pb mo s.ks) (hn : n + l.length < 1000000000) :
    Calls Try.prog 17 #[.pointer (some ⟨pb, 0, none⟩), .int .i64 node, .agg (bcells b), v] w fun e w' => e = .returned (.tuple #[]) ∧ Pr w' pb mo (n + l.length) (promS s node b l) ∧ Fr (fun k => k ∈ blocks pb mo s.ks) w w' := by
  obtain ⟨b1, b2⟩ := b
  obtain ⟨y, hy⟩ : ∃ y, w.alloc (.cells #[.int .i64 b1, .int .i64 b2] 29) = y := ⟨_, rfl⟩
  have hfy : Fr (fun _ => False) w y := by rw [← hy]; exact Fr.alloc _ _ _
  have hby : y.heap[w.heap.size]? = some (.cells #[.int .i64 b1, .int .i64 b2] 29 (0, 0)) := by rw [← hy]; exact block_alloc _ _
  have hP := h.fr0 hfy
  have hlt := h.lt
  have q0 : y.cell? ⟨w.heap.size, 0, none⟩ = some (.int .i64 b1) := by rw [cell_of_block hby]; rfl
  have q1 : y.cell? ⟨w.heap.size, 1, none⟩ = some (.int .i64 b2) := by rw [cell_of_block hby]; rfl
  have hseen := seen_any y pb mo n s hP (b1, b2) hb
  have HSEEN := hide (show Calls Try.prog 10 #[.pointer (some ⟨pb, 0, none⟩), .agg #[.int .i64 b1, .int .i64 b2]] y _ from hseen)
  have HY := hide hy
  have HBY := hide hby
  have HFY := hide hfy
  have hpw : pb < w.heap.size := hlt pb List.mem_cons_self
  have HV := hide hv
  have HSEP := hide hsep
  have HLT := hide hlt
  clear hseen hy hby hfy hP h hv hsep hlt
  show Calls _ _ #[.pointer (some ⟨pb, 0, none⟩), .int .i64 node, .agg #[.int .i64 b1, .int .i64 b2], v] w _
  go_enter Try.func17, Try.ntmps17
  go_wp2_with fail
  refine wp_scope_two (fun a' w' => a'.defers = [] ∧ Pr w' pb mo (n + l.length) (promS s node (b1, b2) l) ∧ Fr (fun k => k ∈ blocks pb mo s.ks) w w') (fun a' w' => ∃ (k : Nat), k ≤ l.length ∧ (∃ u, a' = proA pb node v k u) ∧ okB (seenS s b1) node (b1, b2) = true ∧ Pr w' pb mo (n + k) { seenS s b1 with ps := addS s.ps node, vs := (l.take k).foldl (addV s.fr) s.vs } ∧ Fr (fun k => k ∈ blocks pb mo s.ks) w w')
    (fun a' _ => 1 + (l.length - (intOf (a'.tmps.getD 8 undef)).toNat)) rfl rfl ?_ ?_ ?_
  · rintro a' w' hJ
    go_wp2_with fail
    simp only [Exit.jumps]
    refine bodyPost_end (results_none Try.results17 _ _ _) hJ.1 ?_
    exact ⟨rfl, hJ.2⟩
  · rintro a' w' ⟨k, hk, ⟨u, rfl⟩, hyes, hpr, hf⟩
    have HYES := hide hyes
    have HPR := hide hpr
    have HF := hide hf
    clear hyes hpr hf
    obtain ⟨m, hm⟩ : ∃ m, l.length = m := ⟨_, rfl⟩
    have hvm := HV.out
    rw [hm] at hvm hk hn
    obtain ⟨-, a9, c9, rfl, -, -, -⟩ := id hvm
    have HVM := hide hvm
    have HM := hide hm
    clear hvm
    have hkn : (k : Int) < 1000000000 := by omega
    by_cases hlt : k < m
    · obtain ⟨x, hx⟩ : ∃ x, l[k]? = some x := ⟨_, List.getElem?_eq_getElem (by omega)⟩
      obtain ⟨b0, o0, rfl, hlt0, hcells⟩ := row_cells vcells_len HVM.out hx (by decide)
      have hnb := HSEP.out b0 rfl
      have hbk := HF.out.block b0 hlt0 hnb
      obtain ⟨x1, ⟨x2, x3⟩, x4⟩ := x
      have c0 := hcells 0 (.int .i64 x1) rfl w' hbk
      rw [Nat.add_zero] at c0
      have c1 := hcells 1 (.int .i64 x2) rfl w' hbk
      have c2 := hcells 2 (.int .i64 x3) rfl w' hbk
      have c3 := hcells 3 (.string x4) rfl w' hbk
      have ik0 : (0 : Int) ≤ (k : Int) := by omega
      have ik1 : (k : Int) < (m : Int) := by omega
      obtain ⟨xb, hxb⟩ : ∃ xb, w'.heap.size = xb := ⟨_, rfl⟩
      obtain ⟨y1, hy1⟩ : ∃ y, w'.alloc (.cells #[.int .i64 x1, .int .i64 x2, .int .i64 x3, .string x4] 56) = y := ⟨_, rfl⟩
      have hb1 : y1.heap[xb]? = some (.cells #[.int .i64 x1, .int .i64 x2, .int .i64 x3, .string x4] 56 (0, 0)) := by rw [← hy1, ← hxb]; exact block_alloc _ _
      have hfa : Fr (fun _ => False) w' y1 := by rw [← hy1]; exact Fr.alloc _ _ _
      have hp1 := HPR.out.fr0 hfa
      obtain ⟨cur, hcur⟩ : ∃ cur, (l.take k).foldl (addV s.fr) s.vs = cur := ⟨_, rfl⟩
      have hnx : (l.take (k + 1)).foldl (addV s.fr) s.vs = addV s.fr cur (x1, (x2, x3), x4) := by rw [List.take_add_one, hx, List.foldl_append, hcur]; rfl
      obtain ⟨s2, hs2⟩ : ∃ s2 : PS, { seenS s b1 with ps := addS s.ps node, vs := cur } = s2 := ⟨_, rfl⟩
      have hvs2 : s2.vs = cur := by rw [← hs2]
      have hfs2 : s2.fr = s.fr := by rw [← hs2]; rfl
      have hks2 : s2.ks = s.ks := by rw [← hs2]; rfl
      rw [hcur, hs2] at hp1
      have hgo : ∀ wx (m' : Nat) (cur' : List Vt), m' ≤ n + (k + 1) → addV s.fr cur (x1, (x2, x3), x4) = cur' → Pr wx pb mo m' { s2 with vs := cur' } → Fr (fun k => k ∈ blocks pb mo s.ks) w wx → ∀ a', (∃ u, a' = proA pb node (.slice (some ⟨b0, o0, none⟩) m c9) (k + 1 : Nat) u) →
          (∃ (k : Nat), k ≤ l.length ∧ (∃ u, a' = proA pb node (.slice (some ⟨b0, o0, none⟩) m c9) k u) ∧ okB (seenS s b1) node (b1, b2) = true ∧ Pr wx pb mo (n + k) { seenS s b1 with ps := addS s.ps node, vs := (l.take k).foldl (addV s.fr) s.vs } ∧ Fr (fun k => k ∈ blocks pb mo s.ks) w wx) := by
        intro wx m' cur' hm' he hpr' hf' a' ha'
        refine ⟨k + 1, by omega, ha', HYES.out, ?_, hf'⟩
        rw [hnx, he]
        rw [← hs2] at hpr'
        exact hpr'.mono hm'
      have HGO := hide hgo
      have HVS2 := hide hvs2
      have HFS2 := hide hfs2
      have HP1 := hide hp1
      have HF1 := hide (HF.out.trans hfa (fun _ _ h => h.elim))
      have q0 : y1.cell? ⟨xb, 0, none⟩ = some (.int .i64 x1) := by rw [cell_of_block hb1]; rfl
      have q5 : y1.cell? ⟨pb, 5, none⟩ = some (.int .i64 s2.fr) := by rw [cell_of_block hp1.blk]; rfl
      have HB1 := hide hb1
      have HY1 := hide hy1
      have HXB := hide hxb
      obtain ⟨f, hf⟩ : ∃ f, s2.fr = f := ⟨_, rfl⟩
      have hff : s.fr = f := by rw [← hfs2]; exact hf
      rw [hf] at q5
      rw [hff] at hgo
      clear hcells hx hbk hb1 hy1 hxb hfa hp1 hnx hgo hvs2 hfs2
      unfold proA
      have hmu : 1 + (l.length - ((k : Int) + 1).toNat) < 1 + (l.length - ((k : Int)).toNat) := by have := HM.out; omega
      by_cases hr : x1 < f ∨ 512 ≤ x1
      · have hno : addV f cur (x1, (x2, x3), x4) = cur := by unfold addV; rw [if_pos hr]
        have hself : ({ s2 with vs := cur } : PS) = s2 := by rw [← HVS2.out]
        have hrr : decide (x1 < f) = true ∨ (decide (x1 < f) = false ∧ decide (512 ≤ x1) = true) := by
          by_cases h1 : x1 < f
          · exact .inl (by simpa using h1)
          · exact .inr ⟨by simpa using h1, by simpa using hr.resolve_left h1⟩
        have HNO := hide hno
        have HSELF := hide hself
        have HMU := hide hmu
        clear hno hself hr hmu
        rcases hrr with hd1 | ⟨hd1, hd2⟩
        all_goals
          go_wp2_with fail
          rw [HY1.out, HXB.out]
          go_quiet (fail)
          go_wp2_with fail
          go_step3
          refine ⟨HGO.out _ (n + k) cur (by omega) (by rw [hff]; exact HNO.out) (by rw [HSELF.out]; exact HP1.out.fr0 ((Fr.refl (fun _ => False) y1).drewN _)) (HF1.out.drewN _) _ (proA_mk _ _ _ _ _ rfl), HMU.out⟩
      · have hd1 : decide (x1 < f) = false := by simp; omega
        have hd2 : decide (512 ≤ x1) = false := by simp; omega
        have hx0 : 0 ≤ f := by rw [← hf]; exact HP1.out.fn
        have hkey : keyOf Try.prog 3 (.int .i64 x1) = some (.int .i64 x1) := keyOf_int_mk Try.underlying3 (WalkArith.wf_i64 (by omega))
        have hadd : addV f cur (x1, (x2, x3), x4) = if hadB cur (x1, (x2, x3), x4) then putV cur (x1, (x2, x3), x4) else cur := by unfold addV; rw [if_neg hr]
        obtain ⟨⟨pm, vb, kb⟩, rfl⟩ : ∃ q, mo = some q := by
          cases mo with
          | some q => exact ⟨q, rfl⟩
          | none =>
            exfalso
            have h0 : s.b = (0, 0) := HPR.out.nb rfl
            have h1 := HYES.out
            unfold okB at h1
            have e : (seenS s b1).b = (0, 0) := h0
            rw [e] at h1
            simp at h1
            omega
        have HADD := hide hadd
        have HMU := hide hmu
        have hxr : 0 ≤ x1 ∧ x1 < 512 := by omega
        clear hadd hmu hr
        cases hat : at_ cur x1 with
        | none =>
          have hh : hadB cur (x1, (x2, x3), x4) = true := by unfold hadB; simp only [hat]
          have hlook : ∀ wx, Fr (fun _ => False) y1 wx → (Instr.lookup 63 (.map (some vb)) (.int .i64 x1) true).run Try.prog wx = .ok (.tuple #[.agg #[.int .i64 0, .int .i64 0, .int .i64 0, .string ⟨#[]⟩], .bool false]) wx := fun wx hfx => by
            have hm2 : mapF wx Try.prog 3 vb (n + k) (vm cur) := by have := (HP1.out.fr0 hfx).maps.2.1; rwa [HVS2.out] at this
            rw [hm2.run_ok law Try.underlying63 (zeroV wx) hkey]
            simp [vm, hat]
          have HLOOK := hide hlook
          clear hlook
          go_wp2_with fail
          rw [HY1.out, HXB.out]
          go_quiet (fail)
          go_upto_region 9 with fail
          obtain ⟨y2, hy2⟩ : ∃ y2, y1.drewN nq = y2 := ⟨_, rfl⟩
          rw [hy2]
          have hf2 : Fr (fun _ => False) y1 y2 := by rw [← hy2]; exact (Fr.refl _ _).drewN _
          have hf3 := hf2.drew
          have hlook := HLOOK.out _ hf3
          have z0 : y2.drew.cell? ⟨xb, 0, none⟩ = some (.int .i64 x1) := by rw [cell_of_block ((hf3.block _ (lt_of_block HB1.out) id).trans HB1.out)]; rfl
          have z1 : y2.drew.cell? ⟨pb, 7, none⟩ = some (.map (some vb)) := by rw [cell_of_block (HP1.out.fr0 hf3).blk]; rfl
          obtain ⟨y3, hy3⟩ : ∃ y3, y2.alloc (.cells #[.int .i64 0, .int .i64 0, .int .i64 0, .string ⟨#[]⟩] 56) = y3 := ⟨_, rfl⟩
          have hf4 : Fr (fun _ => False) y1 y3.drew := by rw [← hy3]; exact (hf2.trans (Fr.alloc _ _ _) (fun _ _ h => h)).drew
          have hlook2 := HLOOK.out _ hf4
          have z2 : y3.drew.cell? ⟨xb, 0, none⟩ = some (.int .i64 x1) := by rw [cell_of_block ((hf4.block _ (lt_of_block HB1.out) id).trans HB1.out)]; rfl
          have z3 : y3.drew.cell? ⟨pb, 7, none⟩ = some (.map (some vb)) := by rw [cell_of_block (HP1.out.fr0 hf4).blk]; rfl
          rw [← hy3] at hlook2 z2 z3
          have HY3 := hide hy3
          clear hy2 hy3
          have hh2 : addV f cur (x1, (x2, x3), x4) = putV cur (x1, (x2, x3), x4) := by rw [HADD.out, if_pos hh]
          have HH := hide hh2
          clear hh hh2
          go_region_law (fail)
          all_goals
            rw [HY3.out]
            have hf4' := hf4
            obtain ⟨y4, hy4⟩ : ∃ y4, y3.drew = y4 := ⟨_, rfl⟩
            rw [hy4] at hf4' ⊢
            have HP4 := hide (HP1.out.fr0 hf4')
            have HF4 := hide (HF1.out.trans hf4' (fun _ _ h => h.elim))
            have hbx := ((hf4'.drew).block _ (lt_of_block HB1.out) id).trans HB1.out
            have d0 : y4.drew.cell? ⟨xb, 0, none⟩ = some (.int .i64 x1) := by rw [cell_of_block hbx]; rfl
            have d1 : y4.drew.cell? ⟨xb, 1, none⟩ = some (.int .i64 x2) := by rw [cell_of_block hbx]; rfl
            have d2 : y4.drew.cell? ⟨xb, 2, none⟩ = some (.int .i64 x3) := by rw [cell_of_block hbx]; rfl
            have d3 : y4.drew.cell? ⟨xb, 3, none⟩ = some (.string x4) := by rw [cell_of_block hbx]; rfl
            have d4 : y4.drew.cell? ⟨pb, 7, none⟩ = some (.map (some vb)) := by rw [cell_of_block HP4.out.drew.blk]; rfl
            clear hy4 hbx z0 z1 z2 z3 hlook hlook2 hf4 hf4' hf2 hf3
            go_upto_region 11 with fail

            have hm5 : mapF y4.drew Try.prog 3 vb (n + k) (vm cur) := by have := HP4.out.drew.maps.2.1; rwa [HVS2.out] at this
            obtain ⟨w5, hrun, hm5, ht5⟩ := hm5.store law Try.underlying63 (by unfold maxLen; omega) (.agg #[.int .i64 x1, .int .i64 x2, .int .i64 x3, .string x4]) hkey
            have HM5 := hide hm5
            have HT5 := hide ht5
            clear hm5 ht5
            go_region_law (fail)
            all_goals
              go_wp2_with fail
              go_step3
              refine ⟨HGO.out w5 (n + k + 1) (putV cur (x1, (x2, x3), x4)) (by omega) (by rw [hff]; exact HH.out) (HP4.out.drew.vote HVS2.out x1 x2 x3 x4 hxr HM5.out HT5.out) (HF4.out.drew.trans (Fr.turned (S := fun k => k ∈ blocks pb (some (pm, vb, kb)) s.ks) HT5.out (by simp [blocks, mo3])) (fun _ _ h => h)) _ (proA_mk _ _ _ _ _ rfl), HMU.out⟩
        | some y0 =>
          obtain ⟨s0, ⟨r0, n0⟩, v0⟩ := y0
          have hlook : ∀ wx, Fr (fun _ => False) y1 wx → (Instr.lookup 63 (.map (some vb)) (.int .i64 x1) true).run Try.prog wx = .ok (.tuple #[.agg #[.int .i64 s0, .int .i64 r0, .int .i64 n0, .string v0], .bool true]) wx := fun wx hfx => by
            have hm2 : mapF wx Try.prog 3 vb (n + k) (vm cur) := by have := (HP1.out.fr0 hfx).maps.2.1; rwa [HVS2.out] at this
            rw [hm2.run_ok law Try.underlying63 (zeroV wx) hkey]
            simp [vm, hat, vval, vcells]
          have hh : hadB cur (x1, (x2, x3), x4) = less (r0, n0) (x2, x3) := by unfold hadB; simp only [hat]
          have HH0 := hide hh
          have HLOOK := hide hlook
          clear hlook hh
          go_wp2_with fail
          rw [HY1.out, HXB.out]
          go_quiet (fail)
          go_upto_region 9 with fail
          obtain ⟨y2, hy2⟩ : ∃ y2, y1.drewN nq = y2 := ⟨_, rfl⟩
          rw [hy2]
          have hf2 : Fr (fun _ => False) y1 y2 := by rw [← hy2]; exact (Fr.refl _ _).drewN _
          have hf3 := hf2.drew
          have hlook := HLOOK.out _ hf3
          have z0 : y2.drew.cell? ⟨xb, 0, none⟩ = some (.int .i64 x1) := by rw [cell_of_block ((hf3.block _ (lt_of_block HB1.out) id).trans HB1.out)]; rfl
          have z1 : y2.drew.cell? ⟨pb, 7, none⟩ = some (.map (some vb)) := by rw [cell_of_block (HP1.out.fr0 hf3).blk]; rfl
          obtain ⟨y3, hy3⟩ : ∃ y3, y2.alloc (.cells #[.int .i64 0, .int .i64 0, .int .i64 0, .string ⟨#[]⟩] 56) = y3 := ⟨_, rfl⟩
          have hf4 : Fr (fun _ => False) y1 y3.drew := by rw [← hy3]; exact (hf2.trans (Fr.alloc _ _ _) (fun _ _ h => h)).drew
          have hlook2 := HLOOK.out _ hf4
          have z2 : y3.drew.cell? ⟨xb, 0, none⟩ = some (.int .i64 x1) := by rw [cell_of_block ((hf4.block _ (lt_of_block HB1.out) id).trans HB1.out)]; rfl
          have z3 : y3.drew.cell? ⟨pb, 7, none⟩ = some (.map (some vb)) := by rw [cell_of_block (HP1.out.fr0 hf4).blk]; rfl
          rw [← hy3] at hlook2 z2 z3
          clear hf4 hy3
          obtain ⟨y4, hy4⟩ : ∃ y4, (y2.alloc (.cells #[.int .i64 s0, .int .i64 r0, .int .i64 n0, .string v0] 56)).drew = y4 := ⟨_, rfl⟩
          obtain ⟨hb, hhb⟩ : ∃ hb, y2.heap.size = hb := ⟨_, rfl⟩
          have hb4 : y4.heap[hb]? = some (.cells #[.int .i64 s0, .int .i64 r0, .int .i64 n0, .string v0] 56 (0, 0)) := by rw [← hy4, ← hhb]; exact block_alloc _ _
          have hf4 : Fr (fun _ => False) y1 y4 := by rw [← hy4]; exact (hf2.trans (Fr.alloc _ _ _) (fun _ _ h => h)).drew
          have HB4 := hide hb4
          have HF14 := hide hf4
          have HY4 := hide hy4
          have HHB := hide hhb
          clear hy2 hy4 hb4 hf4 hhb hf2 hf3
          go_region_law (fail)
          all_goals
            rw [HY4.out, HHB.out]
            have HP4 := hide (HP1.out.fr0 HF14.out)
            have HF4 := hide (HF1.out.trans HF14.out (fun _ _ h => h.elim))
            have hbx := (HF14.out.block _ (lt_of_block HB1.out) id).trans HB1.out
            have d1 : y4.cell? ⟨xb, 1, none⟩ = some (.int .i64 x2) := by rw [cell_of_block hbx]; rfl
            have d2 : y4.cell? ⟨xb, 2, none⟩ = some (.int .i64 x3) := by rw [cell_of_block hbx]; rfl
            have d3 : y4.cell? ⟨hb, 1, none⟩ = some (.int .i64 r0) := by rw [cell_of_block HB4.out]; rfl
            have d4 : y4.cell? ⟨hb, 2, none⟩ = some (.int .i64 n0) := by rw [cell_of_block HB4.out]; rfl
            have hls := less_any y4 (r0, n0) (x2, x3)
            have HLS := hide (show Calls Try.prog 26 #[.agg #[.int .i64 r0, .int .i64 n0], .agg #[.int .i64 x2, .int .i64 x3]] y4 _ from hls)
            clear hbx z0 z1 z2 z3 hlook hlook2 hls
            go_wp2_with fail
            refine HLS.out.mono ?_
            rintro e y5 ⟨rfl, hf5⟩
            have HP5 := hide (HP4.out.fr0 hf5)
            have HF5 := hide (HF4.out.trans hf5 (fun _ _ h => h.elim))
            cases hq : less (r0, n0) (x2, x3) with
            | true =>
              have hh2 : addV f cur (x1, (x2, x3), x4) = putV cur (x1, (x2, x3), x4) := by rw [HADD.out, HH0.out, hq]; rfl
              have HH := hide hh2
              have hbx := ((hf5.drew).block _ (lt_of_block ((HF14.out.block _ (lt_of_block HB1.out) id).trans HB1.out)) id).trans ((HF14.out.block _ (lt_of_block HB1.out) id).trans HB1.out)
              have t0 : y5.drew.cell? ⟨xb, 0, none⟩ = some (.int .i64 x1) := by rw [cell_of_block hbx]; rfl
              have t1 : y5.drew.cell? ⟨xb, 1, none⟩ = some (.int .i64 x2) := by rw [cell_of_block hbx]; rfl
              have t2 : y5.drew.cell? ⟨xb, 2, none⟩ = some (.int .i64 x3) := by rw [cell_of_block hbx]; rfl
              have t3 : y5.drew.cell? ⟨xb, 3, none⟩ = some (.string x4) := by rw [cell_of_block hbx]; rfl
              have t4 : y5.drew.cell? ⟨pb, 7, none⟩ = some (.map (some vb)) := by rw [cell_of_block HP5.out.drew.blk]; rfl
              clear hh2 hbx d1 d2 d3 d4 hf5 hq
              go_upto_region 11 with fail
              have hm5 : mapF y5.drew Try.prog 3 vb (n + k) (vm cur) := by have := HP5.out.drew.maps.2.1; rwa [HVS2.out] at this
              obtain ⟨w5, hrun, hm5, ht5⟩ := hm5.store law Try.underlying63 (by unfold maxLen; omega) (.agg #[.int .i64 x1, .int .i64 x2, .int .i64 x3, .string x4]) hkey
              have HM5 := hide hm5
              have HT5 := hide ht5
              clear hm5 ht5
              go_region_law (fail)
              all_goals
                go_wp2_with fail
                go_step3
                refine ⟨HGO.out w5 (n + k + 1) (putV cur (x1, (x2, x3), x4)) (by omega) (by rw [hff]; exact HH.out) (HP5.out.drew.vote HVS2.out x1 x2 x3 x4 hxr HM5.out HT5.out) (HF5.out.drew.trans (Fr.turned (S := fun k => k ∈ blocks pb (some (pm, vb, kb)) s.ks) HT5.out (by simp [blocks, mo3])) (fun _ _ h => h)) _ (proA_mk _ _ _ _ _ rfl), HMU.out⟩
            | false =>
              have hno : addV f cur (x1, (x2, x3), x4) = cur := by rw [HADD.out, HH0.out, hq]; rfl
              have hself : ({ s2 with vs := cur } : PS) = s2 := by rw [← HVS2.out]
              have HNO := hide hno
              have HSELF := hide hself
              clear hno hself d1 d2 d3 d4 hf5 hq
              go_wp2_with fail
              go_step3
              refine ⟨HGO.out _ (n + k) cur (by omega) (by rw [hff]; exact HNO.out) (by rw [HSELF.out]; exact HP5.out) HF5.out _ (proA_mk _ _ _ _ _ rfl), HMU.out⟩
    · have ik1 : ¬ (k : Int) < (m : Int) := by omega
      have hkm : l.take k = l := List.take_of_length_le (by omega)
      have hkn2 : k = l.length := by omega
      have hprs : promS s node (b1, b2) l = { seenS s b1 with ps := addS s.ps node, vs := l.foldl (addV s.fr) s.vs } := by unfold promS; rw [if_pos HYES.out]
      have hfin := HPR.out
      rw [hkm, ← hprs] at hfin
      have HFIN := hide (hfin.mono (m := n + m) (by omega))
      clear hkm hprs hfin
      unfold proA
      go_wp2_with fail
      go_step3
      go_wp2_with fail
      simp only [Exit.jumps]
      refine bodyPost_end (results_none Try.results17 _ _ _) rfl ?_
      rw [HM.out]
      exact ⟨rfl, HFIN.out, HF.out⟩
  · intro hrest
    rw [HY.out]
    go_wp2_with fail
    refine HSEEN.out.mono ?_
    rintro e w1 ⟨rfl, h1, hf1⟩
    have h1b := h1.blk
    obtain ⟨s1, hs1⟩ : ∃ s1, seenS s b1 = s1 := ⟨_, rfl⟩
    have hsb : s1.b = s.b := by rw [← hs1]; rfl
    have hsp : s1.ps = s.ps := by rw [← hs1]; rfl
    rw [hs1] at h1
    obtain ⟨⟨p1, p2⟩, hp⟩ : ∃ p, s1.b = p := ⟨_, rfl⟩
    have hby1 := (hf1.block _ (lt_of_block HBY.out) (by omega)).trans HBY.out
    have e0 : w1.cell? ⟨w.heap.size, 0, none⟩ = some (.int .i64 b1) := by rw [cell_of_block hby1]; rfl
    have e1 : w1.cell? ⟨w.heap.size, 1, none⟩ = some (.int .i64 b2) := by rw [cell_of_block hby1]; rfl
    have e3 : w1.cell? ⟨pb, 3, none⟩ = some (.int .i64 p1) := by rw [cell_of_block h1.blk, hp]; rfl
    have e4 : w1.cell? ⟨pb, 4, none⟩ = some (.int .i64 p2) := by rw [cell_of_block h1.blk, hp]; rfl
    have e6 : w1.cell? ⟨pb, 6, none⟩ = some (.map (mo.map (·.1))) := by rw [cell_of_block h1.blk]; rfl
    generalize hmq : mo.map (·.1) = mq at e6
    have hneq : ∀ wx, (binOp .neq 29 (.agg #[.int .i64 b1, .int .i64 b2]) (.agg #[.int .i64 p1, .int .i64 p2])).run Try.prog wx = .ok (.bool (!(b1 == p1 && b2 == p2))) wx := fun wx => run_neqB wx _ _ _ _
    have heq : ∀ wx, (binOp .eql 29 (.agg #[.int .i64 b1, .int .i64 b2]) (.agg #[.int .i64 0, .int .i64 0])).run Try.prog wx = .ok (.bool (b1 == 0 && b2 == 0)) wx := fun wx => run_eqB wx _ _ _ _
    have hnode : ∀ wx, Fr (fun _ => False) w1 wx → Calls Try.prog 27 #[.pointer (some ⟨pb, 0, none⟩), .int .i64 node] wx fun e w' => e = .returned (.bool (decide (0 ≤ node) && decide (node < s1.nodes))) ∧ w' = wx := fun wx hf => node_any wx pb mo n s1 (h1.fr0 hf) node
    have hok : okB s1 node (b1, b2) = (!(!(b1 == p1 && b2 == p2)) && !(b1 == 0 && b2 == 0) && (decide (0 ≤ node) && decide (node < s1.nodes)) && !decide (node ∈ s1.ps)) := by unfold okB; rw [hp]
    have hms : ∀ wx, Fr (fun _ => False) w1 wx → Pr wx pb mo n s1 := fun wx hf => h1.fr0 hf
    have hcs : ∀ wx, Fr (fun _ => False) w1 wx → wx.cell? ⟨w.heap.size, 0, none⟩ = some (.int .i64 b1) ∧ wx.cell? ⟨w.heap.size, 1, none⟩ = some (.int .i64 b2) ∧ wx.cell? ⟨pb, 3, none⟩ = some (.int .i64 p1) ∧ wx.cell? ⟨pb, 4, none⟩ = some (.int .i64 p2) ∧ wx.cell? ⟨pb, 6, none⟩ = some (.map mq) := fun wx hf => by
      have e1' := (hf.block _ (lt_of_block hby1) id).trans hby1
      have e2' := (hms wx hf).blk
      exact ⟨by rw [cell_of_block e1']; rfl, by rw [cell_of_block e1']; rfl, by rw [cell_of_block e2', hp]; rfl, by rw [cell_of_block e2', hp]; rfl, by rw [cell_of_block e2', ← hmq]; rfl⟩
    have hF1 : Fr (fun k => k ∈ blocks pb mo s.ks) w w1 := (HFY.out.mono (S' := fun k => k ∈ blocks pb mo s.ks) (fun _ _ h => h.elim)).trans (hf1.mono (S' := fun k => k ∈ blocks pb mo s.ks) (fun k _ hk => by subst hk; exact List.mem_cons_self)) (fun _ _ h => h)
    have hF1 : Fr (fun k => k ∈ blocks pb mo s.ks) w w1 := hF1
    have hfj : okB s1 node (b1, b2) = false → ∀ wx, Fr (fun _ => False) w1 wx → Pr wx pb mo (n + l.length) (promS s node (b1, b2) l) ∧ Fr (fun k => k ∈ blocks pb mo s.ks) w wx := fun hno wx hf => by
      have e : promS s node (b1, b2) l = s1 := by unfold promS; rw [hs1, hno]; rfl
      rw [e]
      exact ⟨(hms wx hf).mono (by omega), hF1.trans hf (fun _ _ h => h.elim)⟩
    have HFJ := hide hfj
    have HMS := hide hms
    have HCS := hide hcs
    have HF1 := hide hF1
    have HNODE := hide hnode
    have HOK := hide hok
    have HS1 := hide hs1
    have HP := hide hp
    have HSP := hide hsp
    have HMQ := hide hmq
    have HSB := hide hsb
    have W0 := hide ((Fr.refl (fun _ => False) w1).drew)
    have h1n := h1.nn
    clear hms hcs hF1 hnode hok h1 h1b hf1 hby1 hsp hmq hfj
    by_cases k1 : (b1 == p1 && b2 == p2) = true
    · rw [k1] at hneq
      have hneq' : ∀ wx, (binOp .neq 29 (.agg #[.int .i64 b1, .int .i64 b2]) (.agg #[.int .i64 p1, .int .i64 p2])).run Try.prog wx = .ok (.bool false) wx := hneq
      clear hneq
      by_cases k2 : (b1 == 0 && b2 == 0) = true
      · rw [k2] at heq
        have hno : okB s1 node (b1, b2) = false := by rw [HOK.out, k1, k2]; rfl
        have hj := HFJ.out hno
        have HJ := hide hj
        clear hno hj k1 k2 hs1 hp hsb
        go_wp2_with fail
        obtain ⟨f0, f1, f2, f3, f4⟩ := HCS.out _ W0.out
        first
          | go_region_with (fail)
          | fail
        all_goals
          go_wp2_with fail
          go_step3
          exact ⟨rfl, HJ.out _ W0.out⟩
      · have k2' : (b1 == 0 && b2 == 0) = false := by simpa using k2
        rw [k2'] at heq
        by_cases k3 : (decide (0 ≤ node) && decide (node < s1.nodes)) = true
        · have hn3 : 0 ≤ node ∧ node < s1.nodes := by simpa using k3
          obtain ⟨⟨pm, vb, kb⟩, rfl⟩ : ∃ m, mo = some m := by
            cases mo with
            | some m => exact ⟨m, rfl⟩
            | none =>
              exfalso
              have h0 := (HMS.out _ W0.out).nb rfl
              rw [hp] at h0
              simp only [Prod.mk.injEq] at h0
              obtain ⟨rfl, rfl⟩ := h0
              exact k2 k1
          obtain rfl : some pm = mq := HMQ.out
          have hnd : ∀ wx, Fr (fun _ => False) w1 wx → Calls Try.prog 27 #[.pointer (some ⟨pb, 0, none⟩), .int .i64 node] wx fun e w' => e = .returned (.bool true) ∧ w' = wx := fun wx hf => by
            have := HNODE.out wx hf; rwa [k3] at this
          have hkey : keyOf Try.prog 3 (.int .i64 node) = some (.int .i64 node) := keyOf_int_mk Try.underlying3 (WalkArith.wf_i64 (by omega))
          have HND := hide hnd
          clear hnd
          by_cases k4 : node ∈ s1.ps
          · have hno : okB s1 node (b1, b2) = false := by rw [HOK.out, k1, k2', k3]; simp [k4]
            have hj := HFJ.out hno
            have hlk : ∀ wx, Fr (fun _ => False) w1 wx → (Instr.lookup 62 (.map (some pm)) (.int .i64 node) false).run Try.prog wx = .ok (.int .i64 1) wx := fun wx hf => by
              have hm : mapN wx Try.prog 3 pm s1.ps.length (setF s1.ps) := (HMS.out wx hf).maps.1
              have hz : (zeroValue 3).run Try.prog wx = .ok (.int .i64 0) wx := by kernel_rfl
              rw [hm.toF.run law Try.underlying62 hz hkey]
              simp [setF, k4]
            have HJ := hide hj
            have HLK := hide hlk
            clear hno hj k1 k2 hs1 hp hsb k3 hlk k4 k2'
            go_wp2_with fail
            have hlk := HLK.out _ W0.out
            obtain ⟨f0, f1, f2, f3, f4⟩ := HCS.out _ W0.out
            go_region_held3 (fun w' => w'.cell? ⟨w.heap.size, 0, none⟩ = some (.int .i64 b1) ∧ w'.cell? ⟨w.heap.size, 1, none⟩ = some (.int .i64 b2) ∧ w'.cell? ⟨pb, 3, none⟩ = some (.int .i64 p1) ∧ w'.cell? ⟨pb, 4, none⟩ = some (.int .i64 p2) ∧ w'.cell? ⟨pb, 6, none⟩ = some (.map (some pm)) ∧ (Instr.lookup 62 (.map (some pm)) (.int .i64 node) false).run Try.prog w' = .ok (.int .i64 1) w')
              (go_keep)
              ((go_at_call 27; refine (HND.out _ W0.out).mono ?_; rintro e w' ⟨rfl, rfl⟩))
            all_goals
              go_wp2_with fail
              go_step3
              exact ⟨rfl, HJ.out _ W0.out⟩
          · have hyes : okB s1 node (b1, b2) = true := by rw [HOK.out, k1, k2', k3]; simp [k4]
            have hlk : ∀ wx, Fr (fun _ => False) w1 wx → (Instr.lookup 62 (.map (some pm)) (.int .i64 node) false).run Try.prog wx = .ok (.int .i64 0) wx := fun wx hf => by
              have hm : mapN wx Try.prog 3 pm s1.ps.length (setF s1.ps) := (HMS.out wx hf).maps.1
              have hz : (zeroValue 3).run Try.prog wx = .ok (.int .i64 0) wx := by kernel_rfl
              rw [hm.toF.run law Try.underlying62 hz hkey]
              simp [setF, k4]
            have HLK := hide hlk
            have HYES := hide hyes
            have HN4 := hide k4
            clear hyes k1 k2 hs1 hp hsb k3 hlk k4 k2'
            go_wp2_with fail
            have hlk := HLK.out _ W0.out
            obtain ⟨f0, f1, f2, f3, f4⟩ := HCS.out _ W0.out
            go_region_held3 (fun w' => w'.cell? ⟨w.heap.size, 0, none⟩ = some (.int .i64 b1) ∧ w'.cell? ⟨w.heap.size, 1, none⟩ = some (.int .i64 b2) ∧ w'.cell? ⟨pb, 3, none⟩ = some (.int .i64 p1) ∧ w'.cell? ⟨pb, 4, none⟩ = some (.int .i64 p2) ∧ w'.cell? ⟨pb, 6, none⟩ = some (.map (some pm)) ∧ (Instr.lookup 62 (.map (some pm)) (.int .i64 node) false).run Try.prog w' = .ok (.int .i64 0) w')
              (go_keep)
              ((go_at_call 27; refine (HND.out _ W0.out).mono ?_; rintro e w' ⟨rfl, rfl⟩))
            all_goals
              have hpr := HMS.out _ W0.out
              have hm : mapN w1.drew Try.prog 3 pm s1.ps.length (setF s1.ps) := hpr.maps.1
              have hl5 : s1.ps.length < maxLen := by have := hpr.led5; unfold maxLen; omega
              have HPR := hide hpr
              clear hpr
              go_wp2_with (at_mapUpdate; refine wpList_store_mn _ rfl _ _ _ 62 rfl 3 3 law Try.underlying62 pm s1.ps rfl hm hl5 node rfl rfl hkey ?_; intro w2 hm2 ht2)
              go_step3
              rename_i K hK
              have hn4 := HN4.out
              have hadd : addS s1.ps node = addS s.ps node := by rw [HSP.out]
              have h3 := HPR.out
              obtain ⟨⟨g1, g2, g3, g4, g5, g6⟩, _⟩ := blk_ne h3.nd
              have hfr := ht2.grown
              have hge : ∀ k, k < w1.drew.heap.size → k ≠ pm → w2.heap[k]? = w1.drew.heap[k]? := fun k hk hne => hfr.block k hk (fun e => hne (by cases e; rfl))
              have hpr2 := h3.turn (w' := w2) (m := n) (.inl rfl) hge (addS s1.ps node) s1.vs hm2 (h3.maps.2.1.of_block (hge _ h3.maps.2.1.lt (by omega))) (h3.maps.2.2.of_block (hge _ h3.maps.2.2.lt (by omega))) h3.st h3.sl
                ⟨addS_nodup h3.pn.1 _, fun i hi => (mem_addS.1 hi).elim (h3.pn.2 i) (fun e => e ▸ hn3)⟩
              refine hK _ _ (hrest _ _ ⟨0, Nat.zero_le _, proA_mk _ _ _ _ _ rfl, by rw [HS1.out]; exact HYES.out, ?_, ?_⟩)
              · have hvs : s1.vs = s.vs := by rw [← HS1.out]; rfl
                rw [hadd, hvs] at hpr2
                rw [HS1.out]
                exact hpr2
              · exact (HF1.out.drew).trans (Fr.turned (S := fun k => k ∈ blocks pb (some (pm, vb, kb)) s.ks) ht2 (by simp [blocks, mo3])) (fun _ _ h => h)
        · have k3' : (decide (0 ≤ node) && decide (node < s1.nodes)) = false := by simpa using k3
          have hno : okB s1 node (b1, b2) = false := by rw [HOK.out, k1, k2', k3']; rfl
          have hj := HFJ.out hno
          have hnd : ∀ wx, Fr (fun _ => False) w1 wx → Calls Try.prog 27 #[.pointer (some ⟨pb, 0, none⟩), .int .i64 node] wx fun e w' => e = .returned (.bool false) ∧ w' = wx := fun wx hf => by
            have := HNODE.out wx hf; rwa [k3'] at this
          have HND := hide hnd
          have HJ := hide hj
          clear hno hj k1 k2 hs1 hp hsb k2' k3 k3' hnd
          go_wp2_with fail
          obtain ⟨f0, f1, f2, f3, f4⟩ := HCS.out _ W0.out
          first
            | go_region_with ((go_at_call 27; refine (HND.out _ W0.out).mono ?_; rintro e w' ⟨rfl, rfl⟩))
            | fail
          all_goals
            go_wp2_with fail
            go_step3
            exact ⟨rfl, HJ.out _ W0.out⟩
    · have k1' : (b1 == p1 && b2 == p2) = false := by simpa using k1
      rw [k1'] at hneq
      clear k1 heq
      have hneq' : ∀ wx, (binOp .neq 29 (.agg #[.int .i64 b1, .int .i64 b2]) (.agg #[.int .i64 p1, .int .i64 p2])).run Try.prog wx = .ok (.bool true) wx := hneq
      have hno : okB s1 node (b1, b2) = false := by rw [HOK.out, k1']; rfl
      have hj := HFJ.out hno
      have HJ := hide hj
      clear hneq hs1 hno hj hp hsb k1'
      go_wp2_with fail
      obtain ⟨f0, f1, f2, f3, f4⟩ := HCS.out _ W0.out
      first
        | go_region_with (fail)
        | fail
      all_goals
        go_wp2_with fail
        go_step3
        exact ⟨rfl, HJ.out _ W0.out⟩
end Go.Proofs.Ytkefffcfiedkeaa
