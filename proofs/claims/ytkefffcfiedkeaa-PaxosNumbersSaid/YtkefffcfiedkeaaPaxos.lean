/- The proposer of paxos: what it is, and its short methods. -/
import Derived.Test.YtkefffcfiedkeaaBallot
import Derived.Test.YtkefffcfiedkeaaMapN
namespace Go.Proofs.Ytkefffcfiedkeaa
open Go.RowKit Go.Maps Go.Cv
set_option linter.unusedVariables false

/-- A pick: its slot, its block, its map's block, its value, who accepted. -/
structure Pk where
  slot : Int
  pb : Nat
  nb : Nat
  v : ByteArray
  ns : List Int
def pkAt (ks : List Pk) (s : Int) : Option Pk := ks.find? (fun x => decide (x.slot = s))
def pkF (ks : List Pk) : Lit → Option Value
  | .int .i64 i => (pkAt ks i).map (fun x => .pointer (some ⟨x.pb, 0, none⟩))
  | _ => none
/-- A proposer's state. -/
structure PS where
  me : Int
  nodes : Int
  round : Int
  b : Bt
  fr : Int
  ps : List Int
  vs : List Vt
  ks : List Pk
/-- The three maps' blocks, if it has begun. -/
abbrev Mo := Option (Nat × Nat × Nat)
def Maps3 (w : World) (n : Nat) (ps : List Int) (vs : List Vt) (ks : List Pk) : Mo → Prop
  | none => ps = [] ∧ vs = [] ∧ ks = []
  | some (a, b, c) => mapN w Try.prog 3 a ps.length (setF ps) ∧ mapF w Try.prog 3 b n (vm vs) ∧ mapF w Try.prog 3 c n (pkF ks)
def mo3 : Mo → List Nat
  | none => []
  | some (a, b, c) => [a, b, c]
def blocks (pb : Nat) (mo : Mo) (ks : List Pk) : List Nat := pb :: (mo3 mo ++ ks.flatMap (fun x => [x.pb, x.nb]))
structure Pr (w : World) (pb : Nat) (mo : Mo) (n : Nat) (s : PS) : Prop where
  blk : w.heap[pb]? = some (.cells #[.int .i64 s.me, .int .i64 s.nodes, .int .i64 s.round, .int .i64 s.b.1, .int .i64 s.b.2, .int .i64 s.fr, .map (mo.map (·.1)), .map (mo.map (·.2.1)), .map (mo.map (·.2.2))] 66 (0, 0))
  maps : Maps3 w n s.ps s.vs s.ks mo
  nd : (blocks pb mo s.ks).Nodup
  picks : ∀ x ∈ s.ks, w.heap[x.pb]? = some (.cells #[.string x.v, .map (some x.nb)] 74 (0, 0)) ∧ mapN w Try.prog 3 x.nb x.ns.length (setF x.ns) ∧ x.ns.Nodup ∧ ∀ i ∈ x.ns, 0 ≤ i ∧ i < s.nodes
  st : Sorted s.vs
  sl : ∀ x ∈ s.vs, 0 ≤ x.1 ∧ x.1 < 512
  pn : s.ps.Nodup ∧ ∀ i ∈ s.ps, 0 ≤ i ∧ i < s.nodes
  nn : 1 ≤ s.nodes ∧ s.nodes ≤ 5
  mn : 0 ≤ s.me ∧ s.me < s.nodes
  rn : 0 ≤ s.round ∧ s.round ≤ 9223372036854775807
  fn : 0 ≤ s.fr
  nb : mo = none → s.b = (0, 0)

theorem Pr.lt {w : World} {pb : Nat} {mo : Mo} {n : Nat} {s : PS} (h : Pr w pb mo n s) : ∀ k ∈ blocks pb mo s.ks, k < w.heap.size := by
  intro k hk
  rcases List.mem_cons.1 hk with rfl | hk
  · exact lt_of_block h.blk
  · rcases List.mem_append.1 hk with hk | hk
    · have := h.maps
      match mo, this, hk with
      | some (a, b, c), this, hk =>
        simp only [mo3, List.mem_cons, List.not_mem_nil, or_false] at hk
        obtain ⟨h1, h2, h3⟩ := this
        rcases hk with rfl | rfl | rfl
        · exact h1.lt
        · exact h2.lt
        · exact h3.lt
    · obtain ⟨x, hx, hk⟩ := List.mem_flatMap.1 hk
      simp only [List.mem_cons, List.not_mem_nil, or_false] at hk
      obtain ⟨h1, h2, _⟩ := h.picks x hx
      rcases hk with rfl | rfl
      · exact lt_of_block h1
      · exact h2.lt
theorem Maps3.heap {w w' : World} {n : Nat} {ps : List Int} {vs : List Vt} {ks : List Pk} {mo : Mo} (h : Maps3 w n ps vs ks mo) (g : ∀ k ∈ mo3 mo, w'.heap[k]? = w.heap[k]?) : Maps3 w' n ps vs ks mo := by
  match mo, h, g with
  | none, h, _ => exact h
  | some (a, b, c), h, g => exact ⟨h.1.of_block (g a (by simp [mo3])), h.2.1.of_block (g b (by simp [mo3])), h.2.2.of_block (g c (by simp [mo3]))⟩
theorem Pr.heap {w w' : World} {pb : Nat} {mo : Mo} {n : Nat} {s : PS} (h : Pr w pb mo n s) (g : ∀ k ∈ blocks pb mo s.ks, w'.heap[k]? = w.heap[k]?) : Pr w' pb mo n s where
  blk := (g pb List.mem_cons_self).trans h.blk
  maps := h.maps.heap (fun k hk => g k (List.mem_cons_of_mem _ (List.mem_append_left _ hk)))
  nd := h.nd
  picks x hx := by
    obtain ⟨h1, h2, h3⟩ := h.picks x hx
    have hm : ∀ k ∈ [x.pb, x.nb], k ∈ blocks pb mo s.ks := fun k hk => List.mem_cons_of_mem _ (List.mem_append_right _ (List.mem_flatMap.2 ⟨x, hx, hk⟩))
    exact ⟨(g _ (hm _ (by simp))).trans h1, h2.of_block (g _ (hm _ (by simp))), h3⟩
  st := h.st
  sl := h.sl
  pn := h.pn
  nn := h.nn
  mn := h.mn
  rn := h.rn
  fn := h.fn
  nb := h.nb
theorem Pr.fr {w w' : World} {pb : Nat} {mo : Mo} {n : Nat} {s : PS} (h : Pr w pb mo n s) {S : Nat → Prop} (g : Fr S w w') (hS : ∀ k ∈ blocks pb mo s.ks, ¬ S k) : Pr w' pb mo n s :=
  h.heap (fun k hk => g.block k (h.lt k hk) (hS k hk))
theorem Pr.fr0 {w w' : World} {pb : Nat} {mo : Mo} {n : Nat} {s : PS} (h : Pr w pb mo n s) (g : Fr (fun _ => False) w w') : Pr w' pb mo n s := h.fr g (fun _ _ => id)
theorem Pr.led5 {w : World} {pb : Nat} {mo : Mo} {n : Nat} {s : PS} (h : Pr w pb mo n s) : s.ps.length ≤ 5 :=
  nodup_len 5 s.ps h.pn.1 (fun x hx => by have := h.pn.2 x hx; have := h.nn; exact ⟨by omega, by show x < 5; omega⟩)

theorem Pr.scalars {w w' : World} {pb : Nat} {mo : Mo} {n : Nat} {s : PS} (h : Pr w pb mo n s) (r : Int) (b : Bt) (f : Int) (hr : 0 ≤ r ∧ r ≤ 9223372036854775807) (hf : 0 ≤ f) (hnb : mo = none → b = (0, 0))
    (g : ∀ k, k < w.heap.size → k ≠ pb → w'.heap[k]? = w.heap[k]?)
    (hb : w'.heap[pb]? = some (.cells #[.int .i64 s.me, .int .i64 s.nodes, .int .i64 r, .int .i64 b.1, .int .i64 b.2, .int .i64 f, .map (mo.map (·.1)), .map (mo.map (·.2.1)), .map (mo.map (·.2.2))] 66 (0, 0))) :
    Pr w' pb mo n { s with round := r, b := b, fr := f } := by
  have hnd := List.nodup_cons.1 h.nd
  have hg : ∀ k ∈ mo3 mo ++ s.ks.flatMap (fun x => [x.pb, x.nb]), w'.heap[k]? = w.heap[k]? := fun k hk => g k (h.lt k (List.mem_cons_of_mem _ hk)) (fun e => hnd.1 (e ▸ hk))
  refine ⟨hb, h.maps.heap (fun k hk => hg k (List.mem_append_left _ hk)), h.nd, fun x hx => ?_, h.st, h.sl, h.pn, h.nn, h.mn, hr, hf, hnb⟩
  obtain ⟨h1, h2, h3⟩ := h.picks x hx
  have hm : ∀ k ∈ [x.pb, x.nb], k ∈ mo3 mo ++ s.ks.flatMap (fun x => [x.pb, x.nb]) := fun k hk => List.mem_append_right _ (List.mem_flatMap.2 ⟨x, hx, hk⟩)
  exact ⟨(hg _ (hm _ (by simp))).trans h1, h2.of_block (hg _ (hm _ (by simp))), h3⟩

def ps0 (me nodes : Int) : PS := ⟨me, nodes, 0, (0, 0), 0, [], [], []⟩

set_option maxRecDepth 100000 in
theorem new_ok (w : World) (me nodes : Int) (h1 : 1 ≤ nodes) (h2 : nodes ≤ 5) (h3 : 0 ≤ me) (h4 : me < nodes) :
    Calls Try.prog 9 #[.int .i64 me, .int .i64 nodes] w fun e w' => ∃ pb, e = .returned (.tuple #[.pointer (some ⟨pb, 0, none⟩), .int .i64 0]) ∧ w.heap.size ≤ pb ∧ Pr w' pb none 0 (ps0 me nodes) ∧ Fr (fun _ => False) w w' := by
  have d1 : ¬ nodes < 1 := by omega
  have d2 : ¬ 5 < nodes := by omega
  have d3 : ¬ me < 0 := by omega
  have d4 : ¬ nodes ≤ me := by omega
  go_enter Try.func9, Try.ntmps9
  go_wp2_with fail
  go_ret2
  refine ⟨_, rfl, Nat.le_refl _, ⟨?_, ⟨rfl, rfl, rfl⟩, ?_, ?_, ?_, ?_, ?_, ?_, ?_, ?_, ?_, ?_⟩, Fr.alloc _ _ _⟩
  · exact block_alloc _ _
  · simp [blocks, mo3, ps0]
  · intro x hx; cases hx
  · exact List.Pairwise.nil
  · intro x hx; cases hx
  · exact ⟨List.nodup_nil, fun x hx => by cases hx⟩
  · exact ⟨h1, h2⟩
  · exact ⟨h3, h4⟩
  · exact ⟨Int.le_refl _, by show (0 : Int) ≤ _; decide⟩
  · exact Int.le_refl _
  · intro _; rfl

set_option maxRecDepth 100000 in
theorem ballot_any (w : World) (pb : Nat) (mo : Mo) (n : Nat) (s : PS) (h : Pr w pb mo n s) :
    Calls Try.prog 12 #[.pointer (some ⟨pb, 0, none⟩)] w fun e w' => e = .returned (.agg (bcells s.b)) ∧ Fr (fun _ => False) w w' := by
  obtain ⟨me, nodes, round, ⟨b1, b2⟩, fr, ps, vs, ks⟩ := s
  have hb := lt_of_block h.blk
  have c3 : w.cell? ⟨pb, 3, none⟩ = some (.int .i64 b1) := by rw [cell_of_block h.blk]; rfl
  have c4 : w.cell? ⟨pb, 4, none⟩ = some (.int .i64 b2) := by rw [cell_of_block h.blk]; rfl
  clear h
  show Calls _ _ _ w fun e w' => e = .returned (.agg #[.int .i64 b1, .int .i64 b2]) ∧ _
  go_enter Try.func12, Try.ntmps12
  go_wp2
  exact bodyPost_ret (v := .agg #[.int .i64 b1, .int .i64 b2]) (by simp [results, Try.results12, go_sem]) rfl ⟨rfl, Fr.alloc _ _ _⟩

theorem more_any (w : World) (pb : Nat) (mo : Mo) (n : Nat) (s : PS) (h : Pr w pb mo n s) (x : Int) (h0 : 0 ≤ x) (h1 : x ≤ 1000000000) :
    Calls Try.prog 25 #[.pointer (some ⟨pb, 0, none⟩), .int .i64 x] w fun e w' => e = .returned (.bool (decide (s.nodes < 2 * x))) ∧ w' = w := by
  have c1 : w.cell? ⟨pb, 1, none⟩ = some (.int .i64 s.nodes) := by rw [cell_of_block h.blk]; rfl
  clear h
  go_enter Try.func25, Try.ntmps25
  go_wp2
  go_ret
  exact ⟨rfl, rfl⟩

theorem node_any (w : World) (pb : Nat) (mo : Mo) (n : Nat) (s : PS) (h : Pr w pb mo n s) (x : Int) :
    Calls Try.prog 27 #[.pointer (some ⟨pb, 0, none⟩), .int .i64 x] w fun e w' => e = .returned (.bool (decide (0 ≤ x) && decide (x < s.nodes))) ∧ w' = w := by
  have c1 : w.cell? ⟨pb, 1, none⟩ = some (.int .i64 s.nodes) := by rw [cell_of_block h.blk]; rfl
  clear h
  by_cases h0 : 0 ≤ x
  all_goals
    go_enter Try.func27, Try.ntmps27
    go_wp2
    go_ret
    exact ⟨by simp [h0]; try omega, rfl⟩

/-- Does it lead? -/
def ledB (s : PS) : Bool := decide (s.nodes < 2 * (s.ps.length : Int))
set_option maxRecDepth 100000 in
theorem led_any (w : World) (pb : Nat) (mo : Mo) (n : Nat) (s : PS) (h : Pr w pb mo n s) :
    Calls Try.prog 13 #[.pointer (some ⟨pb, 0, none⟩)] w fun e w' => e = .returned (.bool (ledB s)) ∧ w' = w := by
  have h5 := h.led5
  have c6 : w.cell? ⟨pb, 6, none⟩ = some (.map (mo.map (·.1))) := by rw [cell_of_block h.blk]; rfl
  have hlen : (Builtin.len_ #[62] 3 #[.map (mo.map (·.1))]).run Try.prog w = .ok (.int .i64 s.ps.length) w := by
    have := h.maps
    match mo, this with
    | none, this => rw [this.1]; exact Maps.len_nil Try.underlying62 _
    | some (a, b, c), this => exact this.1.len Try.underlying62 _
  have H := hide h
  obtain ⟨m, hm⟩ : ∃ m, s.ps.length = m := ⟨_, rfl⟩
  generalize mo.map (·.1) = q at c6 hlen
  rw [hm] at hlen h5
  unfold ledB
  rw [hm]
  clear h hm
  go_enter Try.func13, Try.ntmps13
  go_wp2_with fail
  refine (more_any w pb mo n s H.out m (by omega) (by omega)).mono ?_
  rintro e w' ⟨rfl, rfl⟩
  go_wp2_with fail
  go_ret
  exact ⟨rfl, rfl⟩

/-- Seen. -/
def seenS (s : PS) (r : Int) : PS := { s with round := max s.round r }
set_option maxRecDepth 100000 in
theorem seen_any (w : World) (pb : Nat) (mo : Mo) (n : Nat) (s : PS) (h : Pr w pb mo n s) (b : Bt) (hb : b.1 ≤ 9223372036854775807) :
    Calls Try.prog 10 #[.pointer (some ⟨pb, 0, none⟩), .agg (bcells b)] w fun e w' => e = .returned (.tuple #[]) ∧ Pr w' pb mo n (seenS s b.1) ∧ Fr (fun k => k = pb) w w' := by
  obtain ⟨b1, b2⟩ := b
  have hlt := h.lt
  obtain ⟨y, hy⟩ : ∃ y, w.alloc (.cells #[.int .i64 b1, .int .i64 b2] 29) = y := ⟨_, rfl⟩
  have hfy : Fr (fun _ => False) w y := by rw [← hy]; exact Fr.alloc _ _ _
  have hby : y.heap[w.heap.size]? = some (.cells #[.int .i64 b1, .int .i64 b2] 29 (0, 0)) := by rw [← hy]; exact block_alloc _ _
  have hP := h.fr0 hfy
  have q0 : y.cell? ⟨w.heap.size, 0, none⟩ = some (.int .i64 b1) := by rw [cell_of_block hby]; rfl
  have q2 : y.cell? ⟨pb, 2, none⟩ = some (.int .i64 s.round) := by rw [cell_of_block hP.blk]; rfl
  have q3 : y.frozen? ⟨pb, 2, none⟩ = false := free_of_block hP.blk
  have key : ∀ z, z = max s.round b1 → Pr (y.setCell ⟨pb, 2, none⟩ (.int .i64 z)).drew pb mo n (seenS s b1) ∧ Fr (fun k => k = pb) w (y.setCell ⟨pb, 2, none⟩ (.int .i64 z)).drew := by
    rintro z rfl
    have hrn := hP.rn
    have hfs : Fr (fun k => k = pb) y (y.setCell ⟨pb, 2, none⟩ (.int .i64 (max s.round b1))).drew := (Fr.setCell (S := fun k => k = pb) _ _ _ rfl).drew
    refine ⟨hP.scalars (max s.round b1) s.b s.fr (by simp only at hb; omega) hP.fn hP.nb (fun k hk hn => hfs.block k hk hn) ?_, (hfy.mono (fun _ _ h => h.elim)).trans hfs (fun _ _ h => h)⟩
    have := block_setCell (j := 2) hP.blk (.int .i64 (max s.round b1))
    exact this
  have KEY := hide key
  have HY := hide hy
  clear hy hfy hP hby h hlt key
  show Calls _ _ #[.pointer (some ⟨pb, 0, none⟩), .agg #[.int .i64 b1, .int .i64 b2]] w _
  go_enter Try.func10, Try.ntmps10
  go_wp2_with fail
  rw [HY.out]
  go_region_law (fail)
  all_goals
    go_wp2_with fail
    all_goals
      go_end0
      refine ⟨rfl, KEY.out _ ?_⟩
      omega

theorem stage {y : World} {pb : Nat} {C : Array Value} {t : TypeId} (hb : y.heap[pb]? = some (.cells C t (0, 0))) (j : Nat) (o : Obj) (v : Value) :
    ((y.alloc o).setCell ⟨pb, j, none⟩ v).heap[pb]? = some (.cells (C.setIfInBounds j v) t (0, 0)) ∧ Fr (fun k => k = pb) y ((y.alloc o).setCell ⟨pb, j, none⟩ v) ∧ ((y.alloc o).setCell ⟨pb, j, none⟩ v).heap[y.heap.size]? = some o := by
  have hlt := lt_of_block hb
  refine ⟨block_setCell (by rw [Below.heap_alloc _ _ _ hlt]; exact hb) _, (Fr.alloc _ _ _).trans (Fr.setCell (S := fun k => k = pb) _ _ _ rfl) (fun _ _ h => h), ?_⟩
  rw [Below.heap_setCell _ _ _ _ (by simp; omega)]; exact block_alloc y o
theorem frozen_alloc {y : World} {pb : Nat} {C : Array Value} {t : TypeId} (hb : y.heap[pb]? = some (.cells C t (0, 0))) (j : Nat) (o : Obj) : (y.alloc o).frozen? ⟨pb, j, none⟩ = false :=
  free_of_block (by rw [Below.heap_alloc _ _ _ (lt_of_block hb)]; exact hb)
theorem cell_alloc {y : World} {pb : Nat} {C : Array Value} {t : TypeId} (hb : y.heap[pb]? = some (.cells C t (0, 0))) (j : Nat) (o : Obj) : (y.alloc o).cell? ⟨pb, j, none⟩ = C[j]? :=
  cell_of_block (by rw [Below.heap_alloc _ _ _ (lt_of_block hb)]; exact hb)
/-- Begin. -/
def beginS (s : PS) (from_ : Int) : PS := { s with round := min s.round 1073741823 + 1, b := (min s.round 1073741823 + 1, s.me), fr := max from_ 0, ps := [], vs := [], ks := [] }
set_option maxRecDepth 100000 in
set_option maxHeartbeats 1600000 in
theorem begin_any (w : World) (pb : Nat) (mo : Mo) (n : Nat) (s : PS) (h : Pr w pb mo n s) (f : Int) (hf : (Lit.int .i64 f).wf = true) :
    Calls Try.prog 11 #[.pointer (some ⟨pb, 0, none⟩), .int .i64 f] w fun e w' => e = .returned (.agg (bcells (beginS s f).b)) ∧ (∃ a b c, (w.heap.size ≤ a ∧ w.heap.size ≤ b ∧ w.heap.size ≤ c) ∧ Pr w' pb (some (a, b, c)) 0 (beginS s f)) ∧ Fr (fun k => k = pb) w w' := by
  obtain ⟨me, nodes, round, ⟨b1, b2⟩, fr, ps, vs, ks⟩ := s
  have hmm := @run_makeMap Try.prog
  have hlt := lt_of_block h.blk
  obtain ⟨z, hz⟩ : ∃ z, min round 1073741823 + 1 = z := ⟨_, rfl⟩
  obtain ⟨g, hg⟩ : ∃ g, max f 0 = g := ⟨_, rfl⟩
  have hr0 : 0 ≤ round := h.rn.1
  have hz0 : 0 ≤ z ∧ z ≤ 1073741824 := by omega
  have hg0 : 0 ≤ g := by omega
  have hblk : w.heap[pb]? = some (.cells #[.int .i64 me, .int .i64 nodes, .int .i64 round, .int .i64 b1, .int .i64 b2, .int .i64 fr, .map (mo.map (·.1)), .map (mo.map (·.2.1)), .map (mo.map (·.2.2))] 66 (0, 0)) := h.blk
  have c2 : w.cell? ⟨pb, 2, none⟩ = some (.int .i64 round) := by rw [cell_of_block hblk]; rfl
  have c3 : w.frozen? ⟨pb, 2, none⟩ = false := free_of_block hblk
  obtain ⟨y1, hy1⟩ : ∃ y1, (w.setCell ⟨pb, 2, none⟩ (.int .i64 z)).alloc (.cells #[.int .i64 0, .int .i64 0] 29) = y1 := ⟨_, rfl⟩
  have hf1 : Fr (fun k => k = pb) w y1 := by rw [← hy1]; exact (Fr.setCell (S := fun k => k = pb) _ _ _ rfl).trans (Fr.alloc _ _ _) (fun _ _ h => h)
  have hb1 : y1.heap[pb]? = some (.cells #[.int .i64 me, .int .i64 nodes, .int .i64 z, .int .i64 b1, .int .i64 b2, .int .i64 fr, .map (mo.map (·.1)), .map (mo.map (·.2.1)), .map (mo.map (·.2.2))] 66 (0, 0)) := by
    rw [← hy1, Below.heap_alloc _ _ _ (by simpa [World.setCell] using hlt)]; exact block_setCell hblk _
  have hrb : y1.heap[w.heap.size]? = some (.cells #[.int .i64 0, .int .i64 0] 29 (0, 0)) := by
    rw [← hy1]; simpa [World.setCell] using block_alloc (w.setCell ⟨pb, 2, none⟩ (.int .i64 z)) (.cells #[.int .i64 0, .int .i64 0] 29)
  have q0 : y1.cell? ⟨pb, 0, none⟩ = some (.int .i64 me) := by rw [cell_of_block hb1]; rfl
  have q2 : y1.cell? ⟨pb, 2, none⟩ = some (.int .i64 z) := by rw [cell_of_block hb1]; rfl
  have q3 : ∀ j, y1.frozen? ⟨pb, j, none⟩ = false := fun j => free_of_block hb1
  obtain ⟨q4, q5⟩ := And.intro (q3 3) (q3 4)
  obtain ⟨y2, hy2⟩ : ∃ y2, ((y1.setCell ⟨pb, 3, none⟩ (.int .i64 z)).setCell ⟨pb, 4, none⟩ (.int .i64 me)).drew = y2 := ⟨_, rfl⟩
  have hf2 : Fr (fun k => k = pb) y1 y2 := by rw [← hy2]; exact ((Fr.setCell (S := fun k => k = pb) _ _ _ rfl).trans (Fr.setCell (S := fun k => k = pb) _ _ _ rfl) (fun _ _ h => h)).drew
  have hb2 : y2.heap[pb]? = some (.cells #[.int .i64 me, .int .i64 nodes, .int .i64 z, .int .i64 z, .int .i64 me, .int .i64 fr, .map (mo.map (·.1)), .map (mo.map (·.2.1)), .map (mo.map (·.2.2))] 66 (0, 0)) := by
    rw [← hy2]; exact block_setCell (block_setCell hb1 _) _
  have hrb2 : y2.heap[w.heap.size]? = some (.cells #[.int .i64 0, .int .i64 0] 29 (0, 0)) := (hf2.block _ (lt_of_block hrb) (by omega)).trans hrb
  obtain ⟨y3, hy3⟩ : ∃ y, y2.setCell ⟨pb, 5, none⟩ (.int .i64 g) = y := ⟨_, rfl⟩
  have hf3 : Fr (fun k => k = pb) y2 y3 := by rw [← hy3]; exact Fr.setCell _ _ _ rfl
  have hb3 : y3.heap[pb]? = some (.cells #[.int .i64 me, .int .i64 nodes, .int .i64 z, .int .i64 z, .int .i64 me, .int .i64 g, .map (mo.map (·.1)), .map (mo.map (·.2.1)), .map (mo.map (·.2.2))] 66 (0, 0)) := by
    rw [← hy3]; exact block_setCell hb2 _
  obtain ⟨hb4, hf4, hm4⟩ := stage hb3 6 (.map #[] 0) (.map (some y3.heap.size))
  have e4 := frozen_alloc hb3 6 (.map #[] 0)
  have d4 := cell_alloc hb3 6 (.map #[] 0)
  obtain ⟨y4, hy4⟩ : ∃ y, (y3.alloc (.map #[] 0)).setCell ⟨pb, 6, none⟩ (.map (some y3.heap.size)) = y := ⟨_, rfl⟩
  rw [hy4] at hb4 hf4 hm4
  obtain ⟨hb5, hf5, hm5⟩ := stage hb4 7 (.map #[] 0) (.map (some y4.heap.size))
  have e5 := frozen_alloc hb4 7 (.map #[] 0)
  have d5 := cell_alloc hb4 7 (.map #[] 0)
  obtain ⟨y5, hy5⟩ : ∃ y, (y4.alloc (.map #[] 0)).setCell ⟨pb, 7, none⟩ (.map (some y4.heap.size)) = y := ⟨_, rfl⟩
  rw [hy5] at hb5 hf5 hm5
  obtain ⟨hb6, hf6, hm6⟩ := stage hb5 8 (.map #[] 0) (.map (some y5.heap.size))
  have e6 := frozen_alloc hb5 8 (.map #[] 0)
  have d6 := cell_alloc hb5 8 (.map #[] 0)
  obtain ⟨y6, hy6⟩ : ∃ y, (y5.alloc (.map #[] 0)).setCell ⟨pb, 8, none⟩ (.map (some y5.heap.size)) = y := ⟨_, rfl⟩
  rw [hy6] at hb6 hf6 hm6
  have hrb6 : y6.heap[w.heap.size]? = some (.cells #[.int .i64 0, .int .i64 0] 29 (0, 0)) :=
    ((hf3.trans (hf4.trans (hf5.trans hf6 (fun _ _ h => h)) (fun _ _ h => h)) (fun _ _ h => h)).block _ (lt_of_block hrb2) (by omega)).trans hrb2
  have r0 : y6.cell? ⟨pb, 3, none⟩ = some (.int .i64 z) := by rw [cell_of_block hb6]; rfl
  have r1 : y6.cell? ⟨pb, 4, none⟩ = some (.int .i64 me) := by rw [cell_of_block hb6]; rfl
  have r2 : y2.frozen? ⟨pb, 5, none⟩ = false := free_of_block hb2
  have r3 : y2.cell? ⟨pb, 5, none⟩ = some (.int .i64 fr) := by rw [cell_of_block hb2]; rfl
  have r6 : y6.frozen? ⟨w.heap.size, 0, none⟩ = false := free_of_block hrb6
  have r7 : y6.frozen? ⟨w.heap.size, 1, none⟩ = false := free_of_block hrb6
  have r8 : y6.cell? ⟨w.heap.size, 0, none⟩ = some (.int .i64 0) := by rw [cell_of_block hrb6]; rfl
  have r9 : y6.cell? ⟨w.heap.size, 1, none⟩ = some (.int .i64 0) := by rw [cell_of_block hrb6]; rfl
  obtain ⟨y7, hy7⟩ : ∃ y, (y6.setCell ⟨w.heap.size, 0, none⟩ (.int .i64 z)).setCell ⟨w.heap.size, 1, none⟩ (.int .i64 me) = y := ⟨_, rfl⟩
  have hf7 : Fr (fun k => k = w.heap.size) y6 y7 := by rw [← hy7]; exact (Fr.setCell (S := fun k => k = w.heap.size) _ _ _ rfl).trans (Fr.setCell (S := fun k => k = w.heap.size) _ _ _ rfl) (fun _ _ h => h)
  have hrb7 : y7.heap[w.heap.size]? = some (.cells #[.int .i64 z, .int .i64 me] 29 (0, 0)) := by rw [← hy7]; exact block_setCell (block_setCell hrb6 _) _
  have u0 : y7.cell? ⟨w.heap.size, 0, none⟩ = some (.int .i64 z) := by rw [cell_of_block hrb7]; rfl
  have u1 : y7.cell? ⟨w.heap.size, 1, none⟩ = some (.int .i64 me) := by rw [cell_of_block hrb7]; rfl
  have hfin : Pr y7 pb (some (y3.heap.size, y4.heap.size, y5.heap.size)) 0 ⟨me, nodes, z, (z, me), g, [], [], []⟩ ∧ Fr (fun k => k = pb) w y7 ∧ w.heap.size ≤ y3.heap.size ∧ w.heap.size ≤ y4.heap.size ∧ w.heap.size ≤ y5.heap.size := by
    have t1 := lt_of_block hrb
    have t2 := hf2.size
    have t3 := hf3.size
    have t4 := lt_of_block hm4
    have t5 := lt_of_block hm5
    have t6 := lt_of_block hm6
    have n4 := (hf7.block _ (by have := hf5.size; have := hf6.size; omega) (by omega)).trans ((hf6.block _ (by have := hf5.size; omega) (by omega)).trans ((hf5.block _ t4 (by omega)).trans hm4))
    have n5 := (hf7.block _ (by have := hf6.size; omega) (by omega)).trans ((hf6.block _ t5 (by omega)).trans hm5)
    have n6 := (hf7.block _ t6 (by omega)).trans hm6
    refine ⟨⟨(hf7.block _ (lt_of_block hb6) (by omega)).trans hb6, ⟨?_, ?_, ?_⟩, ?_, fun x hx => (by cases hx), List.Pairwise.nil, fun x hx => (by cases hx), ⟨List.nodup_nil, fun x hx => (by cases hx)⟩, h.nn, h.mn, ⟨hz0.1, by show z ≤ _; omega⟩, hg0, fun e => (by cases e)⟩, ?_, by omega, by omega, by omega⟩
    · exact ((mapN_made y3 _ _).of_block (n4.trans (block_alloc y3 _).symm)).congr (fun l => by unfold setF; split <;> simp)
    · exact ((mapF_made y4 _ _).of_block (n5.trans (block_alloc y4 _).symm)).congr (fun l => by unfold vm; split <;> rfl)
    · exact ((mapF_made y5 _ _).of_block (n6.trans (block_alloc y5 _).symm)).congr (fun l => by unfold pkF; split <;> rfl)
    · have : pb < y3.heap.size := by omega
      simp [blocks, mo3]; omega
    · exact ((hf1.trans hf2 (fun _ _ h => h)).trans (hf3.trans (hf4.trans (hf5.trans hf6 (fun _ _ h => h)) (fun _ _ h => h)) (fun _ _ h => h)) (fun _ _ h => h)).trans (hf7.mono (S' := fun k => k = pb ∨ w.heap.size ≤ k) (fun k _ hk => .inr (by omega))) (fun k hk h => by omega)
  have hbs : beginS ⟨me, nodes, round, (b1, b2), fr, ps, vs, ks⟩ f = ⟨me, nodes, z, (z, me), g, [], [], []⟩ := by simp [beginS, hz, hg]
  rw [hbs]
  show Calls _ _ _ w fun e w' => e = .returned (.agg #[.int .i64 z, .int .i64 me]) ∧ _
  have hwp : w.heap.size ≠ pb := by omega
  have s1 := lt_of_block hb2
  have s2 := lt_of_block hrb2
  have HY2 := hide hy2
  have HY3 := hide hy3
  have HY4 := hide hy4
  have HY5 := hide hy5
  have HY6 := hide hy6
  have HY7 := hide hy7
  have HFIN := hide hfin
  have q6 : y1.cell? ⟨pb, 3, none⟩ = some (.int .i64 b1) := by rw [cell_of_block hb1]; rfl
  have q7 : y1.cell? ⟨pb, 4, none⟩ = some (.int .i64 b2) := by rw [cell_of_block hb1]; rfl
  have HY1 := hide hy1
  have HF1 := hide hf1
  have HB1 := hide hb1
  have HRB := hide hrb
  have HZ := hide hz
  have HG := hide hg
  have hn5 := h.nn
  have hm5' := h.mn
  clear h hy1 hf1 hb1 hrb hblk q3 hy2 hf2 hb2 hrb2 hy3 hy4 hy5 hy6 hf3 hf4 hf5 hf6 hb3 hb4 hb5 hb6 hm4 hm5 hm6 hrb6 hfin hy7 hf7 hrb7 hbs
  have hze : round ≤ 1073741823 ∧ z = round + 1 ∨ 1073741823 < round ∧ z = 1073741824 := by omega
  have hge : 0 ≤ f ∧ g = f ∨ f < 0 ∧ g = 0 := by omega
  clear hz hg
  rcases hze with ⟨hr, rfl⟩ | ⟨hr, rfl⟩ <;> rcases hge with ⟨hr2, rfl⟩ | ⟨hr2, rfl⟩
  all_goals
    go_enter Try.func11, Try.ntmps11
    go_wp2_with fail
    rw [HY1.out]
    go_region_law (fail)
    all_goals
      clear q0 q2 q4 q5 q6 q7
      rw [HY2.out]
      go_upto_region 4 with fail
      rw [HY3.out]
      go_upto_region 5 with fail
      rw [HY4.out]
      go_upto_region 6 with fail
      rw [HY5.out]
      go_upto_region 7 with fail
      rw [HY6.out]
      go_wp2_with fail
      rw [HY7.out]
      clear r0 r1 r2 r3 r6 r7 r8 r9 d4 d5 d6 e4 e5 e6
      exact bodyPost_ret (v := .agg #[.int .i64 _, .int .i64 me]) (by simp [results, Try.results11, go_sem, u0, u1]) rfl ⟨rfl, ⟨_, _, _, HFIN.out.2.2, HFIN.out.1⟩, HFIN.out.2.1⟩
end Go.Proofs.Ytkefffcfiedkeaa
