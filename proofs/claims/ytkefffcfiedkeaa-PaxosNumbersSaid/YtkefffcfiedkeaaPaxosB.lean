/- More words on the proposer of paxos. -/
import Derived.Test.YtkefffcfiedkeaaPaxos
import Derived.Test.YtkefffcfiedkeaaBallotVotes
namespace Go.Proofs.Ytkefffcfiedkeaa
open Go.RowKit Go.Maps Go.Cv
set_option linter.unusedVariables false

theorem run_neqB (w : World) (a b c d : Int) : (binOp .neq 29 (.agg #[.int .i64 a, .int .i64 b]) (.agg #[.int .i64 c, .int .i64 d])).run Try.prog w = .ok (.bool (!(a == c && b == d))) w := by
  have u3 := Try.underlying3
  have a3 := Try.isAgg3
  have z3 := Try.sizeOf3
  have hS : Try.prog.underlying 29 = some (.struct (Try.prog.fieldsOf 29)) := by kernel_rfl
  have hp : Try.prog.stoodInHeld 29 = false := by kernel_rfl
  rw [run_neq_struct, show (10000 : Nat) = 9999 + 1 from rfl, run_equalIn_agg w 9999 29 _ _ hS hp]
  simp only [Program.fieldsOf, Try.underlying29]
  go_simp
  by_cases h1 : a = c <;> by_cases h2 : b = d <;> simp [h1, h2]

theorem Pr.drew {w : World} {pb : Nat} {mo : Mo} {n : Nat} {s : PS} (h : Pr w pb mo n s) : Pr w.drew pb mo n s := h.fr0 (Fr.refl (fun _ => False) w).drew
theorem Pr.mono {w : World} {pb : Nat} {mo : Mo} {n m : Nat} {s : PS} (h : Pr w pb mo n s) (hm : n ≤ m) : Pr w pb mo m s :=
  ⟨h.blk, (match mo, h.maps with
    | none, hh => hh
    | some (a, b, c), hh => ⟨hh.1, hh.2.1.mono hm, hh.2.2.mono hm⟩), h.nd, h.picks, h.st, h.sl, h.pn, h.nn, h.mn, h.rn, h.fn, h.nb⟩
theorem blk_ne {pb a b c : Nat} {ks : List Pk} (h : (blocks pb (some (a, b, c)) ks).Nodup) : (a ≠ pb ∧ b ≠ pb ∧ c ≠ pb ∧ b ≠ a ∧ c ≠ a ∧ c ≠ b) ∧ ∀ x ∈ ks, (x.pb ≠ pb ∧ x.pb ≠ a ∧ x.pb ≠ b ∧ x.pb ≠ c) ∧ (x.nb ≠ pb ∧ x.nb ≠ a ∧ x.nb ≠ b ∧ x.nb ≠ c) := by
  simp only [blocks, mo3, List.cons_append, List.nil_append, List.nodup_cons, List.mem_cons, not_or] at h
  obtain ⟨⟨h1, h2, h3, h4⟩, ⟨h5, h6, h7⟩, ⟨h8, h9⟩, h10, _⟩ := h
  refine ⟨⟨fun e => h1 e.symm, fun e => h2 e.symm, fun e => h3 e.symm, fun e => h5 e.symm, fun e => h6 e.symm, fun e => h8 e.symm⟩, fun x hx => ?_⟩
  have hp : x.pb ∈ ks.flatMap (fun x => [x.pb, x.nb]) := List.mem_flatMap.2 ⟨x, hx, by simp⟩
  have hn : x.nb ∈ ks.flatMap (fun x => [x.pb, x.nb]) := List.mem_flatMap.2 ⟨x, hx, by simp⟩
  exact ⟨⟨fun e => h4 (e ▸ hp), fun e => h7 (e ▸ hp), fun e => h9 (e ▸ hp), fun e => h10 (e ▸ hp)⟩, fun e => h4 (e ▸ hn), fun e => h7 (e ▸ hn), fun e => h9 (e ▸ hn), fun e => h10 (e ▸ hn)⟩
theorem Pr.turn {w w' : World} {pb a b c n m : Nat} {s : PS} (h : Pr w pb (some (a, b, c)) n s) {k0 : Nat} (hk : k0 = a ∨ k0 = b ∨ k0 = c) (g : ∀ k, k < w.heap.size → k ≠ k0 → w'.heap[k]? = w.heap[k]?) (ps : List Int) (vs : List Vt)
    (ha : mapN w' Try.prog 3 a ps.length (setF ps)) (hb : mapF w' Try.prog 3 b m (vm vs)) (hc : mapF w' Try.prog 3 c m (pkF s.ks))
    (h1 : Sorted vs) (h2 : ∀ x ∈ vs, 0 ≤ x.1 ∧ x.1 < 512) (h3 : ps.Nodup ∧ ∀ i ∈ ps, 0 ≤ i ∧ i < s.nodes) : Pr w' pb (some (a, b, c)) m { s with ps := ps, vs := vs } := by
  obtain ⟨⟨e1, e2, e3, _⟩, e4⟩ := blk_ne h.nd
  refine ⟨(g pb (lt_of_block h.blk) (by omega)).trans h.blk, ⟨ha, hb, hc⟩, h.nd, fun x hx => ?_, h1, h2, h3, h.nn, h.mn, h.rn, h.fn, fun e => by cases e⟩
  obtain ⟨q1, q2, q3⟩ := h.picks x hx
  obtain ⟨⟨f1, f2, f3, f4⟩, f5, f6, f7, f8⟩ := e4 x hx
  exact ⟨(g _ (lt_of_block q1) (by rcases hk with rfl | rfl | rfl <;> assumption)).trans q1, q2.of_block (g _ q2.lt (by rcases hk with rfl | rfl | rfl <;> assumption)), q3⟩
theorem Pr.vote {w w' : World} {pb a b c n : Nat} {s : PS} (h : Pr w pb (some (a, b, c)) n s) {cur : List Vt} (hc : s.vs = cur) (x1 x2 x3 : Int) (x4 : ByteArray) (hx : 0 ≤ x1 ∧ x1 < 512)
    (hm : mapF w' Try.prog 3 b (n + 1) (put (vm cur) (.int .i64 x1) (.agg #[.int .i64 x1, .int .i64 x2, .int .i64 x3, .string x4]))) (ht : w.mapTurned w' b) : Pr w' pb (some (a, b, c)) (n + 1) { s with vs := putV cur (x1, (x2, x3), x4) } := by
  subst hc
  obtain ⟨⟨g1, g2, g3, g4, g5, g6⟩, _⟩ := blk_ne h.nd
  have hge : ∀ k, k < w.heap.size → k ≠ b → w'.heap[k]? = w.heap[k]? := fun k hk hne => ht.grown.block k hk (fun e => hne (by cases e; rfl))
  refine h.turn (.inr (.inl rfl)) hge s.ps (putV s.vs (x1, (x2, x3), x4)) (h.maps.1.of_block (hge _ h.maps.1.lt (by omega))) (hm.congr (fun q => vm_put s.vs (x1, (x2, x3), x4) q)) ((h.maps.2.2.of_block (hge _ h.maps.2.2.lt (by omega))).mono (Nat.le_succ _)) (sorted_put h.st _) ?_ h.pn
  intro y hy
  simp only [putV, List.mem_append, List.mem_filter, List.mem_singleton] at hy
  rcases hy with (⟨hy, _⟩ | rfl) | ⟨hy, _⟩
  · exact h.sl y hy
  · exact hx
  · exact h.sl y hy
end Go.Proofs.Ytkefffcfiedkeaa
