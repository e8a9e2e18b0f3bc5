/- The plain law: an acceptor that is saved and loaded is itself. -/
import Derived.Test.YthekgecaeblbbaaBallotLoad
import Derived.Test.YthekgecaeblbbaaReadBack
namespace Go.Proofs.Ythekgecaeblbbaa
open Go.RowKit Go.Maps Go.Cv Go.Shelf
set_option linter.unusedVariables false

/-- What an acceptor must be to be saved and loaded. -/
structure GoodV (p : Bt) (l : List Vt) : Prop where
  st : Sorted l
  len : l.length ≤ 512
  pz : less p (0, 0) = false
  wp : (Lit.int .i64 p.1).wf = true ∧ (Lit.int .i64 p.2).wf = true
  sl : ∀ x ∈ l, 0 ≤ x.1 ∧ x.1 < 512
  wv : ∀ x ∈ l, (Lit.int .i64 x.2.1.1).wf = true ∧ (Lit.int .i64 x.2.1.2).wf = true
  nz : ∀ x ∈ l, less (0, 0) x.2.1 = true
  le : ∀ x ∈ l, less p x.2.1 = false
  sz : ∀ x ∈ l, x.2.2.size < 4294967296

theorem bal_at {bs pre post : List UInt8} {b : Bt} (h : bs = pre ++ (ballotB b ++ post)) (hw : (Lit.int .i64 b.1).wf = true ∧ (Lit.int .i64 b.2).wf = true) {r : RS} (hr : r = ⟨pre.length, 0, 0⟩) : r.bal bs = (b, ⟨pre.length + 16, 0, 0⟩) := by
  have e1 : bs = pre ++ (beN (u64 b.1) 8 ++ (beN (u64 b.2) 8 ++ post)) := by rw [h]; unfold ballotB; simp only [List.append_assoc]
  have g1 := get_at e1 (by omega) hr
  have e2 : bs = (pre ++ beN (u64 b.1) 8) ++ (beN (u64 b.2) 8 ++ post) := by rw [e1]; simp only [List.append_assoc]
  have g2 := get_at e2 (by omega) (r := ⟨pre.length + 8, 0, 0⟩) (by rw [List.length_append, beN_length])
  rw [List.length_append, beN_length] at g2
  unfold RS.bal
  simp only [g1, g2, i64_back _ hw.1, i64_back _ hw.2]

/-- The last slot among the first k. -/
def lastS (l : List Vt) : Nat → Int
  | 0 => -1
  | k + 1 => (l[k]?.map (·.1)).getD (-1)

theorem put_last {l : List Vt} {x : Vt} (h : ∀ y ∈ l, y.1 < x.1) : putV l x = l ++ [x] := by
  unfold putV
  have e1 : l.filter (fun y => decide (y.1 < x.1)) = l := List.filter_eq_self.2 (fun y hy => by simpa using h y hy)
  have e2 : l.filter (fun y => decide (x.1 < y.1)) = [] := List.filter_eq_nil_iff.2 (fun y hy => by have := h y hy; simp; omega)
  rw [e1, e2, List.append_nil]

theorem loadV_step {p : Bt} {l : List Vt} (G : GoodV p l) {k : Nat} {x : Vt} (hx : l[k]? = some x) :
    ldStep (sv p l) p (⟨(svk p l.length (l.take k)).length, 0, 0⟩, true, lastS l k, l.take k) = (⟨(svk p l.length (l.take (k + 1))).length, 0, 0⟩, true, lastS l (k + 1), l.take (k + 1)) := by
  have hmem := List.mem_of_getElem? hx
  have s1 := G.sl x hmem
  have s2 := G.wv x hmem
  have s3 := G.nz x hmem
  have s4 := G.le x hmem
  have s5 := G.sz x hmem
  have e : sv p l = svk p l.length (l.take k) ++ (entryV x ++ (l.drop (k + 1)).flatMap entryV) := by
    have h1 : sv p l = svk p l.length (l.take (k + 1)) ++ (l.drop (k + 1)).flatMap entryV := by
      unfold sv svk
      rw [List.append_assoc (ballotB p ++ beN (u64 l.length) 4), ← List.flatMap_append, List.take_append_drop]
    rw [h1, svk_take p _ l k x hx, List.append_assoc]
  have hlt : ∀ y ∈ l.take k, y.1 < x.1 := by
    intro y hy
    obtain ⟨j, hj⟩ := List.mem_iff_getElem?.1 hy
    have hjk : j < k := by have := (List.getElem?_eq_some_iff.1 hj).1; rw [List.length_take] at this; omega
    rw [List.getElem?_take, if_pos hjk] at hj
    obtain ⟨q1, q2⟩ := List.getElem?_eq_some_iff.1 hj
    obtain ⟨q3, q4⟩ := List.getElem?_eq_some_iff.1 hx
    have := List.pairwise_iff_getElem.1 G.st j k q1 q3 hjk
    rw [q2, q4] at this; exact this
  have hlast : lastS l k < x.1 := by
    cases k with
    | zero => show (-1 : Int) < x.1; omega
    | succ k =>
      have hkl := (List.getElem?_eq_some_iff.1 hx).1
      have hj : l[k]? = some l[k] := List.getElem?_eq_getElem (by omega)
      show (l[k]?.map (·.1)).getD (-1) < x.1
      rw [hj]
      refine hlt _ ?_
      refine List.mem_of_getElem? (i := k) ?_
      rw [List.getElem?_take, if_pos (by omega), hj]
  obtain ⟨s, b, t⟩ := x
  simp only at s1 s2 s3 s4 s5 hlt hlast
  obtain ⟨n, rfl⟩ : ∃ n : Nat, s = n := ⟨s.toNat, by omega⟩
  obtain ⟨pre, hpre⟩ : ∃ pre, svk p l.length (l.take k) = pre := ⟨_, rfl⟩
  obtain ⟨post, hpost⟩ : ∃ post, (l.drop (k + 1)).flatMap entryV = post := ⟨_, rfl⟩
  rw [hpre, hpost] at e
  have hL : (svk p l.length (l.take (k + 1))).length = pre.length + (entryV ((n : Int), b, t)).length := by rw [svk_take p _ l k _ hx, hpre, List.length_append]
  have he : (entryV ((n : Int), b, t)).length = 24 + t.size := entryV_len _
  have hbl : (sv p l).length = pre.length + (entryV ((n : Int), b, t)).length + post.length := by rw [e]; simp; omega
  have hn4 : u64 (n : Int) = n := u64_nat _ (by omega)
  have ht4 : u64 (t.size : Int) = t.size := u64_nat _ (by omega)
  have htl : t.data.toList.length = t.size := by simp
  have e1 : sv p l = pre ++ (beN n 4 ++ (ballotB b ++ (beN t.size 4 ++ (t.data.toList ++ post)))) := by
    rw [e]; unfold entryV; simp only [hn4, ht4, List.append_assoc]
  have g1 := get_at e1 (by omega) (r := ⟨pre.length, 0, 0⟩) rfl
  rw [Nat.mod_eq_of_lt (show n < 256 ^ 4 by omega)] at g1
  have e2 : sv p l = (pre ++ beN n 4) ++ (ballotB b ++ (beN t.size 4 ++ (t.data.toList ++ post))) := by rw [e1]; simp only [List.append_assoc]
  have p2 : (pre ++ beN n 4).length = pre.length + 4 := by simp [beN_length]
  have g2 := bal_at e2 s2 (r := ⟨pre.length + 4, 0, 0⟩) (by rw [p2])
  rw [p2] at g2
  have e3 : sv p l = (pre ++ beN n 4 ++ ballotB b) ++ (beN t.size 4 ++ (t.data.toList ++ post)) := by rw [e2]; simp only [List.append_assoc]
  have p3 : (pre ++ beN n 4 ++ ballotB b).length = pre.length + 4 + 16 := by simp [beN_length, ballotB_len]
  have g3 := text_at (most := ((sv p l).length : Int)) e3 htl s5 (by omega) (r := ⟨pre.length + 4 + 16, 0, 0⟩) (by rw [p3])
  rw [p3] at g3
  have hmk : (⟨t.data.toList.toArray⟩ : ByteArray) = t := by cases t; simp
  have d1 : decide (lastS l k < (n : Int)) = true := by simpa using hlast
  have d2 : decide ((n : Int) < 512) = true := by simpa using s1.2
  have hls : lastS l (k + 1) = (n : Int) := by show (l[k]?.map (·.1)).getD (-1) = _; rw [hx]; rfl
  have hput : putV (l.take k) ((n : Int), b, t) = l.take (k + 1) := by
    rw [put_last hlt, List.take_add_one, hx]; rfl
  unfold ldStep
  simp only [hpre, g1, g2, g3, hmk, d1, d2, s3, s4, hput, hls, hL, he, Bool.and_true, Bool.not_false]
  rw [show pre.length + 4 + 16 + 4 + t.size = pre.length + (24 + t.size) by omega]

theorem loadV_all {p : Bt} {l : List Vt} (G : GoodV p l) : ∀ k, k ≤ l.length → ldK (sv p l) p (⟨20, 0, 0⟩, true, -1, []) k = (⟨(svk p l.length (l.take k)).length, 0, 0⟩, true, lastS l k, l.take k)
  | 0, _ => by simp [ldK, svk, beN_length, ballotB_len, lastS]
  | k + 1, h => by
    rw [ldK, loadV_all G k (by omega)]
    exact loadV_step G (List.getElem?_eq_getElem (by omega))

theorem loadV_saved {p : Bt} {l : List Vt} (G : GoodV p l) : loadT (sv p l) = some (p, l) := by
  have hl := G.len
  have hA := loadV_all G l.length (Nat.le_refl _)
  rw [List.take_length] at hA
  have e : sv p l = [] ++ (ballotB p ++ (beN l.length 4 ++ l.flatMap entryV)) := by
    unfold sv svk; rw [u64_nat l.length (by omega)]; simp
  have g1 := bal_at e G.wp (r := ⟨0, 0, 0⟩) rfl
  have e2 : sv p l = ballotB p ++ (beN l.length 4 ++ l.flatMap entryV) := by rw [e]; simp
  have c1 := count_at (most := 512) e2 (by omega) (by omega) (r := ⟨16, 0, 0⟩) (by rw [ballotB_len])
  rw [ballotB_len] at c1
  simp only [List.length_nil, Nat.zero_add] at g1
  unfold loadT
  simp only [g1, c1, G.pz, Bool.not_false]
  rw [hA]
  have hend : (RS.end_ (sv p l) ⟨(svk p l.length l).length, 0, 0⟩) = (0, 0) := by
    unfold RS.end_ sv; simp
  simp only [hend]
  simp
end Go.Proofs.Ythekgecaeblbbaa
