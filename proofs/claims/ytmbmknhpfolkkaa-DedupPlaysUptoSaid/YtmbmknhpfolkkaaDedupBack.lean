/- The plain law: a table that is saved and loaded is itself. -/
import Derived.Test.YtmbmknhpfolkkaaDedupLoad
import Derived.Test.YtmbmknhpfolkkaaReadBack
namespace Go.Proofs.Ytmbmknhpfolkkaa
open Go.RowKit Go.Maps Go.Cv Go.Shelf
set_option linter.unusedVariables false

theorem find_none {l : List L3} {c : ByteArray} (h : ∀ x ∈ l, x.1 ≠ c) : l.find? (is c) = none := by
  rw [List.find?_eq_none]; intro x hx; simp [is]; exact h x hx

/-- What a table must be to be saved and loaded. -/
structure Good (most : Int) (l : List L3) : Prop where
  m1 : 1 ≤ most
  m2 : most ≤ 64
  len : (l.length : Int) ≤ most
  nd : (l.map (·.1)).Nodup
  ids : ∀ x ∈ l, (Lit.int .i64 x.2.1).wf = true
  sz : ∀ x ∈ l, x.1.size < 4294967296 ∧ x.2.2.size < 4294967296

theorem load_step {most : Int} {l : List L3} (G : Good most l) {k : Nat} {x : L3} (hx : l[k]? = some x) :
    ldStep (sv most l) (⟨(svk most l.length (l.take k)).length, 0, 0⟩, true, l.take k) = (⟨(svk most l.length (l.take (k + 1))).length, 0, 0⟩, true, l.take (k + 1)) := by
  have hmem := List.mem_of_getElem? hx
  obtain ⟨s1, s2⟩ := G.sz x hmem
  have e : sv most l = svk most l.length (l.take k) ++ (entry x ++ (l.drop (k + 1)).flatMap entry) := by
    have h1 : sv most l = svk most l.length (l.take (k + 1)) ++ (l.drop (k + 1)).flatMap entry := by
      unfold sv svk
      rw [List.append_assoc (beN (u64 most) 4 ++ beN (u64 l.length) 4), ← List.flatMap_append, List.take_append_drop]
    rw [h1, svk_take most _ l k x hx, List.append_assoc]
  have hcl : (l.take k).find? (is x.1) = none := by
    refine find_none (fun y hy e2 => ?_)
    obtain ⟨j, hj⟩ := List.mem_iff_getElem?.1 hy
    have hjk : j < k := by have := (List.getElem?_eq_some_iff.1 hj).1; rw [List.length_take] at this; omega
    rw [List.getElem?_take, if_pos hjk] at hj
    have hkl := (List.getElem?_eq_some_iff.1 hx).1
    have h3 : (l.map (·.1))[j]? = (l.map (·.1))[k]? := by rw [List.getElem?_map, List.getElem?_map, hj, hx]; simp [e2]
    have := (List.getElem?_inj (by simp; omega) G.nd).1 h3
    omega
  obtain ⟨c, i, r⟩ := x
  obtain ⟨pre, hpre⟩ : ∃ pre, svk most l.length (l.take k) = pre := ⟨_, rfl⟩
  obtain ⟨post, hpost⟩ : ∃ post, (l.drop (k + 1)).flatMap entry = post := ⟨_, rfl⟩
  rw [hpre, hpost] at e
  have hL : (svk most l.length (l.take (k + 1))).length = pre.length + (entry (c, i, r)).length := by rw [svk_take most _ l k _ hx, hpre, List.length_append]
  have he : (entry (c, i, r)).length = 4 + c.size + 8 + 4 + r.size := by simp [entry, beN_length]; omega
  have hbl : (sv most l).length = pre.length + (entry (c, i, r)).length + post.length := by rw [e]; simp; omega
  have hc4 : u64 (c.size : Int) = c.size := u64_nat _ (by simp at s1; omega)
  have hr4 : u64 (r.size : Int) = r.size := u64_nat _ (by simp at s2; omega)
  have hcl2 : c.data.toList.length = c.size := by simp
  have hrl2 : r.data.toList.length = r.size := by simp
  have e1 : sv most l = pre ++ (beN c.size 4 ++ (c.data.toList ++ (beN (u64 i) 8 ++ (beN (u64 r.size) 4 ++ r.data.toList) ++ post))) := by
    rw [e]; unfold entry; simp only [hc4, List.append_assoc]
  have t1 := text_at (most := ((sv most l).length : Int)) e1 hcl2 s1 (by omega) (r := ⟨pre.length, 0, 0⟩) rfl
  have e2 : sv most l = (pre ++ beN c.size 4 ++ c.data.toList) ++ (beN (u64 i) 8 ++ (beN (u64 r.size) 4 ++ r.data.toList ++ post)) := by
    rw [e1]; simp only [List.append_assoc]
  have p2 : (pre ++ beN c.size 4 ++ c.data.toList).length = pre.length + 4 + c.size := by simp [beN_length]; omega
  have t2 := get_at e2 (by omega) (r := ⟨pre.length + 4 + c.size, 0, 0⟩) (by rw [p2])
  rw [p2] at t2
  have e3 : sv most l = (pre ++ beN c.size 4 ++ c.data.toList ++ beN (u64 i) 8) ++ (beN r.size 4 ++ (r.data.toList ++ post)) := by
    rw [e2]; simp only [hr4, List.append_assoc]
  have p3 : (pre ++ beN c.size 4 ++ c.data.toList ++ beN (u64 i) 8).length = pre.length + 4 + c.size + 8 := by simp [beN_length]; omega
  have t3 := text_at (most := ((sv most l).length : Int)) e3 hrl2 s2 (by omega) (r := ⟨pre.length + 4 + c.size + 8, 0, 0⟩) (by rw [p3])
  rw [p3] at t3
  have hmkc : (⟨c.data.toList.toArray⟩ : ByteArray) = c := by cases c; simp
  have hmkr : (⟨r.data.toList.toArray⟩ : ByteArray) = r := by cases r; simp
  unfold ldStep
  simp only [hpre, t1, t2, t3, hmkc, hmkr, Bool.true_and]
  have hcl' : (l.take k).find? (is c) = none := hcl
  rw [hcl', i64_back i (G.ids _ hmem), hL, he, List.take_add_one, hx]
  simp only [Option.isNone_none, Option.toList_some]
  congr 2; omega

theorem load_all {most : Int} {l : List L3} (G : Good most l) : ∀ k, k ≤ l.length → ldK (sv most l) (⟨8, 0, 0⟩, true, []) k = (⟨(svk most l.length (l.take k)).length, 0, 0⟩, true, l.take k)
  | 0, _ => by simp [ldK, svk, beN_length]
  | k + 1, h => by
    rw [ldK, load_all G k (by omega)]
    exact load_step G (List.getElem?_eq_getElem (by omega))

theorem load_saved {most : Int} {l : List L3} (G : Good most l) : loadT (sv most l) = some (most, l) := by
  have hl := G.len
  have m1 := G.m1
  have m2 := G.m2
  obtain ⟨m, hm⟩ : ∃ m : Nat, most = m := ⟨most.toNat, by omega⟩
  have hA := load_all G l.length (Nat.le_refl _)
  rw [List.take_length] at hA
  have e : sv most l = [] ++ (beN m 4 ++ (beN l.length 4 ++ l.flatMap entry)) := by
    unfold sv svk; rw [hm, u64_nat m (by omega), u64_nat l.length (by omega)]; simp
  have g1 := get_at e (by omega) (r := ⟨0, 0, 0⟩) rfl
  have e2 : sv most l = beN m 4 ++ (beN l.length 4 ++ l.flatMap entry) := by rw [e]; simp
  have c1 := count_at (most := (m : Int)) e2 (by omega) (by omega) (r := ⟨4, 0, 0⟩) (by rw [beN_length])
  rw [beN_length] at c1
  simp only [List.length_nil, Nat.zero_add] at g1
  have hmm : m % 256 ^ 4 = m := Nat.mod_eq_of_lt (by omega)
  rw [hmm] at g1
  unfold loadT
  simp only [g1, c1, if_neg (show ¬ (m < 1 ∨ 64 < m) by omega)]
  rw [hA]
  have hend : (RS.end_ (sv most l) ⟨(svk most l.length l).length, 0, 0⟩) = (0, 0) := by
    unfold RS.end_ sv; simp
  simp only [hend]
  simp [hm]
end Go.Proofs.Ytmbmknhpfolkkaa
