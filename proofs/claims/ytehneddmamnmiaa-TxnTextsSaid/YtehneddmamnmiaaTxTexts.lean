/- The plain law of TxnTexts: the texts of all groups come in the order of the operations. -/
import Derived.Test.YtehneddmamnmiaaTxLeft
namespace Go.Proofs.Ytehneddmamnmiaa
open Go.RowKit Go.Maps Go.Cv Go.Shelf
set_option linter.unusedVariables false

/-- What the group votes at a place. -/
def txt (a : Int) : ByteArray := (⟨#[116, 101, 120, 116, 32]⟩ : ByteArray) ++ ⟨#[UInt8.ofNat (48 + a.toNat)]⟩
theorem conv_rune0 (w : World) : (convert 21 9 (.int .i32 48)).run Try.prog w = .ok (.string ⟨#[48]⟩) w := by kernel_rfl
theorem conv_320 (w : World) : (convert 3 21 (.int .i64 48)).run Try.prog w = .ok (.int .i32 48) w := by kernel_rfl
theorem conv_rune1 (w : World) : (convert 21 9 (.int .i32 49)).run Try.prog w = .ok (.string ⟨#[49]⟩) w := by kernel_rfl
theorem conv_321 (w : World) : (convert 3 21 (.int .i64 49)).run Try.prog w = .ok (.int .i32 49) w := by kernel_rfl
theorem conv_rune2 (w : World) : (convert 21 9 (.int .i32 50)).run Try.prog w = .ok (.string ⟨#[50]⟩) w := by kernel_rfl
theorem conv_322 (w : World) : (convert 3 21 (.int .i64 50)).run Try.prog w = .ok (.int .i32 50) w := by kernel_rfl
theorem conv_rune3 (w : World) : (convert 21 9 (.int .i32 51)).run Try.prog w = .ok (.string ⟨#[51]⟩) w := by kernel_rfl
theorem conv_323 (w : World) : (convert 3 21 (.int .i64 51)).run Try.prog w = .ok (.int .i32 51) w := by kernel_rfl
theorem conv_rune (q : Nat) (hq : q < 4) (w : World) : (convert 21 9 (.int .i32 (48 + (q : Int)))).run Try.prog w = .ok (.string ⟨#[UInt8.ofNat (48 + q)]⟩) w := by
  have : q = 0 ∨ q = 1 ∨ q = 2 ∨ q = 3 := by omega
  rcases this with rfl | rfl | rfl | rfl
  · exact conv_rune0 w
  · exact conv_rune1 w
  · exact conv_rune2 w
  · exact conv_rune3 w
theorem conv_32 (q : Nat) (hq : q < 4) (w : World) : (convert 3 21 (.int .i64 (48 + (q : Int)))).run Try.prog w = .ok (.int .i32 (48 + (q : Int))) w := by
  have : q = 0 ∨ q = 1 ∨ q = 2 ∨ q = 3 := by omega
  rcases this with rfl | rfl | rfl | rfl
  · exact conv_320 w
  · exact conv_321 w
  · exact conv_322 w
  · exact conv_323 w

theorem place_txt (out : List ByteArray) (ats : List Int) (hb : ∀ a ∈ ats, 0 ≤ a ∧ a < (out.length : Int)) : ∀ k, k ≤ ats.length → ∀ (p : Nat), p < out.length → ((p : Int) ∈ ats.take k → (place out ats (ats.map txt) k)[p]? = some (txt p)) ∧ ((p : Int) ∉ ats.take k → (place out ats (ats.map txt) k)[p]? = out[p]?)
  | 0, _, p, hp => ⟨fun h => by simp at h, fun _ => rfl⟩
  | k + 1, hk, p, hp => by
    obtain ⟨h1, h2⟩ := place_txt out ats hb k (by omega) p hp
    obtain ⟨a, ha⟩ : ∃ a, ats[k]? = some a := ⟨_, List.getElem?_eq_getElem (by omega)⟩
    obtain ⟨ha0, ha1⟩ := hb a (List.mem_of_getElem? ha)
    have htk : ats.take (k + 1) = ats.take k ++ [a] := by rw [List.take_add_one, ha]; rfl
    have hpl : place out ats (ats.map txt) (k + 1) = (place out ats (ats.map txt) k).set a.toNat (txt a) := by
      rw [place]
      have e1 : ats.getD k 0 = a := by rw [List.getD_eq_getElem?_getD, ha]; rfl
      have e2 : (ats.map txt).getD k ⟨#[]⟩ = txt a := by rw [List.getD_eq_getElem?_getD, List.getElem?_map, ha]; rfl
      rw [e1, e2]
    rw [htk, hpl, List.getElem?_set]
    have hlen := place_len out ats (ats.map txt) k
    by_cases e : a.toNat = p
    · have ea : a = (p : Int) := by omega
      subst ea
      rw [if_pos e, if_pos (by omega)]
      exact ⟨fun _ => rfl, fun h => absurd (by simp) h⟩
    · have ea : (p : Int) ≠ a := by omega
      rw [if_neg e]
      refine ⟨fun h => h1 ?_, fun h => h2 (fun h3 => h (List.mem_append.2 (.inl h3)))⟩
      rcases List.mem_append.1 h with h | h
      · exact h
      · simp at h; exact absurd h ea
theorem fill_txt (r : TxR) (hpl : ∀ x ∈ r.S, ∀ a ∈ x.2, 0 ≤ a ∧ a < (r.ops.length : Int)) (hv : ∀ x ∈ r.S, voteOf r x.1 = x.2.map txt) : ∀ n, n ≤ r.S.length → ∀ p, p < r.ops.length → (∃ x ∈ r.S.take n, (p : Int) ∈ x.2) → (fillT r n)[p]? = some (txt p)
  | 0, _, p, _, h => by obtain ⟨x, hx, _⟩ := h; simp at hx
  | n + 1, hn, p, hp, h => by
    obtain ⟨z, hz⟩ : ∃ z, r.S[n]? = some z := ⟨_, List.getElem?_eq_getElem (by omega)⟩
    have hzm := List.mem_of_getElem? hz
    have e : fillT r (n + 1) = place (fillT r n) z.2 (z.2.map txt) z.2.length := by rw [fillT, hz]; show place _ _ _ _ = _; rw [hv z hzm]
    obtain ⟨h1, h2⟩ := place_txt (fillT r n) z.2 (fun a ha => by rw [fillT_len]; exact hpl z hzm a ha) z.2.length (Nat.le_refl _) p (by rw [fillT_len]; exact hp)
    rw [List.take_length] at h1 h2
    rw [e]
    by_cases hm : (p : Int) ∈ z.2
    · exact h1 hm
    · rw [h2 hm]
      obtain ⟨x, hx, hxp⟩ := h
      rw [List.take_add_one, hz] at hx
      rcases List.mem_append.1 hx with hx | hx
      · exact fill_txt r hpl hv n (by omega) p hp ⟨x, hx, hxp⟩
      · simp at hx; subst hx; exact absurd hxp hm
theorem mem_idx {h : Nat → Int} {g : Int} : ∀ {n p : Nat}, p < n → h p = g → (p : Int) ∈ idx h g n
  | n + 1, p, hp, e => by
    rw [idx]
    by_cases ep : p = n
    · subst ep; rw [if_pos e]; simp
    · have := mem_idx (h := h) (g := g) (n := n) (p := p) (by omega) e
      split
      · exact List.mem_append.2 (.inl this)
      · exact this
theorem mem_splitG {h : Nat → Int} {n : Nat} : ∀ {m : Nat} {g : Nat}, g < m → idx h g n ≠ [] → ((g : Int), idx h g n) ∈ splitG h n m
  | m + 1, g, hg, hne => by
    rw [splitG]
    by_cases e : g = m
    · subst e; rw [if_neg hne]; simp
    · have := mem_splitG (h := h) (n := n) (m := m) (g := g) (by omega) hne
      split
      · exact this
      · exact List.mem_append.2 (.inl this)
/-- Each place is in some group's list. -/
theorem split_all {h : Nat → Int} {n : Nat} (hh : ∀ k, k < n → 0 ≤ h k ∧ h k < 3) {p : Nat} (hp : p < n) : ∃ x ∈ splitG h n 3, (p : Int) ∈ x.2 := by
  obtain ⟨h0, h1⟩ := hh p hp
  obtain ⟨g, hg⟩ : ∃ g : Nat, h p = (g : Int) := ⟨(h p).toNat, by omega⟩
  have hm := mem_idx (h := h) (g := (g : Int)) hp hg
  exact ⟨_, mem_splitG (by omega) (fun e => by rw [e] at hm; cases hm), hm⟩
theorem ownAt_lt {ep : Int} {l : List P3} (hr : rightM ep l = true) (ops : List O4) {k : Nat} (hk : k < ops.length) : 0 ≤ ownAt l ops k ∧ ownAt l ops k < 3 := by
  have hx : ops[k]? = some ops[k] := List.getElem?_eq_getElem hk
  have e : ownAt l ops k = ownF l (hashF ops[k].2.1) := by unfold ownAt; rw [hx]
  rw [e]
  obtain ⟨h0, h1⟩ := hashF_lt ops[k].2.1
  exact (right_own hr _ h0 h1).2

/-- The state behind the first i votes, of which the first is the k-th group's. -/
structure VT (r : TxR) (S : List (Int × List Int)) (ops : List O4) (k i : Nat) : Prop where
  good : Good r
  hS : r.S = S
  ho : r.ops = ops
  o : r.o = if i = S.length then 1 else 0
  pos : r.pos = 0
  why : r.why = 0
  K : r.K = []
  vl : r.V.length = i
  vt : ∀ x ∈ r.V, x.2 = (atOf r x.1).map txt
  vk : ∀ g ∈ keys r, ∃ j, j < i ∧ ∃ z, S[(j + k) % S.length]? = some z ∧ g = z.1
theorem VT.start (tx : ByteArray) (ops : List O4) (ep : Int) (l : List P3) (h4 : ops.length ≤ 4) (k : Nat) (h0 : splitG (ownAt l ops) ops.length 3 ≠ []) : VT (newR tx ops ep l) (splitG (ownAt l ops) ops.length 3) ops k 0 where
  good := good_new _ _ _ _ h4
  hS := rfl
  ho := rfl
  o := by rw [if_neg (fun e => h0 (List.eq_nil_of_length_eq_zero e.symm))]; rfl
  pos := rfl
  why := rfl
  K := rfl
  vl := rfl
  vt := fun x hx => absurd hx List.not_mem_nil
  vk := fun g hg => absurd hg List.not_mem_nil
theorem nodup_get {α : Type} : ∀ {l : List α}, l.Nodup → ∀ {i j : Nat} {x : α}, l[i]? = some x → l[j]? = some x → i = j
  | [], _, _, _, _, h, _ => by simp at h
  | a :: t, hn, 0, 0, x, _, _ => rfl
  | a :: t, hn, 0, j + 1, x, h, h2 => by
    rw [List.nodup_cons] at hn
    simp at h h2; subst h
    exact absurd (List.mem_of_getElem? h2) hn.1
  | a :: t, hn, i + 1, 0, x, h, h2 => by
    rw [List.nodup_cons] at hn
    simp at h h2; subst h2
    exact absurd (List.mem_of_getElem? h) hn.1
  | a :: t, hn, i + 1, j + 1, x, h, h2 => by
    rw [List.nodup_cons] at hn
    exact congrArg (· + 1) (nodup_get hn.2 (i := i) (j := j) (x := x) (by simpa using h) (by simpa using h2))
theorem mod_ne {i j k n : Nat} (hi : i < n) (hj : j < i) : (j + k) % n ≠ (i + k) % n := by
  intro e
  have h1 := Nat.div_add_mod (j + k) n
  have h2 := Nat.div_add_mod (i + k) n
  rw [e] at h1
  have h3 : n * ((i + k) / n) - n * ((j + k) / n) = i - j := by omega
  rw [← Nat.mul_sub] at h3
  rcases Nat.eq_zero_or_pos ((i + k) / n - (j + k) / n) with h | h
  · rw [h] at h3; omega
  · have := Nat.le_mul_of_pos_right n h
    omega
theorem VT.next {r : TxR} {S : List (Int × List Int)} {ops : List O4} {k i : Nat} (h : VT r S ops k i) (hi : i < S.length) {z : Int × List Int} (hz : S[(i + k) % S.length]? = some z) : VT (voteR r z.1 true (z.2.map txt) 0 0) S ops k (i + 1) := by
  have hzm : z ∈ r.S := by rw [h.hS]; exact List.mem_of_getElem? hz
  have hzg : z.1 ∈ grp r := List.mem_map_of_mem (f := (·.1)) hzm
  have hzk : z.1 ∉ keys r := by
    intro hm
    obtain ⟨j, hj, y, hy, e⟩ := h.vk _ hm
    have hn := h.good.gnd
    unfold grp at hn
    rw [h.hS] at hn
    have h1 := (List.getElem?_eq_some_iff.1 hz).1
    have h2 := (List.getElem?_eq_some_iff.1 hy).1
    exact mod_ne hi hj (nodup_get hn (x := z.1) (by rw [List.getElem?_map, hy]; simp [e]) (by rw [List.getElem?_map, hz]; rfl))
  have hat := atOf_mem h.good.gnd hzm
  have hv : voteR r z.1 true (z.2.map txt) 0 0 = { r with V := r.V ++ [(z.1, z.2.map txt)], o := if r.V.length + 1 = r.S.length then 1 else 0 } := by
    unfold voteR
    rw [if_neg (by intro hh; rcases hh with hh | hh | hh
                   · rw [h.o, if_neg (by omega)] at hh; exact hh rfl
                   · exact hh hzg
                   · exact hzk hh), if_neg (by simp), if_neg (by rw [hat]; simp)]
  have hgood := good_vote h.good z.1 true (z.2.map txt) 0 0
  rw [hv] at hgood ⊢
  refine ⟨hgood, h.hS, h.ho, ?_, h.pos, h.why, h.K, by show (r.V ++ [_]).length = _; simp [h.vl], ?_, ?_⟩
  · show (if r.V.length + 1 = r.S.length then (1 : Int) else 0) = _
    rw [h.vl, h.hS]
  · intro x hx
    rcases List.mem_append.1 hx with hx | hx
    · exact h.vt x hx
    · simp at hx; subst hx
      show z.2.map txt = (atOf r z.1).map txt
      rw [hat]
  · intro g hg
    have hg : g ∈ (r.V ++ [(z.1, z.2.map txt)]).map (·.1) := hg
    rw [List.map_append] at hg
    rcases List.mem_append.1 hg with hg | hg
    · obtain ⟨j, hj, y, hy, e⟩ := h.vk g hg
      exact ⟨j, by omega, y, hy, e⟩
    · simp at hg; subst hg; exact ⟨i, by omega, z, hz, rfl⟩
theorem VT.texts {r : TxR} {ops : List O4} {h : Nat → Int} {k : Nat} (hv : VT r (splitG h ops.length 3) ops k (splitG h ops.length 3).length) (hh : ∀ k, k < ops.length → 0 ≤ h k ∧ h k < 3) :
    r.o = 1 ∧ (textsR r).length = ops.length ∧ ∀ p, p < ops.length → (textsR r)[p]? = some (txt p) := by
  have ho : r.o = 1 := by rw [hv.o, if_pos rfl]
  have ht : textsR r = fillT r r.S.length := by unfold textsR; rw [if_pos ho]
  refine ⟨ho, by rw [ht, fillT_len, hv.ho], fun p hp => ?_⟩
  rw [ht]
  refine fill_txt r hv.good.pl (fun x hx => ?_) r.S.length (Nat.le_refl _) p (by rw [hv.ho]; exact hp) (by rw [List.take_length, hv.hS]; exact split_all hh hp)
  obtain ⟨ts, h1, _⟩ := hv.good.ok.all ho x hx
  have h2 : ts = (atOf r x.1).map txt := hv.vt _ h1
  rw [voteOf_eq hv.good.vnd h1, h2]
  rw [atOf_mem hv.good.gnd hx]
theorem VT.left {r : TxR} {S : List (Int × List Int)} {ops : List O4} {k i : Nat} (h : VT r S ops k i) : leftL r = S.map (·.1) := by
  unfold leftL grp
  rw [h.hS, List.filter_eq_self]
  intro g _
  unfold ackB
  rw [h.K]; simp
end Go.Proofs.Ytehneddmamnmiaa
