/- The methods of the document's Log. -/
import Derived.Test.YtpjdepepgfimeaaRefLog
import Derived.Great.Ranges
namespace Go.Proofs.Ytpjdepepgfimeaa
open Go.RowKit Go.Maps Go.Cv
set_option linter.unusedVariables false

theorem builtRL : (Try.prog.built 51 []).isSome = true := by kernel_rfl
theorem builtRL_eq : Try.prog.built 51 [] = some (Array.replicate 512 (.string ⟨#[]⟩) ++ Array.replicate 512 (.bool false) ++ #[.int .i64 0, .int .i64 0]) := by kernel_rfl
/-- The cells of an empty Log. -/
def LC0 (cs : Array Value) : Prop := ∀ w : World, RL (w.alloc (.cells cs 51)) w.heap.size (fun _ => none) 0 0
theorem lc0 : LC0 (Array.replicate 512 (.string ⟨#[]⟩) ++ Array.replicate 512 (.bool false) ++ #[.int .i64 0, .int .i64 0]) := fun w =>
  ⟨_, block_alloc _ _, by simp, fun i hi => ⟨by rw [Array.getElem?_append_left (by simp; omega), Array.getElem?_append_left (by simp; omega), Array.getElem?_replicate, if_pos hi]; rfl, by rw [Array.getElem?_append_left (by simp; omega), Array.getElem?_append_right (by simp), Array.getElem?_replicate, if_pos (by simp; omega)]; rfl⟩, by rw [Array.getElem?_append_right (by simp)]; simp, by rw [Array.getElem?_append_right (by simp)]; simp⟩
section
variable {ops : Array Oper} {rest : List Oper} {o : Oper} {a : Act} {w : World} {Q : Exit → Act → World → Prop}
theorem wpList_build_log (hg : o.guard = none) (ho : o.op = .build 51 #[])
    (h : ∀ cs, LC0 cs → wpList Try.prog ops Q rest (a.put o.dst (.agg cs)) w) : wpList Try.prog ops Q (o :: rest) a w := by
  have e : ((#[] : Array (Nat × Operand)).map fun (i, x) => (i, a.eval x)).toList = [] := by simp
  refine wpList_build hg _ _ ho (by rw [e]; exact builtRL) ?_
  rw [e, builtRL_eq]
  exact h _ lc0
theorem wpList_box_log (hg : o.guard = none) (x : Operand) (ho : o.op = .box 51 x) (cs : Array Value) (hx : a.eval x = .agg cs) (hc : LC0 cs)
    (h : ∀ w', RL w' w.heap.size (fun _ => none) 0 0 → Fr (fun _ => False) w w' → wpList Try.prog ops Q rest (a.put o.dst (.pointer (some ⟨w.heap.size, 0, none⟩))) w') : wpList Try.prog ops Q (o :: rest) a w :=
  Go.Great.wpList_boxTo hg _ x ho _ rfl _ rfl cs (by rw [hx]; rfl) (h _ (hc w) (Fr.alloc _ _ _))
end

set_option maxRecDepth 100000 in
theorem rLearn_new (w : World) (b : Nat) (f : Int → Option ByteArray) (base taken : Int) (h : RL w b f base taken) (s : Int) (v : ByteArray)
    (h0 : 0 ≤ s) (h1 : s < 512) (h2 : base ≤ s) (h3 : f s = none) :
    Calls Try.prog 22 #[.pointer (some ⟨b, 0, none⟩), .int .i64 s, .string v] w fun e w' => e = .returned (.int .i64 0) ∧ RL w' b (fput f s v) base taken ∧ Fr (fun k => k = b) w w' := by
  obtain ⟨n, rfl⟩ : ∃ n : Nat, s = n := ⟨s.toNat, by omega⟩
  have hn : n < 512 := by omega
  have cb := h.cb
  have ck : w.cell? ⟨b, 512 + n, none⟩ = some (.bool false) := by rw [h.k n hn, h3]; rfl
  have fk := h.free (512 + n)
  have cv : (w.setCell ⟨b, 512 + n, none⟩ (.bool true)).cell? ⟨b, n, none⟩ = some (.string ((f n).getD ⟨#[]⟩)) := by
    rw [← h.v n hn]
    obtain ⟨cs, q1, q2, _⟩ := h
    rw [cell_of_block (block_setCell q1 _), cell_of_block q1, Array.getElem?_setIfInBounds_ne (by omega)]
  have fv : (w.setCell ⟨b, 512 + n, none⟩ (.bool true)).frozen? ⟨b, n, none⟩ = false := by
    obtain ⟨cs, q1, q2, _⟩ := h
    exact free_of_block (block_setCell q1 _)
  have hset := h.set n hn (some v)
  have HS := hide hset
  have HH := hide h
  have H3 := hide h3
  clear hset h h3
  go_enter Try.func22, Try.ntmps22
  go_wp2
  go_ret
  refine ⟨rfl, HS.out, ?_⟩
  exact (Fr.setCell (S := fun k => k = b) _ _ _ rfl).trans (Fr.setCell (S := fun k => k = b) _ _ _ rfl) (fun _ _ h => h)

set_option maxRecDepth 100000 in
theorem rLearn_old (w : World) (b : Nat) (f : Int → Option ByteArray) (base taken : Int) (h : RL w b f base taken) (s : Int) (v : ByteArray) (r : Int)
    (hr : (s < 0 ∨ 512 ≤ s) ∧ r = 1 ∨ (0 ≤ s ∧ s < 512 ∧ s < base ∧ r = 0) ∨ (0 ≤ s ∧ s < 512 ∧ base ≤ s ∧ ∃ u, f s = some u ∧ ((u = v ∧ r = 0) ∨ (u ≠ v ∧ r = 37)))) :
    Calls Try.prog 22 #[.pointer (some ⟨b, 0, none⟩), .int .i64 s, .string v] w fun e w' => e = .returned (.int .i64 r) ∧ w = w' := by
  have cb := h.cb
  rcases hr with ⟨hr, rfl⟩ | ⟨h2, h3, h4, rfl⟩ | ⟨h2, h3, h4, u, hu, hr⟩
  · clear h
    rcases hr with hr | hr
    all_goals
      go_enter Try.func22, Try.ntmps22
      go_wp2
      go_ret
      exact ⟨rfl, rfl⟩
  · clear h
    go_enter Try.func22, Try.ntmps22
    go_wp2
    go_ret
    exact ⟨rfl, rfl⟩
  · obtain ⟨n, rfl⟩ : ∃ n : Nat, s = n := ⟨s.toNat, by omega⟩
    have hn : n < 512 := by omega
    have ck : w.cell? ⟨b, 512 + n, none⟩ = some (.bool true) := by rw [h.k n hn, hu]; rfl
    have cv : w.cell? ⟨b, n, none⟩ = some (.string u) := by rw [h.v n hn, hu]; rfl
    clear hu h
    rcases hr with ⟨hr, rfl⟩ | ⟨hr, rfl⟩
    · subst hr
      go_enter Try.func22, Try.ntmps22
      go_wp2
      go_ret
      exact ⟨rfl, rfl⟩
    · have hne := bytes_beq hr
      go_enter Try.func22, Try.ntmps22
      go_wp2
      go_ret
      exact ⟨rfl, rfl⟩

set_option maxRecDepth 100000 in
theorem rGet_any (w : World) (b : Nat) (f : Int → Option ByteArray) (base taken : Int) (h : RL w b f base taken) (s : Int) (hout : s < base ∨ s < 0 ∨ 512 ≤ s → f s = none) :
    Calls Try.prog 26 #[.pointer (some ⟨b, 0, none⟩), .int .i64 s] w fun e w' => e = .returned (.tuple #[.string ((f s).getD ⟨#[]⟩), .bool (f s).isSome]) ∧ w = w' := by
  have cb := h.cb
  by_cases h1 : s < base ∨ s < 0 ∨ 512 ≤ s
  · have hf := hout h1
    rw [hf]
    have h2 : s < base ∨ (¬ s < base ∧ s < 0) ∨ (¬ s < base ∧ ¬ s < 0 ∧ 512 ≤ s) := by omega
    clear hout h hf h1
    rcases h2 with h2 | ⟨h2, h3⟩ | ⟨h2, h3, h4⟩
    all_goals
      go_enter Try.func26, Try.ntmps26
      go_wp2
      go_ret2
      exact ⟨rfl, rfl⟩
  · clear hout
    obtain ⟨n, rfl⟩ : ∃ n : Nat, s = n := ⟨s.toNat, by omega⟩
    have hn : n < 512 := by omega
    have i0 : ¬ (n : Int) < base := by omega
    have i1 : ¬ (n : Int) < 0 := by omega
    have i2 : (n : Int) < 512 := by omega
    have i3 : (0 : Int) ≤ (n : Int) := by omega
    have ck := h.k n hn
    have cv := h.v n hn
    clear h h1
    cases hf : f n with
    | none =>
      rw [hf] at ck cv
      simp only [Option.isSome_none, Option.getD_none] at ck cv ⊢
      clear hf
      go_enter Try.func26, Try.ntmps26
      go_wp2
      go_ret2
      exact ⟨rfl, rfl⟩
    | some u =>
      rw [hf] at ck cv
      simp only [Option.isSome_some, Option.getD_some] at ck cv ⊢
      clear hf
      go_enter Try.func26, Try.ntmps26
      go_wp2
      go_ret2
      exact ⟨rfl, rfl⟩

set_option maxRecDepth 100000 in
theorem rNext_any (w : World) (b : Nat) (f : Int → Option ByteArray) (base taken r : Int) (h : RL w b f base taken) (h0 : 0 ≤ base) (hr : IsNext f base r) (h1 : r ≤ 512) :
    Calls Try.prog 27 #[.pointer (some ⟨b, 0, none⟩)] w fun e w' => e = .returned (.int .i64 r) ∧ w' = w := by
  have cb := h.cb
  obtain ⟨hr1, hr2, hr3⟩ := hr
  have HR2 := hide hr2
  have HR3 := hide hr3
  have HH := hide h
  clear hr2 hr3 h
  go_enter Try.func27, Try.ntmps27
  go_wp2
  go_loop [3] (fun i => ∃ k : Nat, base ≤ k ∧ (k : Int) ≤ r ∧ i = .int .i64 k) (fun i => (r - intOf i).toNat)
  case atStart => exact ⟨base.toNat, by omega, by omega, by rw [Int.toNat_of_nonneg h0]⟩
  case round =>
    obtain ⟨k, hk1, hk2, rfl⟩ := hrel
    by_cases hlt : (k : Int) < r
    · have i1 : (k : Int) < 512 := by omega
      obtain ⟨u, hu⟩ := HR2.out k hk1 hlt
      have ck : w.cell? ⟨b, 512 + k, none⟩ = some (.bool true) := by rw [HH.out.k k (by omega), hu]; rfl
      clear hu
      go_wp2
      go_round
      case rel => exact ⟨k + 1, by omega, by omega, by go_num⟩
      case measure => simp [intOf]; omega
    · obtain rfl : (k : Int) = r := by omega
      by_cases h5 : k = 512
      · subst h5
        go_wp2
        go_ret
        exact ⟨rfl, rfl⟩
      · have i1 : (k : Int) < 512 := by omega
        have ck : w.cell? ⟨b, 512 + k, none⟩ = some (.bool false) := by rw [HH.out.k k (by omega), HR3.out]; rfl
        go_wp2
        go_ret
        exact ⟨rfl, rfl⟩

set_option maxRecDepth 100000 in
theorem rForget_any (w : World) (b : Nat) (f : Int → Option ByteArray) (base taken : Int) (h : RL w b f base taken) (k : Int) (hk0 : 0 ≤ k) (hk1 : k ≤ 512) :
    Calls Try.prog 30 #[.pointer (some ⟨b, 0, none⟩), .int .i64 k] w fun e w' => e = .returned (.tuple #[]) ∧ RL w' b (fdel f k) k taken ∧ Fr (fun k => k = b) w w' := by
  obtain ⟨n, rfl⟩ : ∃ n : Nat, k = n := ⟨k.toNat, by omega⟩
  have hn : n ≤ 512 := by omega
  have HH := hide h
  clear h
  go_enter Try.func30, Try.ntmps30
  go_wp2
  go_loopw [4] (fun i wr => ∃ m : Nat, i = .int .i64 m ∧ m ≤ n ∧ RL wr b (fdel f m) base taken ∧ Fr (fun k => k = b) w wr) (fun i _ => n - (intOf i).toNat)
  case atStart => exact ⟨0, rfl, Nat.zero_le _, HH.out.congr (fun i h0 h1 => by unfold fdel; rw [if_neg (by omega)]), Fr.refl _ _⟩
  case round =>
    obtain ⟨m, rfl, hm, hl, hf⟩ := hrel
    by_cases hlt : m < n
    · have i1 : (m : Int) < (n : Int) := by omega
      have i2 : (m : Int) < 512 := by omega
      have i3 : (0 : Int) ≤ (m : Int) := by omega
      have hm5 : m < 512 := by omega
      have fk := hl.free (512 + m)
      have ck := hl.k m hm5
      have cv : (wr.setCell ⟨b, 512 + m, none⟩ (.bool false)).cell? ⟨b, m, none⟩ = some (.string ((fdel f m m).getD ⟨#[]⟩)) := by
        rw [← hl.v m hm5]
        obtain ⟨cs, q1, q2, _⟩ := hl
        rw [cell_of_block (block_setCell q1 _), cell_of_block q1, Array.getElem?_setIfInBounds_ne (by omega)]
      have fv : (wr.setCell ⟨b, 512 + m, none⟩ (.bool false)).frozen? ⟨b, m, none⟩ = false := by
        obtain ⟨cs, q1, q2, _⟩ := hl
        exact free_of_block (block_setCell q1 _)
      have HS := hide (hl.set m hm5 none)
      have HF := hide hf
      clear hl hf
      go_wp2
      go_roundw
      case rel =>
        refine ⟨m + 1, by go_num, by omega, HS.out.congr (fun i h0 h1 => ?_), ?_⟩
        · unfold fdel
          by_cases e : i = (m : Int)
          · rw [if_pos (by omega), if_pos e]
          · rw [if_neg e]
            by_cases e2 : i < (m : Int)
            · rw [if_pos (by omega), if_pos e2]
            · rw [if_neg (by omega), if_neg e2]
        · exact HF.out.trans ((Fr.setCell (S := fun k => k = b) _ _ _ rfl).trans (Fr.setCell (S := fun k => k = b) _ _ _ rfl) (fun _ _ h => h)) (fun _ _ h => h)
      case measure => simp [intOf]; omega
    · obtain rfl : m = n := by omega
      have cb := hl.cb
      have fb := hl.free 1024
      have HS := hide (hl.setBase (m : Int))
      have HF := hide hf
      clear hl hf
      go_wp2
      go_end0
      exact ⟨rfl, HS.out, HF.out.trans (Fr.setCell (S := fun k => k = b) _ _ _ rfl) (fun _ _ h => h)⟩

set_option maxRecDepth 100000 in
theorem rCompact_no (w : World) (b : Nat) (f : Int → Option ByteArray) (base taken : Int) (h : RL w b f base taken) (k : Int) (hk : k < base ∨ taken < k) :
    Calls Try.prog 24 #[.pointer (some ⟨b, 0, none⟩), .int .i64 k] w fun e w' => e = .returned (.int .i64 1) ∧ w = w' := by
  have c1 := h.cb
  have c2 := h.ct
  clear h
  by_cases h1 : k < base
  · go_enter Try.func24, Try.ntmps24
    go_wp2
    go_ret
    exact ⟨rfl, rfl⟩
  · have h2 : taken < k := by omega
    clear hk
    go_enter Try.func24, Try.ntmps24
    go_wp2
    go_ret
    exact ⟨rfl, rfl⟩
set_option maxRecDepth 100000 in
theorem rCompact_yes (w : World) (b : Nat) (f : Int → Option ByteArray) (base taken : Int) (h : RL w b f base taken) (k : Int) (h0 : 0 ≤ k) (h5 : k ≤ 512) (h1 : base ≤ k) (h2 : k ≤ taken) :
    Calls Try.prog 24 #[.pointer (some ⟨b, 0, none⟩), .int .i64 k] w fun e w' => e = .returned (.int .i64 0) ∧ RL w' b (fdel f k) k taken ∧ Fr (fun j => j = b) w w' := by
  have c1 := h.cb
  have c2 := h.ct
  have HH := hide h
  clear h
  go_enter Try.func24, Try.ntmps24
  go_wp2_with fail
  refine (rForget_any _ b f base taken HH.out k h0 h5).mono ?_
  rintro e w1 ⟨rfl, hl, hfr⟩
  have HL := hide hl
  clear hl
  go_wp2_with fail
  go_ret
  exact ⟨rfl, HL.out, hfr⟩
set_option maxRecDepth 100000 in
theorem rJump_no (w : World) (b : Nat) (f : Int → Option ByteArray) (base taken : Int) (h : RL w b f base taken) (k r : Int) (hk : (k < 0 ∨ 512 < k) ∧ r = 1 ∨ (0 ≤ k ∧ k ≤ 512 ∧ k ≤ taken ∧ r = 0)) :
    Calls Try.prog 25 #[.pointer (some ⟨b, 0, none⟩), .int .i64 k] w fun e w' => e = .returned (.int .i64 r) ∧ w = w' := by
  have c2 := h.ct
  clear h
  rcases hk with ⟨hk | hk, rfl⟩ | ⟨h1, h2, h3, rfl⟩
  all_goals
    go_enter Try.func25, Try.ntmps25
    go_wp2
    go_ret
    exact ⟨rfl, rfl⟩
set_option maxRecDepth 100000 in
theorem rJump_yes (w : World) (b : Nat) (f : Int → Option ByteArray) (base taken : Int) (h : RL w b f base taken) (k : Int) (h0 : 0 ≤ k) (h1 : k ≤ 512) (h2 : taken < k) :
    Calls Try.prog 25 #[.pointer (some ⟨b, 0, none⟩), .int .i64 k] w fun e w' => e = .returned (.int .i64 0) ∧ RL w' b (fdel f k) k k ∧ Fr (fun j => j = b) w w' := by
  have c2 := h.ct
  have HH := hide h
  clear h
  go_enter Try.func25, Try.ntmps25
  go_wp2_with fail
  refine (rForget_any _ b f base taken HH.out k h0 h1).mono ?_
  rintro e w1 ⟨rfl, hl, hfr⟩
  have c3 := hl.ct
  have f3 := hl.free 1025
  have HL := hide (hl.setTaken k)
  clear hl
  go_wp2_with fail
  go_ret
  exact ⟨rfl, HL.out, hfr.trans (Fr.setCell (S := fun j => j = b) _ _ _ rfl) (fun _ _ h => h)⟩
end Go.Proofs.Ytpjdepepgfimeaa
