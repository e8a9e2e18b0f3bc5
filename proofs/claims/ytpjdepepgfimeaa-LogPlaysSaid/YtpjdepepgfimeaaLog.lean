/- The methods of log.Log, each walked once. -/
import Derived.Test.YtpjdepepgfimeaaRows
import Derived.Test.YtpjdepepgfimeaaKit
import Derived.WalkLawsBesides
import Derived.WalkSpells
import Derived.BigQuiet
import Derived.Deep.QuietTactic
import Derived.Outline
import Derived.Deep.RegionHeld3
import Derived.Deep.AppendLies

namespace Go.Proofs.Ytpjdepepgfimeaa
open Go.RowKit Go.Maps Go.Cv

/-- What a log's map holds. -/
def lm (f : Int → Option ByteArray) : Lit → Option Value
  | .int .i64 i => (f i).map .string
  | _ => none

theorem lm_at (f : Int → Option ByteArray) (i : Int) : lm f (.int .i64 i) = (f i).map .string := rfl

def fput (f : Int → Option ByteArray) (s : Int) (v : ByteArray) : Int → Option ByteArray := fun i => if i = s then some v else f i

theorem lm_put (f : Int → Option ByteArray) (s : Int) (v : ByteArray) (l : Lit) : lm (fput f s v) l = put (lm f) (.int .i64 s) (.string v) l := by
  unfold put
  split
  · rename_i h; subst h; simp [lm, fput]
  · rename_i h
    match l, h with
    | .int .i64 i, h =>
      have : i ≠ s := fun e => h (by rw [e])
      simp [lm, fput, this]
    | .int .i8 _, _ | .int .i16 _, _ | .int .i32 _, _ | .int .u8 _, _ | .int .u16 _, _ | .int .u32 _, _ | .int .u64 _, _ => rfl
    | .bool _, _ | .float _ _, _ | .string _, _ | .nil, _ => rfl

/-- Block lb is a Log: its map in block bm holds f (at most n entries); where it begins; what was taken. -/
structure Lg (w : World) (lb bm n : Nat) (f : Int → Option ByteArray) (base taken : Int) : Prop where
  blk : w.heap[lb]? = some (.cells #[.map (some bm), .int .i64 base, .int .i64 taken] 56 (0, 0))
  map : mapF w Try.prog 3 bm n (lm f)
  ne : lb ≠ bm

theorem Lg.heap {w w' : World} {lb bm n : Nat} {f : Int → Option ByteArray} {base taken : Int} (h : Lg w lb bm n f base taken) (h1 : w'.heap[lb]? = w.heap[lb]?) (h2 : w'.heap[bm]? = w.heap[bm]?) : Lg w' lb bm n f base taken :=
  ⟨h1.trans h.blk, h.map.of_block h2, h.ne⟩
theorem Lg.fr {w w' : World} {lb bm n : Nat} {f : Int → Option ByteArray} {base taken : Int} (h : Lg w lb bm n f base taken) {S : Nat → Prop} (g : Fr S w w') (h1 : ¬ S lb) (h2 : ¬ S bm) : Lg w' lb bm n f base taken :=
  h.heap (g.block _ (lt_of_block h.blk) h1) (g.block _ h.map.lt h2)

theorem Lg.grown {w w2 : World} {lb bm n : Nat} {f : Int → Option ByteArray} {base taken : Int} (h : Lg w lb bm n f base taken) {o : Obj} {v : Value} (hg : (w.alloc o).drew.grownBy w2 v.ownBlock) (hn : ∀ k, v.ownBlock = some k → k ≠ lb ∧ k ≠ bm) : Lg w2 lb bm n f base taken := by
  have h1 := lt_of_block h.blk
  have h2 := h.map.lt
  refine h.heap ((hg.block lb (by simp; omega) (fun e => (hn _ e.symm).1 rfl)).trans (Below.heap_alloc _ _ _ h1)) ((hg.block bm (by simp; omega) (fun e => (hn _ e.symm).2 rfl)).trans (Below.heap_alloc _ _ _ h2))

theorem Lg.grew {w w2 : World} {lb bm n : Nat} {f : Int → Option ByteArray} {base taken : Int} (h : Lg w lb bm n f base taken) {v : Value} (hg : w.grownBy w2 v.ownBlock) (hn : ∀ k, v.ownBlock = some k → k ≠ lb ∧ k ≠ bm) : Lg w2 lb bm n f base taken :=
  h.heap (hg.block lb (lt_of_block h.blk) (fun e => (hn _ e.symm).1 rfl)) (hg.block bm h.map.lt (fun e => (hn _ e.symm).2 rfl))

theorem Lg.took {w : World} {lb bm n : Nat} {f : Int → Option ByteArray} {base taken : Int} (h : Lg w lb bm n f base taken) (t : Int) : Lg (w.setCell ⟨lb, 2, none⟩ (.int .i64 t)) lb bm n f base t :=
  ⟨by rw [block_setCell h.blk]; rfl, h.map.of_block (Below.heap_setCell _ _ _ _ h.ne.symm), h.ne⟩

theorem law : Keyed Try.prog 3 := int_keyed Try.underlying3
theorem zeroS (w : World) : (zeroValue 9).run Try.prog w = .ok (.string ⟨#[]⟩) w := by kernel_rfl

theorem new_any (w : World) :
    Calls Try.prog 9 #[] w fun e w' => ∃ lb bm, e = .returned (.pointer (some ⟨lb, 0, none⟩)) ∧ w.heap.size ≤ lb ∧ w.heap.size ≤ bm ∧ Lg w' lb bm 0 (fun _ => none) 0 0 ∧ Fr (fun _ => False) w w' := by
  have hmm := @run_makeMap Try.prog
  go_enter Try.func9, Try.ntmps9
  go_wp2
  go_ret
  refine ⟨_, _, rfl, Nat.le_succ _, Nat.le_refl _, ⟨?_, ?_, ?_⟩, ?_⟩
  · simpa using block_alloc (w.alloc (.map #[] 0)) (.cells #[.map (some w.heap.size), .int .i64 0, .int .i64 0] 56 (0, 0))
  · exact ((mapF_made w Try.prog 3).of_block (Below.heap_alloc _ _ _ (by simp))).congr (fun l => by unfold lm; split <;> rfl)
  · omega
  · exact ((Fr.alloc _ w _).trans (Fr.alloc (fun _ => False) _ _) (fun _ _ h => h))

/-- Known, and no more than that. -/
theorem learn_new (w : World) (lb bm n : Nat) (f : Int → Option ByteArray) (base taken : Int) (h : Lg w lb bm n f base taken) (hn : n < maxLen) (s : Int) (v : ByteArray)
    (h0 : 0 ≤ s) (h1 : s < 512) (h2 : base ≤ s) (h3 : f s = none) :
    Calls Try.prog 10 #[.pointer (some ⟨lb, 0, none⟩), .int .i64 s, .string v] w fun e w' => e = .returned (.int .i64 0) ∧ Lg w' lb bm (n + 1) (fput f s v) base taken ∧ Fr (fun k => k = bm) w w' := by
  have c0 : w.cell? ⟨lb, 0, none⟩ = some (.map (some bm)) := by rw [cell_of_block h.blk]; rfl
  have c1 : w.cell? ⟨lb, 1, none⟩ = some (.int .i64 base) := by rw [cell_of_block h.blk]; rfl
  have hkey : keyOf Try.prog 3 (.int .i64 s) = some (.int .i64 s) := keyOf_int_mk Try.underlying3 (WalkArith.wf_i64 (by omega))
  have hmap := h.map
  have hf : (lm f (.int .i64 s)).isSome = false := by simp [lm, h3]
  have hf2 : (lm f (.int .i64 s)).getD (.string ⟨#[]⟩) = .string ⟨#[]⟩ := by simp [lm, h3]
  go_enter Try.func10, Try.ntmps10
  go_wp2_with (first
    | (at_lookup; refine wpList_lookup_mf _ rfl _ _ 54 rfl 3 9 law Try.underlying54 (zeroS _) bm n _ rfl hmap _ _ rfl hkey _ false hf2 hf ?_)
    | (at_mapUpdate; refine wpList_store_mf _ rfl _ _ _ 54 rfl 3 9 law Try.underlying54 bm n _ rfl hmap hn _ _ _ rfl rfl hkey ?_; intro w1 hmap1 hturn1)
    | go_in)
  go_ret
  refine ⟨rfl, ⟨?_, hmap1.congr (lm_put f s v), h.ne⟩, Fr.turned hturn1 rfl⟩
  rw [hturn1.grown.block lb (lt_of_block h.blk) (by simpa using h.ne)]; exact h.blk

/-- The call leaves all as it is. -/
theorem learn_old (w : World) (lb bm n : Nat) (f : Int → Option ByteArray) (base taken : Int) (h : Lg w lb bm n f base taken) (s : Int) (v : ByteArray) (r : Int)
    (h0 : -9223372036854775808 ≤ s) (h1 : s < 9223372036854775808)
    (hr : (s < 0 ∨ 512 ≤ s) ∧ r = 1 ∨ (0 ≤ s ∧ s < 512 ∧ s < base ∧ r = 0) ∨ (0 ≤ s ∧ s < 512 ∧ base ≤ s ∧ ∃ u, f s = some u ∧ ((u = v ∧ r = 0) ∨ (u ≠ v ∧ r = 37)))) :
    Calls Try.prog 10 #[.pointer (some ⟨lb, 0, none⟩), .int .i64 s, .string v] w fun e w' => e = .returned (.int .i64 r) ∧ w = w' := by
  have c0 : w.cell? ⟨lb, 0, none⟩ = some (.map (some bm)) := by rw [cell_of_block h.blk]; rfl
  have c1 : w.cell? ⟨lb, 1, none⟩ = some (.int .i64 base) := by rw [cell_of_block h.blk]; rfl
  have hkey : keyOf Try.prog 3 (.int .i64 s) = some (.int .i64 s) := keyOf_int_mk Try.underlying3 (WalkArith.wf_i64 (by omega))
  have hmap := h.map
  rcases hr with ⟨hr, rfl⟩ | ⟨h2, h3, h4, rfl⟩ | ⟨h2, h3, h4, u, hu, hr⟩
  · rcases hr with hr | hr
    all_goals
      go_enter Try.func10, Try.ntmps10
      go_wp2
      go_ret
      exact ⟨rfl, rfl⟩
  · obtain ⟨ok, hf⟩ : ∃ ok, (lm f (.int .i64 s)).isSome = ok := ⟨_, rfl⟩
    obtain ⟨u, hf2⟩ : ∃ u, (lm f (.int .i64 s)).getD (.string ⟨#[]⟩) = .string u := by
      cases e : f s
      · exact ⟨⟨#[]⟩, by simp [lm, e]⟩
      · exact ⟨_, by simp [lm, e]; rfl⟩
    go_enter Try.func10, Try.ntmps10
    go_wp2_with (first
      | (at_lookup; refine wpList_lookup_mf _ rfl _ _ 54 rfl 3 9 law Try.underlying54 (zeroS _) bm n _ rfl hmap _ _ rfl hkey _ ok hf2 hf ?_)
      | go_in)
    go_ret
    exact ⟨rfl, rfl⟩
  · have hf : (lm f (.int .i64 s)).isSome = true := by simp [lm, hu]
    have hf2 : (lm f (.int .i64 s)).getD (.string ⟨#[]⟩) = .string u := by simp [lm, hu]
    clear hu
    rcases hr with ⟨hr, rfl⟩ | ⟨hr, rfl⟩
    · subst hr
      go_enter Try.func10, Try.ntmps10
      go_wp2_with (first
        | (at_lookup; refine wpList_lookup_mf _ rfl _ _ 54 rfl 3 9 law Try.underlying54 (zeroS _) bm n _ rfl hmap _ _ rfl hkey _ true hf2 hf ?_)
        | go_in)
      go_ret
      exact ⟨rfl, rfl⟩
    · have hne := bytes_beq hr
      go_enter Try.func10, Try.ntmps10
      go_wp2_with (first
        | (at_lookup; refine wpList_lookup_mf _ rfl _ _ 54 rfl 3 9 law Try.underlying54 (zeroS _) bm n _ rfl hmap _ _ rfl hkey _ true hf2 hf ?_)
        | go_in)
      go_ret
      exact ⟨rfl, rfl⟩

/-- r is the least slot from base on that is not known. -/
def IsNext (f : Int → Option ByteArray) (base r : Int) : Prop := base ≤ r ∧ (∀ s, base ≤ s → s < r → ∃ u, f s = some u) ∧ f r = none

theorem next_any (w : World) (lb bm n : Nat) (f : Int → Option ByteArray) (base taken r : Int) (h : Lg w lb bm n f base taken) (h0 : 0 ≤ base) (hr : IsNext f base r) (h1 : r ≤ 512) :
    Calls Try.prog 12 #[.pointer (some ⟨lb, 0, none⟩)] w fun e w' => e = .returned (.int .i64 r) ∧ w' = w := by
  have c0 : w.cell? ⟨lb, 0, none⟩ = some (.map (some bm)) := by rw [cell_of_block h.blk]; rfl
  have c1 : w.cell? ⟨lb, 1, none⟩ = some (.int .i64 base) := by rw [cell_of_block h.blk]; rfl
  have hmap := h.map
  obtain ⟨hr1, hr2, hr3⟩ := hr
  have HR2 := hide hr2
  have HR3 := hide hr3
  clear hr2 hr3
  go_enter Try.func12, Try.ntmps12
  go_wp2
  go_loop [3] (fun i => ∃ k : Int, base ≤ k ∧ k ≤ r ∧ i = .int .i64 k) (fun i => (r - intOf i).toNat)
  case atStart => exact ⟨_, by omega, by omega, rfl⟩
  case round =>
    obtain ⟨k, hk1, hk2, rfl⟩ := hrel
    have hkey : keyOf Try.prog 3 (.int .i64 k) = some (.int .i64 k) := keyOf_int_mk Try.underlying3 (WalkArith.wf_i64 (by omega))
    by_cases hlt : k < r
    · obtain ⟨u, hu⟩ := HR2.out k hk1 hlt
      have hf : (lm f (.int .i64 k)).isSome = true := by simp [lm, hu]
      have hf2 : (lm f (.int .i64 k)).getD (.string ⟨#[]⟩) = .string u := by simp [lm, hu]
      clear hu
      go_wp2_with (first
        | (at_lookup; refine wpList_lookup_mf _ rfl _ _ 54 rfl 3 9 law Try.underlying54 (zeroS _) bm n _ rfl hmap _ _ rfl hkey _ true hf2 hf ?_)
        | go_in)
      go_round
      case rel => exact ⟨k + 1, by omega, by omega, rfl⟩
      case measure => simp [intOf]; omega
    · obtain rfl : k = r := by omega
      have hf : (lm f (.int .i64 k)).isSome = false := by simp [lm, HR3.out]
      have hf2 : (lm f (.int .i64 k)).getD (.string ⟨#[]⟩) = .string ⟨#[]⟩ := by simp [lm, HR3.out]
      go_wp2_with (first
        | (at_lookup; refine wpList_lookup_mf _ rfl _ _ 54 rfl 3 9 law Try.underlying54 (zeroS _) bm n _ rfl hmap _ _ rfl hkey _ false hf2 hf ?_)
        | go_in)
      go_ret
      exact ⟨rfl, rfl⟩

/-- What a log's fields and its map show at one slot. -/
def Sees (w : World) (lb bm : Nat) (taken : Int) (u : Value) : Prop :=
  w.cell? ⟨lb, 0, none⟩ = some (.map (some bm)) ∧ w.cell? ⟨lb, 2, none⟩ = some (.int .i64 taken) ∧
    (Instr.lookup 54 (.map (some bm)) (.int .i64 taken) false).run Try.prog w = .ok u w

theorem Lg.sees {w : World} {lb bm n : Nat} {f : Int → Option ByteArray} {base taken : Int} (h : Lg w lb bm n f base taken) (ht : 0 ≤ taken ∧ taken ≤ 512) :
    Sees w lb bm taken (.string ((f taken).getD ⟨#[]⟩)) := by
  refine ⟨by rw [cell_of_block h.blk]; rfl, by rw [cell_of_block h.blk]; rfl, ?_⟩
  rw [h.map.run law Try.underlying54 (zeroS _) (keyOf_int_mk Try.underlying3 (WalkArith.wf_i64 (by omega)))]
  rw [lm_at]
  cases f taken <;> rfl

theorem Lg.sees' {w : World} {lb bm n : Nat} {f : Int → Option ByteArray} {base taken : Int} {u : ByteArray} (h : Lg w lb bm n f base taken) (hu : (f taken).getD ⟨#[]⟩ = u) (ht : 0 ≤ taken ∧ taken ≤ 512) :
    Sees w lb bm taken (.string u) := hu ▸ h.sees ht

/-- The values from a slot on. -/
def vals (f : Int → Option ByteArray) (taken : Int) (m : Nat) : List Value := (List.range m).map fun (i : Nat) => .string ((f (taken + (i : Int))).getD ⟨#[]⟩)
theorem vals_succ (f : Int → Option ByteArray) (taken : Int) (m : Nat) : vals f taken (m + 1) = vals f taken m ++ [.string ((f (taken + m)).getD ⟨#[]⟩)] := by
  simp [vals, List.range_succ]

theorem info9 : (Try.prog.info? 9).map (fun i => (i.zero, i.size, i.bytes)) = some (some (.string ⟨#[]⟩), 1, 16) := by kernel_rfl

set_option maxRecDepth 100000 in
set_option maxHeartbeats 800000 in
theorem take_any (w : World) (lb bm n : Nat) (f : Int → Option ByteArray) (base taken : Int) (R : Nat) (h : Lg w lb bm n f base taken) (h0 : 0 ≤ base) (ht : base ≤ taken) (hr : IsNext f base (taken + R)) (h1 : taken + R ≤ 512) :
    Calls Try.prog 11 #[.pointer (some ⟨lb, 0, none⟩)] w fun e w' => ∃ v, e = .returned v ∧ w'.ownsRow w.heap.size 9 1 v R (vals f taken R) ∧ Lg w' lb bm n f base (taken + R) ∧ Fr (fun k => k = lb) w w' := by
  obtain ⟨i0, hi0, hz0, hz1, hz2⟩ := info_parts info9
  go_enter Try.func11, Try.ntmps11
  go_wp2
  go_loopw [3] (fun v wr => ∃ m : Nat, m ≤ R ∧ wr.ownsRow w.heap.size 9 1 v m (vals f taken m) ∧ Lg wr lb bm n f base (taken + m) ∧ Fr (fun k => k = lb) w wr) (fun _ wr => (taken + R - cellInt wr ⟨lb, 2, none⟩).toNat)
  case atStart => exact ⟨0, Nat.zero_le _, World.ownsRow_nil _ _ _ _, by simpa using h, Fr.refl _ _⟩
  case round =>
    obtain ⟨m, hm, hown, hl, hfr⟩ := hrel
    have c2 : wr.cell? ⟨lb, 2, none⟩ = some (.int .i64 (taken + m)) := by rw [cell_of_block hl.blk]; rfl
    have hq : ∀ nq, Calls Try.prog 12 #[.pointer (some ⟨lb, 0, none⟩)] (wr.drewN nq) fun e w' => e = .returned (.int .i64 (taken + R)) ∧ w' = wr.drewN nq :=
      fun nq => next_any _ lb bm n f base (taken + m) _ (hl.heap rfl rfl) h0 hr h1
    have HQ := hide hq
    have HR := hide hr
    clear hq hr
    by_cases hlt : m < R
    · go_wp2
      go_quiet ((go_at_call 12; exact Calls.quiet_of_same (HQ.out _)))
      go_wp2
      have hl1 : Lg (wr.drewN nq) lb bm n f base (taken + m) := hl.heap rfl rfl
      have hown1 : (wr.drewN nq).ownsRow w.heap.size 9 1 u3 m (vals f taken m) := hown
      have hfr1 := hfr.drewN nq
      have hc2 := hide c2
      clear hl hown hfr c2
      generalize wr.drewN nq = w1 at *
      obtain ⟨u, hu⟩ : ∃ u, (f (taken + m)).getD ⟨#[]⟩ = u := ⟨_, rfl⟩
      have hS : Sees w1 lb bm (taken + m) (.string u) := hl1.sees' hu (by omega)
      have hb1 : lb < w1.heap.size := lt_of_block hl1.blk
      have hb2 : bm < w1.heap.size := hl1.map.lt
      have HN : Hid (∀ k, u3.ownBlock = some k → k ≠ lb ∧ k ≠ bm) := fun k hk => by
        have := hown1.lt k hk; have h2 := lt_of_block h.blk; have h3 := h.map.lt; omega
      have HL := hide hl1
      have hsz := hfr1.size
      have HF := hide hfr1
      clear hl1 hfr1
      unfold Sees at hS
      go_region_held3 (fun w' => w'.cell? ⟨lb, 0, none⟩ = some (.map (some bm)) ∧ w'.cell? ⟨lb, 2, none⟩ = some (.int .i64 (taken + m)) ∧
        (Instr.lookup 54 (.map (some bm)) (.int .i64 (taken + m)) false).run Try.prog w' = .ok (.string u) w')
        (first
          | exact (HL.out.heap (w' := w1.drew) rfl rfl).sees' hu (by omega)
          | exact (HL.out.heap (w' := (w1.alloc _).drew) (Below.heap_alloc _ _ _ hb1) (Below.heap_alloc _ _ _ hb2)).sees' hu (by omega)
          | exact (HL.out.grown hgrow HN.out).sees' hu (by omega))
        ((refine step_append_lies _ (by rfl) _ _ _ (by rfl) w.heap.size 9 i0 _ 1 16 Try.underlying27 hi0 hz0 hz1 hz2 rfl (by omega) u3 m _ (by rfl) ((hown1.alloc _).drew)
              ⟨w1.heap.size, 0, none⟩ 1 1 [.string u] (by rfl) (by rfl) (World.news_of_block (cs := #[.string u]) (t := 9) (fr := (0, 0)) (heap_alloc_new w1 _)) (by simp [Value.oneCell'])
              (by omega) (by unfold maxLen; omega) (by omega) (by simp; omega) (w1.heap.size + 1) (by simp) ?_; intro gg cap w2 hown2 hgrow hat hlt2))
      have HL2 : Hid (Lg w2 lb bm n f base (taken + m)) := HL.out.grown hgrow HN.out
      have c2 : w2.cell? ⟨lb, 2, none⟩ = some (.int .i64 (taken + m)) := by rw [cell_of_block HL2.out.blk]; rfl
      have f2 : w2.frozen? ⟨lb, 2, none⟩ = false := free_of_block HL2.out.blk
      go_wp2
      go_roundw
      case rel =>
        refine ⟨m + 1, by omega, ?_, ?_, ?_⟩
        · rw [vals_succ, hu]; exact ownsRow_setCell_below hown2 (lt_of_block h.blk) _
        · have := HL2.out.took (taken + m + 1)
          rw [show taken + ((m + 1 : Nat) : Int) = taken + m + 1 by omega]
          exact this
        · refine (HF.out.trans ((((Fr.alloc (fun k => k = lb ∨ w.heap.size ≤ k) w1 _).drew).trans (Fr.grown (S := fun k => k = lb ∨ w.heap.size ≤ k) hgrow ?_) (fun _ _ hk => hk)).trans (Fr.setCell (S := fun k => k = lb) _ _ _ rfl) (fun _ _ hk => Or.inl hk)) ?_)
          · intro k hk; exact Or.inr (hown1.lt k hk).1
          · intro k hk hk2; rcases hk2 with hk2 | hk2
            · exact hk2
            · omega
      case measure =>
        have e1 : cellInt wr ⟨lb, 2, none⟩ = taken + m := by rw [cellInt, hc2.out]; rfl
        have e2 : cellInt (w2.setCell ⟨lb, 2, none⟩ (.int .i64 (taken + m + 1))) ⟨lb, 2, none⟩ = taken + m + 1 := by
          rw [cellInt, cell_of_block (HL2.out.took (taken + m + 1)).blk]; rfl
        rw [e1, e2]; omega
    · obtain rfl : m = R := by omega
      go_wp2
      go_quiet ((go_at_call 12; exact Calls.quiet_of_same (HQ.out _)))
      go_wp2
      go_ret
      exact ⟨_, rfl, hown, hl.heap rfl rfl, hfr.drewN _⟩
end Go.Proofs.Ytpjdepepgfimeaa
