/- begun and Load of a transaction at bytes that hold no text ahead: refused. -/
import Derived.Test.YtehneddmamnmiaaRgLoad
import Derived.Test.YtehneddmamnmiaaTxNewNo
namespace Go.Proofs.Ytehneddmamnmiaa
open Go.RowKit Go.Maps Go.Cv Go.Shelf
set_option linter.unusedVariables false

set_option maxRecDepth 100000 in
set_option maxHeartbeats 3200000 in
theorem begunNo_any (w : World) (rb : Nat) (v : Value) (bs : List UInt8) (r r1 : RS) (h : Rd w rb v bs r) (most : Int) (h1 : r.text bs most = ([], r1)) (h2 : r1.text bs most = ([], r1)) (h3 : r1.count bs 4 = (0, r1)) :
    Calls Try.prog 56 #[.pointer (some ⟨rb, 0, none⟩), .int .i64 most] w fun e w' => e = .returned (.pointer none) ∧ Fr (fun k => k = rb) w w' := by
  have t1 := rdText_any w rb v bs r h most
  rw [h1] at t1
  have t2 : ∀ w1, Rd w1 rb v bs r1 → Calls Try.prog 60 #[.pointer (some ⟨rb, 0, none⟩), .int .i64 most] w1 fun e w' => e = .returned (.string ⟨#[]⟩) ∧ Rd w' rb v bs r1 ∧ Fr (fun k => k = rb) w1 w' := fun w1 hr => by
    have := rdText_any w1 rb v bs r1 hr most
    rw [h2] at this; exact this
  have t3 : ∀ w1, Rd w1 rb v bs r1 → Calls Try.prog 59 #[.pointer (some ⟨rb, 0, none⟩), .int .i64 4] w1 fun e w' => e = .returned (.int .i64 0) ∧ Rd w' rb v bs r1 ∧ Fr (fun k => k = rb) w1 w' := fun w1 hr => by
    have := count_any w1 rb v bs r1 hr 4
    rw [h3] at this; exact this
  have t1 : Calls Try.prog 60 #[.pointer (some ⟨rb, 0, none⟩), .int .i64 most] w fun e w' => e = .returned (.string ⟨#[]⟩) ∧ Rd w' rb v bs r1 ∧ Fr (fun k => k = rb) w w' := t1
  have T1 := hide t1
  have T2 := hide t2
  have T3 := hide t3
  clear t1 t2 t3 h1 h2 h3 h
  go_enter Try.func56, Try.ntmps56
  go_wp2_with fail
  refine T1.out.mono ?_
  rintro e w1 ⟨rfl, hr1, hf1⟩
  have T2' := hide (T2.out w1 hr1)
  have HF1 := hide hf1
  clear hr1 hf1
  go_wp2_with fail
  refine T2'.out.mono ?_
  rintro e w2 ⟨rfl, hr2, hf2⟩
  have HF2 := hide (HF1.out.trans hf2 (fun _ _ h => h))
  have HR2 := hide hr2
  obtain ⟨cv, w3, hcv, hrd, hf3⟩ := conv_bytes w2 ⟨#[]⟩
  have hld := load_any w3 cv [] hrd (by decide)
  have HLD := hide hld
  have HF3 := hide (HF2.out.trans hf3 (fun _ _ h => h.elim))
  have HR3 := hide (HR2.out.fr hf3 (fun h => h) (fun _ _ h => h))
  clear hr2 hf2 hrd hf3 hld
  go_wp2_with fail
  refine HLD.out.mono ?_
  rintro e w4 ⟨hl, hf4⟩
  have he : e = .returned (.tuple #[.agg #[.int .i64 0, .slice none 0 0], .int .i64 12]) := by
    rcases hl with ⟨-, e⟩ | ⟨ep, l, a, n, c, e, -⟩
    · exact e
    · have : loadT [] = none := by decide
      rw [this] at e; cases e
  subst he
  have hal : Fr (fun _ => False) w4 (w4.alloc (.cells #[.int .i64 0, .slice none 0 0] 30)) := Fr.alloc _ _ _
  have hr4 := (HR3.out.fr hf4 (fun h => h) (fun _ _ h => h)).fr hal (fun h => h) (fun _ _ h => h)
  obtain ⟨w5, hw5⟩ : ∃ w5, w4.alloc (.cells #[.int .i64 0, .slice none 0 0] 30) = w5 := ⟨_, rfl⟩
  obtain ⟨mb, hmb⟩ : ∃ mb, w4.heap.size = mb := ⟨_, rfl⟩
  have hbm : w5.heap[mb]? = some (.cells #[.int .i64 0, .slice none 0 0] 30 (0, 0)) := by rw [← hw5, ← hmb]; exact block_alloc _ _
  rw [hw5] at hr4 hal
  have hne : mb ≠ rb := by have h1 := lt_of_block HR3.out.blk; have h2 := hf4.size; omega
  have T3' := hide (T3.out w5 hr4)
  have HF5 := hide ((HF3.out.trans hf4 (fun _ _ h => h.elim)).trans hal (fun _ _ h => h.elim))
  have HW5 := hide hw5
  have HMB := hide hmb
  have HBM := hide hbm
  have HNE := hide hne
  clear hl hf4 hal hr4 hw5 hmb hbm hne
  go_upto_region 4 with fail
  rw [HW5.out, HMB.out]
  go_wp2_with fail
  refine T3'.out.mono ?_
  rintro e w6 ⟨rfl, hr6, hf6⟩
  have hb6 := (hf6.block mb (lt_of_block HBM.out) HNE.out).trans HBM.out
  have c0 : w6.cell? ⟨mb, 0, none⟩ = some (.int .i64 0) := by rw [cell_of_block hb6]; rfl
  have c1 : w6.cell? ⟨mb, 1, none⟩ = some (.slice none 0 0) := by rw [cell_of_block hb6]; rfl
  have hno := newTx_no w6 ⟨#[]⟩ none 0 0 (by decide) 0 none 0 0 [] ⟨rfl, Reads.nil _ _, by decide⟩ (.inl rfl)
  have HNO := hide hno
  have HF6 := hide (HF5.out.trans hf6 (fun _ _ h => h))
  clear hr6 hf6 hb6 hno
  go_wp2_with fail
  go_loopw [8, 9] (fun l i wr => l = .slice none 0 0 ∧ i = .int .i64 0 ∧ wr = w6) (fun _ _ _ => 0)
  case atStart => exact ⟨rfl, rfl, rfl⟩
  case round =>
    obtain ⟨rfl, rfl, rfl⟩ := hrel
    go_wp2_with fail
    refine HNO.out.mono ?_
    rintro e w7 ⟨rfl, hf7⟩
    have HF7 := hide (HF6.out.trans hf7 (fun _ _ h => h.elim))
    clear hf7
    go_wp2_with fail
    go_ret
    exact ⟨rfl, HF7.out⟩

set_option maxRecDepth 100000 in
set_option maxHeartbeats 3200000 in
theorem txLoadNo (w : World) (v : Value) (bs : List UInt8) (h : Reads w v bs.length 1 (bc bs)) (hl : bs.length ≤ 1000) (r1 : RS) (h1 : (⟨0, 0, 0⟩ : RS).text bs bs.length = ([], r1)) (h2 : r1.text bs bs.length = ([], r1)) (h3 : r1.count bs 4 = (0, r1)) :
    Calls Try.prog 23 #[v] w fun e w' => e = .returned (.tuple #[.pointer none, .int .i64 12]) ∧ Fr (fun _ => False) w w' := by
  have hnr := newReader_any w v bs h (by omega)
  obtain ⟨n, hn⟩ : ∃ n, bs.length = n := ⟨_, rfl⟩
  have hn9 : (n : Int) ≤ 1000 := by omega
  obtain ⟨-, a, c, e, -, -, -⟩ := id h
  rw [hn] at e
  subst e
  rw [hn] at h1 h2
  have H1 := hide h1
  have H2 := hide h2
  have H3 := hide h3
  have HNR := hide hnr
  clear h h1 h2 h3 hnr hn
  go_enter Try.func23, Try.ntmps23
  go_wp2_with fail
  refine HNR.out.mono ?_
  rintro e w1 ⟨rb, v', rfl, hrb, -, hr, hf⟩
  have hb := begunNo_any w1 rb v' bs _ r1 hr n H1.out H2.out H3.out
  have HB := hide hb
  have HF := hide hf
  have HRB := hide hrb
  clear hr hb hf hrb
  go_wp2_with fail
  refine HB.out.mono ?_
  rintro e w2 ⟨rfl, hf2⟩
  have HF2 := hide ((HF.out.mono (S' := fun k => k = rb) (fun _ _ h => h.elim)).trans hf2 (fun _ _ h => h))
  clear hf2
  go_wp2_with fail
  go_ret2
  exact ⟨rfl, HF2.out.fresh (fun k hk => by have := HRB.out; omega)⟩
end Go.Proofs.Ytehneddmamnmiaa
