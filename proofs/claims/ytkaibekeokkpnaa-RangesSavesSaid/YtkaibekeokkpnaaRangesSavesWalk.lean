/- RangesSaves's walk. -/
import Derived.Test.YtkaibekeokkpnaaRgBack
import Derived.Test.YtkaibekeokkpnaaRgSame
import Derived.Deep.RegionHeld
namespace Go.Proofs.Ytkaibekeokkpnaa.RangesSaves
open Go.RowKit Go.Maps Go.Cv Go.Shelf
set_option linter.unusedVariables false

theorem newP_r (r : Int) (h0 : 0 ≤ r) (h1 : r ≤ 2) : rightM 1 (newP (1 + r) (1 + r).toNat) = true := by
  obtain ⟨k, hk⟩ : ∃ k : Nat, 1 + r = (k : Int) := ⟨(1 + r).toNat, by omega⟩
  rw [hk, Int.toNat_natCast]; exact newP_right k (by omega)
theorem saveR (w : World) (ep : Int) (a : Option Addr) (n c : Nat) (l : List P3) (h : RD w a n c l) :
    Calls Try.prog 15 #[.agg #[.int .i64 ep, .slice a n c]] w fun e w' => ∃ v', e = .returned v' ∧ Reads w' v' (sv ep l).length 1 (bc (sv ep l)) ∧ Fr (fun _ => False) w w' := by
  refine (save_any w ep a n c l h).mono ?_
  rintro e w' ⟨v', rfl, ho, hf⟩
  exact ⟨v', rfl, Reads.of_own ho, hf⟩

set_option maxRecDepth 100000 in
set_option maxHeartbeats 6400000 in
theorem walk (w : World) (a0 : Int) (wf0 : (Lit.int .i64 a0).wf = true) (v1 : Value) (l1 : List (Int × Int × Int)) (h1 : Reads w v1 l1.length 3 (l1.flatMap fun a => [.int .i64 a.1, .int .i64 a.2.1, .int .i64 a.2.2])) (_ : ∀ a ∈ l1, (Lit.int .i64 a.1).wf = true ∧ (Lit.int .i64 a.2.1).wf = true ∧ (Lit.int .i64 a.2.2).wf = true) (hl1 : l1.length ≤ maxLen)
    (v2 : Value) (l2 : List (Int × Int × Int)) (h2 : Reads w v2 l2.length 3 (l2.flatMap fun a => [.int .i64 a.1, .int .i64 a.2.1, .int .i64 a.2.2])) (_ : ∀ a ∈ l2, (Lit.int .i64 a.1).wf = true ∧ (Lit.int .i64 a.2.1).wf = true ∧ (Lit.int .i64 a.2.2).wf = true) (hl2 : l2.length ≤ maxLen) :
    Calls Try.prog 6 #[.int .i64 a0, v1, v2] w fun e w' => e = .returned (.bool true) ∧ Below w.heap.size w w' := by
  obtain ⟨n1, hn1⟩ : ∃ n, l1.length = n := ⟨_, rfl⟩
  obtain ⟨n2, hn2⟩ : ∃ n, l2.length = n := ⟨_, rfl⟩
  rw [hn1] at h1 hl1
  rw [hn2] at h2 hl2
  obtain ⟨-, s1, k1, rfl, -, -, -⟩ := id h1
  obtain ⟨-, s2, k2, rfl, -, -, -⟩ := id h2
  have HR1 := hide (show Reads w (.slice s1 n1 k1) n1 3 (rowP l1) from h1)
  have HR2 := hide (show Reads w (.slice s2 n2 k2) n2 3 (rowP l2) from h2)
  have HN1 := hide hn1
  have HN2 := hide hn2
  have HL1 := hide hl1
  have HL2 := hide hl2
  clear h1 h2 hn1 hn2 wf0 hl1 hl2
  go_enter Try.func6, Try.ntmps6
  go_wp2_with fail
  refine (within_ex w a0 0 2 (by omega) (by omega) (by omega)).mono ?_
  rintro e w0 ⟨r, rfl, hr1, hr2, rfl⟩
  go_wp2_with fail
  refine (newM w (1 + r) (by omega)).mono ?_
  rintro e w1 ⟨a, m, c, rfl, hd1, hf1⟩
  have hp1 := newP_r r hr1 hr2
  obtain ⟨l, hl⟩ : ∃ l, newP (1 + r) (1 + r).toNat = l := ⟨_, rfl⟩
  rw [hl] at hd1 hp1
  have M1 := MV.made 1 hd1
  have hf2 : Fr (fun _ => False) w1 _ := Fr.alloc (fun _ => False) w1 (.cells #[.int .i64 1, .slice a m c] 25)
  obtain ⟨w2, hw2⟩ : ∃ w2, w1.alloc (.cells #[.int .i64 1, .slice a m c] 25) = w2 := ⟨_, rfl⟩
  obtain ⟨b1, hb1⟩ : ∃ b, w1.heap.size = b := ⟨_, rfl⟩
  rw [hw2, hb1] at M1
  rw [hw2] at hf2
  have d0 := M1.c0
  have d1 := M1.c1
  have HM1 := hide M1
  have HP1 := hide hp1
  have F2 := hide (hf1.trans hf2 (fun _ _ h => h))
  have HW2 := hide hw2
  have HB1 := hide hb1
  clear hl hd1 hp1 M1 hf1 hf2 hw2 hb1
  go_upto_region 2 with fail
  rw [HW2.out, HB1.out]
  go_wp2_with fail
  refine (movedM w2 1 a m c l HM1.out.2 HP1.out s1 n1 k1 l1 (reads_old HR1.out F2.out (fun _ _ => id)) HN1.out HL1.out).mono ?_
  rintro e w3 ⟨ea, aa, na, ca, la, rfl, hda, hra, hf3⟩
  have MA := MV.made ea hda
  have hf4 : Fr (fun _ => False) w3 _ := Fr.alloc (fun _ => False) w3 (.cells #[.int .i64 ea, .slice aa na ca] 25)
  obtain ⟨w4, hw4⟩ : ∃ w4, w3.alloc (.cells #[.int .i64 ea, .slice aa na ca] 25) = w4 := ⟨_, rfl⟩
  obtain ⟨b2, hb2⟩ : ∃ b, w3.heap.size = b := ⟨_, rfl⟩
  rw [hw4, hb2] at MA
  rw [hw4] at hf4
  have hf34 := hf3.trans hf4 (fun _ _ h => h)
  have M1' := HM1.out.fr0 hf34
  have d2 := M1'.c0
  have d3 := M1'.c1
  have HM1b := hide M1'
  have HMA := hide MA
  have HRA := hide hra
  have F4 := hide (F2.out.trans hf34 (fun _ _ h => h))
  have HW4 := hide hw4
  have HB2 := hide hb2
  clear hda hra MA hf3 hf4 hf34 M1' hw4 hb2 d0 d1
  go_upto_region 5 with fail
  rw [HW4.out, HB2.out]
  go_wp2_with fail
  refine (movedM w4 1 a m c l HM1b.out.2 HP1.out s2 n2 k2 l2 (reads_old HR2.out F4.out (fun _ _ => id)) HN2.out HL2.out).mono ?_
  rintro e w5 ⟨eb, ab, nb, cb, lb, rfl, hdb, hrb, hf5⟩
  have MB := MV.made eb hdb
  have hf6 : Fr (fun _ => False) w5 _ := Fr.alloc (fun _ => False) w5 (.cells #[.int .i64 eb, .slice ab nb cb] 25)
  obtain ⟨w6, hw6⟩ : ∃ w6, w5.alloc (.cells #[.int .i64 eb, .slice ab nb cb] 25) = w6 := ⟨_, rfl⟩
  obtain ⟨b3, hb3⟩ : ∃ b, w5.heap.size = b := ⟨_, rfl⟩
  rw [hw6, hb3] at MB
  rw [hw6] at hf6
  have hf56 := hf5.trans hf6 (fun _ _ h => h)
  have MA' := HMA.out.fr0 hf56
  have g2 := MA'.c0
  have g3 := MA'.c1
  have HMA6 := hide MA'
  have HMB6 := hide MB
  have HRB := hide hrb
  have F6 := hide (F4.out.trans hf56 (fun _ _ h => h))
  have HW6 := hide hw6
  have HB3 := hide hb3
  clear hdb hrb MB hf5 hf6 hf56 MA' hw6 hb3 d2 d3
  go_upto_region 6 with fail
  rw [HW6.out, HB3.out]
  go_wp2_with fail
  refine (saveR w6 ea aa na ca la HMA6.out.2).mono ?_
  rintro e w7 ⟨v', rfl, hrs, hf7⟩
  have hls := loadSaved w7 v' ea la HRA.out hrs
  have HLS := hide hls
  have F7 := hide hf7
  clear hrs hls hf7
  go_wp2_with fail
  refine HLS.out.mono ?_
  rintro e w8 ⟨ax, nx, cx, rfl, hdx, hf8⟩
  have MX := MV.made ea hdx
  have hf9 : Fr (fun _ => False) w8 _ := Fr.alloc (fun _ => False) w8 (.cells #[.int .i64 ea, .slice ax nx cx] 25)
  obtain ⟨w9, hw9⟩ : ∃ w9, w8.alloc (.cells #[.int .i64 ea, .slice ax nx cx] 25) = w9 := ⟨_, rfl⟩
  obtain ⟨b4, hb4⟩ : ∃ b, w8.heap.size = b := ⟨_, rfl⟩
  rw [hw9, hb4] at MX
  rw [hw9] at hf9
  have hf69 := (F7.out.trans hf8 (fun _ _ h => h)).trans hf9 (fun _ _ h => h)
  have MA9 := HMA6.out.fr0 hf69
  have MB9 := HMB6.out.fr0 hf69
  have y0 := MX.c0
  have y1 := MX.c1
  have y2 := MA9.c0
  have y3 := MA9.c1
  have heq := equalM w9 ea ax nx cx la ea aa na ca la MX.2 MA9.2
  rw [show decide (ea = ea ∧ la = la) = true by simp] at heq
  have HEQ := hide heq
  have HMA9 := hide MA9
  have HMB9 := hide MB9
  have F9 := hide (F6.out.trans hf69 (fun _ _ h => h))
  have HW9 := hide hw9
  have HB4 := hide hb4
  clear hdx MX hf8 hf9 hf69 MA9 MB9 hw9 hb4 heq g2 g3
  go_upto_region 7 with fail
  rw [HW9.out, HB4.out]
  go_wp2_with fail
  refine HEQ.out.mono ?_
  rintro e w10 ⟨rfl, hf10⟩
  obtain ⟨q, hq⟩ : ∃ q, decide (ea = eb ∧ la = lb) = q := ⟨_, rfl⟩
  obtain ⟨ba, hba⟩ : ∃ b : ByteArray, (⟨(sv ea la).toArray⟩ : ByteArray) = b := ⟨_, rfl⟩
  obtain ⟨bb, hbb⟩ : ∃ b : ByteArray, (⟨(sv eb lb).toArray⟩ : ByteArray) = b := ⟨_, rfl⟩
  have hstr : (ba.toList == bb.toList) = q := by
    rw [← hq]
    by_cases e : ea = eb ∧ la = lb
    · obtain ⟨rfl, rfl⟩ := e; rw [hba] at hbb; subst hbb; simp
    · rw [bytes_beq (fun h => e ((sv_inj HRA.out HRB.out).1 (by rw [← hba, ← hbb] at h; simpa using congrArg (fun b : ByteArray => b.data.toList) h)))]; simp [e]
  have hall : ∀ wx, Fr (fun _ => False) w10 wx → MV wx b2 ea aa na ca la ∧ MV wx b3 eb ab nb cb lb := fun wx hf => ⟨(HMA9.out.fr0 hf10).fr0 hf, (HMB9.out.fr0 hf10).fr0 hf⟩
  have hcell : ∀ wx, Fr (fun _ => False) w10 wx → wx.cell? ⟨b2, 0, none⟩ = some (.int .i64 ea) ∧ wx.cell? ⟨b2, 1, none⟩ = some (.slice aa na ca) ∧ wx.cell? ⟨b3, 0, none⟩ = some (.int .i64 eb) ∧ wx.cell? ⟨b3, 1, none⟩ = some (.slice ab nb cb) := fun wx hf =>
    ⟨(hall wx hf).1.c0, (hall wx hf).1.c1, (hall wx hf).2.c0, (hall wx hf).2.c1⟩
  have hca : ∀ wx v, Reads wx v (sv ea la).length 1 (bc (sv ea la)) → ∀ wy, Fr (fun _ => False) wx wy → (convert 49 9 v).run Try.prog wy = .ok (.string ba) wy := fun wx v hr wy hf => by
    rw [← hba]; exact run_string_reads wy 49 9 5 v _ (reads_old hr hf (fun _ _ => id)) Try.underlying49 Try.underlying5 Try.underlying9
  have hcb : ∀ wx v, Reads wx v (sv eb lb).length 1 (bc (sv eb lb)) → ∀ wy, Fr (fun _ => False) wx wy → (convert 49 9 v).run Try.prog wy = .ok (.string bb) wy := fun wx v hr wy hf => by
    rw [← hbb]; exact run_string_reads wy 49 9 5 v _ (reads_old hr hf (fun _ _ => id)) Try.underlying49 Try.underlying5 Try.underlying9
  have hsa : ∀ wx, Fr (fun _ => False) w10 wx → Calls Try.prog 15 #[.agg #[.int .i64 ea, .slice aa na ca]] wx _ := fun wx hf => saveR wx ea aa na ca la (hall wx hf).1.2
  have hsb : ∀ wx, Fr (fun _ => False) w10 wx → Calls Try.prog 15 #[.agg #[.int .i64 eb, .slice ab nb cb]] wx _ := fun wx hf => saveR wx eb ab nb cb lb (hall wx hf).2.2
  have hse : ∀ wx, Fr (fun _ => False) w10 wx → Calls Try.prog 18 #[.agg #[.int .i64 ea, .slice aa na ca], .agg #[.int .i64 eb, .slice ab nb cb]] wx (fun e w' => e = .returned (.bool q) ∧ Fr (fun _ => False) wx w') := fun wx hf => by
    rw [← hq]; exact equalM wx ea aa na ca la eb ab nb cb lb (hall wx hf).1.2 (hall wx hf).2.2
  have hqq : (q == q) = true := by simp
  have HCELL := hide hcell
  have HCA := hide hca
  have HCB := hide hcb
  have HSA := hide hsa
  have HSB := hide hsb
  have HSE := hide hse
  have F10 := hide (F9.out.trans hf10 (fun _ _ h => h))
  have FR0 := hide ((Fr.refl (fun _ => False) w10).drew)
  obtain ⟨t0, t1, t2, t3⟩ := hcell w10 (Fr.refl _ _)
  clear hall hcell hca hcb hsa hsb hse hf10 hq hba hbb y0 y1 y2 y3
  go_upto_region 9 with fail
  go_region_held (fun w' => w'.cell? ⟨b2, 0, none⟩ = some (.int .i64 ea) ∧ w'.cell? ⟨b2, 1, none⟩ = some (.slice aa na ca) ∧ w'.cell? ⟨b3, 0, none⟩ = some (.int .i64 eb) ∧ w'.cell? ⟨b3, 1, none⟩ = some (.slice ab nb cb))
    (go_keep)
    (first
      | (go_at_call 15
         with_reducible refine (HSA.out _ FR0.out).mono ?_
         rintro e ya ⟨va, rfl, hra, hfa⟩
         have hfz := FR0.out.trans hfa (fun _ _ h => h)
         obtain ⟨p0, p1, p2, p3⟩ := HCELL.out ya hfz
         have CA := hide (HCA.out ya va hra)
         have q1 := CA.out ya (Fr.refl _ _)
         have TA := hide hfz
         clear hra hfa hfz FR0)
      | (go_at_call 15
         with_reducible refine (HSB.out _ TA.out).mono ?_
         rintro e yb ⟨vb, rfl, hrb, hfb⟩
         have hfz := TA.out.trans hfb (fun _ _ h => h)
         obtain ⟨p4, p5, p6, p7⟩ := HCELL.out yb hfz
         have CB := hide (HCB.out yb vb hrb)
         have q2 := CA.out yb hfb
         have q3 := CB.out yb (Fr.refl _ _)
         have GA := hide hfb
         have TB := hide hfz
         clear hrb hfb hfz TA)
      | (go_at_call 18
         with_reducible refine (HSE.out _ TB.out).mono ?_
         rintro e yc ⟨rfl, hfc⟩
         have hfz := TB.out.trans hfc (fun _ _ h => h)
         obtain ⟨p8, p9, p10, p11⟩ := HCELL.out yc hfz
         have q4 := CA.out yc (GA.out.trans hfc (fun _ _ h => h))
         have q5 := CB.out yc hfc
         have TC := hide hfz
         clear hfc hfz TB)
      | (go_at_call 13
         with_reducible refine (known_any _).mono ?_
         rintro e yd ⟨rfl, hfd⟩
         have hfz := TC.out.trans hfd (fun _ _ h => h)
         obtain ⟨p12, p13, p14, p15⟩ := HCELL.out yd hfz
         have TD := hide hfz
         clear hfd hfz TC))
  all_goals
    go_wp2_with fail
    go_ret
    exact ⟨rfl, (F10.out.trans TD.out (fun _ _ h => h)).toBelow (Nat.le_refl _) (fun j _ h => h)⟩
end Go.Proofs.Ytkaibekeokkpnaa.RangesSaves
