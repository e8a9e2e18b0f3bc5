/- The walk of conclavelaw1.WireKept. -/
import Derived.Test.YtcklmdgmjgkogaaRefWire
import Derived.Test.YtcklmdgmjgkogaaRows2
import Derived.Test.YtcklmdgmjgkogaaKnownWire
import Derived.Test.YtcklmdgmjgkogaaBytesOf
import Derived.Deep.CutBlock
import Derived.Deep.RegionHeld3
import Derived.Deep.RegionHeld
namespace Go.Proofs.Ytcklmdgmjgkogaa
open Go.RowKit Go.Maps Go.Cv
set_option linter.unusedVariables false
namespace WireKept

/-- Block g holds n bytes, at the least. -/
def Cells (w : World) (g n : Nat) : Prop := ∃ cur, w.heap[g]? = some (.cells cur 5 (0, 0)) ∧ ∀ i, i < n → ∃ u : UInt8, cur[i]? = some (.int .u8 (u.toNat : Int))
theorem Cells.of_own {w : World} {base : Nat} {a : Option Addr} {n c : Nat} {bs : List UInt8} (h : w.ownsRow base 5 1 (.slice a n c) n (bc bs)) : ∀ g, a = some ⟨g, 0, none⟩ → Cells w g n := by
  intro g hg
  have hl := h.1
  rcases h.2 with ⟨e, _⟩ | ⟨g', cap, cur, e, hb, hgc, hnc, hcm, hcs, htake⟩
  · rw [hg] at e; cases e
  · rw [hg] at e; cases e
    refine ⟨cur, hgc, fun i hi => ?_⟩
    have hib : i < bs.length := by rw [bc_length] at hl; omega
    refine ⟨bs[i], ?_⟩
    have h2 : (bc bs)[i]? = some (.int .u8 (bs[i].toNat : Int)) := bc_at bs i _ (List.getElem?_eq_getElem hib)
    rw [← htake, List.getElem?_take] at h2
    split at h2
    · simpa using h2
    · cases h2
theorem Cells.at_ {w : World} {g n : Nat} (h : Cells w g n) {i : Nat} (hi : i < n) : ∃ u : UInt8, w.cell? ⟨g, i, none⟩ = some (.int .u8 (u.toNat : Int)) ∧ w.frozen? ⟨g, i, none⟩ = false := by
  obtain ⟨cur, h1, h2⟩ := h
  obtain ⟨u, hu⟩ := h2 i hi
  exact ⟨u, by rw [cell_of_block h1]; exact hu, free_of_block h1⟩
theorem Cells.set {w : World} {g n : Nat} (h : Cells w g n) (i : Nat) (u : UInt8) (z : Int) (hz : z = (u.toNat : Int)) : Cells (w.setCell ⟨g, i, none⟩ (.int .u8 z)) g n := by
  obtain ⟨cur, h1, h2⟩ := h
  refine ⟨_, block_setCell h1 _, fun j hj => ?_⟩
  rw [Array.getElem?_setIfInBounds]
  split
  · split
    · exact ⟨u, by rw [hz]⟩
    · rename_i e h3
      subst e
      obtain ⟨u', hu'⟩ := h2 _ hj
      have := (Array.getElem?_eq_some_iff.1 hu').1
      omega
  · exact h2 j hj
theorem Cells.fr {w w' : World} {g n : Nat} (h : Cells w g n) {S : Nat → Prop} (f : Fr S w w') (hS : ¬ S g) : Cells w' g n := by
  obtain ⟨cur, h1, h2⟩ := h
  exact ⟨cur, (f.block g (lt_of_block h1) hS).trans h1, h2⟩

theorem get_one (bs : List UInt8) (k : Nat) (x : UInt8) (hx : bs[k]? = some x) : (⟨k, 0, 0⟩ : RS).get bs 1 = (x.toNat, ⟨k + 1, 0, 0⟩) := by
  have hk := (List.getElem?_eq_some_iff.1 hx).1
  have ht : (⟨k, 0, 0⟩ : RS).take bs 1 = ((bs.drop k).take 1, ⟨k + 1, 0, 0⟩) := by
    unfold RS.take; rw [if_neg (by simp), if_neg (by simp; omega)]
  unfold RS.get
  rw [ht]
  have hd : (bs.drop k).take 1 = [x] := by
    have : bs.drop k = x :: bs.drop (k + 1) := by
      rw [List.drop_eq_getElem_cons hk]; congr 1; simpa [List.getElem?_eq_getElem hk] using hx
    rw [this]; rfl
  rw [hd]
  simp [getN]

set_option maxRecDepth 100000 in
set_option maxHeartbeats 3200000 in
theorem walk (w : World) (v0 : Value) (l0 : List Int) (h0 : Reads w v0 l0.length 1 (l0.flatMap fun z => [.int .u8 z])) (g0 : ∀ x ∈ l0, (Lit.int .u8 x).wf = true) (c0 : l0.length * 1 ≤ 140737488351232) :
    Calls Try.prog 3 #[v0] w fun e w' => e = .returned (.bool true) ∧ Below w.heap.size w w' := by
  obtain ⟨i0, hi0, hz0, hz1, hz2⟩ := info_parts info5
  obtain ⟨bs, hbl, hbs⟩ := bytes_of l0 g0
  have hr0 : Reads w v0 bs.length 1 (bc bs) := by rw [hbl, ← hbs]; exact h0
  have hb0 : bs.length ≤ 140737488351232 := by rw [hbl]; omega
  clear h0 g0 c0 hbs hbl
  obtain ⟨n, hn⟩ : ∃ n, bs.length = n := ⟨_, rfl⟩
  obtain ⟨-, a0, c0, rfl, -, -, -⟩ := id hr0
  obtain ⟨S, hS⟩ : ∃ S : ByteArray, (⟨bs.toArray⟩ : ByteArray) = S := ⟨_, rfl⟩
  have hSl : S.data.toList = bs := by rw [← hS]
  have hSz : S.size = n := by rw [← hS, ← hn]; simp [ByteArray.size]
  rw [hn] at hr0 hb0 ⊢
  have HR0 := hide hr0
  have HN := hide hn
  have HSL := hide hSl
  have HSZ := hide hSz
  have hcv : ∀ (wx : World) (v : Value) (xs : List UInt8), Reads wx v xs.length 1 (bc xs) → (convert 22 9 v).run Try.prog wx = .ok (.string ⟨xs.toArray⟩) wx := fun wx v xs hr =>
    run_string_reads (P := Try.prog) wx 22 9 5 v _ hr Try.underlying22 Try.underlying5 Try.underlying9
  have CV := hide hcv
  have hone := bc_one bs
  have p1 : 0 + n ≤ maxLen := by unfold maxLen; omega
  have p2 : (0 + n) * 1 ≤ 140737488355328 := by omega
  have HS := hide hS
  clear hr0 hn hSl hSz hcv hS
  go_enter Try.func3, Try.ntmps3
  go_wp2_with fail
  refine (newWriter_any _).mono ?_
  rintro e w1 ⟨rfl, hw1, hf1⟩
  obtain ⟨b, hb⟩ : ∃ b, w.heap.size = b := ⟨_, rfl⟩
  rw [hb] at hw1 ⊢
  have hbl := lt_of_block hw1.blk
  have hs1 := hf1.size
  have W1 := hide hw1
  have F1 := hide hf1
  have hown0 : (w1.alloc (.cells #[] 5)).ownsRow w1.heap.size 5 1 (.slice (some ⟨w1.heap.size, 0, none⟩) 0 0) 0 [] :=
    World.ownsRow_made w1 #[] 0 (Nat.le_refl _) (by unfold maxLen; omega) rfl
  have HO0 := hide hown0
  have hr1 : Reads (w1.alloc (.cells #[] 5)) (.slice a0 n c0) n 1 (bc bs) := reads_old HR0.out (hf1.trans (Fr.alloc (fun _ => False) w1 _) (fun _ _ h => h)) (fun _ _ => id)
  have HR1 := hide hr1
  have p3 : w1.heap.size ≤ (w1.alloc (.cells #[] 5)).heap.size := by simp
  clear hw1 hf1 hown0 hr1
  go_wp2_with (at_builtin; refine wpList_append_reads _ rfl _ _ _ rfl w1.heap.size 5 i0 _ 1 1 Try.underlying22 hi0 hz0 hz1 hz2 rfl (by decide) _ 0 [] rfl HO0.out _ n _ rfl HR1.out hone p1 p2 p3 ?_; intro vm w2 hown2 hgrow2 hat2; rw [Nat.zero_add, List.nil_append] at hown2; have hfr2 : Fr (fun _ => False) w1 w2 := ((Fr.alloc (fun k => w1.heap.size ≤ k) w1 _).trans (Fr.grown (S := fun k => w1.heap.size ≤ k) hgrow2 (fun k hk => by cases hk; exact Nat.le_refl _)) (fun _ _ h => h)).fresh (fun _ h => h); have hcv2 := CV.out w2 (.slice a0 n c0) bs (by rw [HN.out]; exact reads_old HR0.out (F1.out.trans hfr2 (fun _ _ h => h)) (fun _ _ => id)); rw [HS.out] at hcv2; have HO2 := hide hown2; have HF2 := hide hfr2; clear hown2 hgrow2 hat2 hfr2)
  obtain ⟨T, hT⟩ : ∃ T, [] ++ beN (u64 S.size) 4 ++ S.data.toList = T := ⟨_, rfl⟩
  have hTl : T.length = n + 4 := by
    rw [← hT, List.length_append, List.length_append, beN_length, HSL.out, HN.out]; simp; omega
  have htx := text_any w2 b _ [] (W1.out.fr HF2.out id (fun _ _ => id)) S (by have := HSZ.out; simp; omega)
  have hrt := refText_any
  rw [hT] at htx
  have TX := hide htx
  have HT := hide hT
  clear htx hT hrt
  refine TX.out.mono ?_
  rintro e w3 ⟨rfl, hw3⟩
  obtain ⟨v3, hw3, hv3, hf3⟩ := Wrote.nil hw3
  have hs2 := HF2.out.size
  have hs3 := hf3.size
  have W3 := hide hw3
  have V3 := hide hv3
  have F3 := hide hf3
  clear hw3 hv3 hf3
  go_wp2_with fail
  refine (done_any _ b v3 T W3.out (by omega)).mono ?_
  rintro e w4 ⟨vx, rfl, ho4, hf4⟩
  obtain ⟨ax, cx, rfl⟩ := own_shape ho4
  have hcx : ∀ g, ax = some ⟨g, 0, none⟩ → Cells w4 g T.length := Cells.of_own ho4
  have hgx : ∀ g, ax = some ⟨g, 0, none⟩ → w3.heap.size ≤ g := fun g hg => (ho4.lt g (by rw [hg]; rfl)).1
  obtain ⟨gx, rfl⟩ : ∃ g, ax = some ⟨g, 0, none⟩ := by
    rcases ho4.2 with ⟨_, h⟩ | ⟨g', cap, cur, e', _⟩
    · omega
    · cases e'; exact ⟨_, rfl⟩
  have hgx := hgx gx rfl
  have CX := hide (hcx gx rfl)
  have hs4 := hf4.size
  have F4 := hide hf4
  clear ho4 hcx hf4
  obtain ⟨N, hN⟩ : ∃ N, T.length = N := ⟨_, rfl⟩
  have TN := hide hN
  rw [hN] at CX hTl ⊢
  have hNb : N ≤ 140737488355328 := by omega
  have HTL := hide hTl
  clear hN hTl
  go_wp2_with fail
  go_loopw [6] (fun i wr => ∃ (k : Nat), i = .int .i64 k ∧ k ≤ N ∧ Cells wr gx N ∧ Fr (fun k => k = gx) w4 wr) (fun i _ => N - (intOf i).toNat)
  case atStart => exact ⟨0, rfl, by omega, CX.out, Fr.refl _ _⟩
  case round =>
    obtain ⟨k, rfl, hk, hc, hf⟩ := hrel
    have C := hide hc
    have F := hide hf
    clear hc hf
    by_cases hg1 : k < N
    · obtain ⟨u, e1, e2⟩ := C.out.at_ hg1
      have ik0 : (0 : Int) ≤ (k : Int) := by omega
      have ik1 : (k : Int) < (N : Int) := by omega
      go_wp2_with fail
      go_roundw
      case rel =>
        refine ⟨k + 1, by go_num, by omega, C.out.set k (u + 1) _ ?_, F.out.trans (Fr.setCell (S := fun k => k = gx) _ _ _ rfl) (fun _ _ h => h)⟩
        rw [UInt8.toNat_add]; simp
      case measure => simp [intOf]; omega
    · have ik1 : ¬ ((k : Int) < (N : Int)) := by omega
      have hvm : ∀ j, vm.ownBlock = some j → j < w2.heap.size ∧ w1.heap.size ≤ j := fun j hj => ⟨(HO2.out.lt j hj).2, (HO2.out.lt j hj).1⟩
      have hom : wr.ownsRow w1.heap.size 5 1 vm n (bc bs) :=
        ownsRow_fr (ownsRow_fr (ownsRow_fr HO2.out F3.out (fun j hj => by have := hvm j hj; omega)) F4.out (fun _ _ => id)) F.out (fun j hj => by have := hvm j hj; omega)
      obtain ⟨am, cm, rfl⟩ := own_shape hom
      have hm1 : ∀ g, am = some ⟨g, 0, none⟩ → Cells wr g n := Cells.of_own hom
      have hm2 : 0 < n → ∃ g, am = some ⟨g, 0, none⟩ := by
        intro h
        rcases hom.2 with ⟨_, e⟩ | ⟨g', cap, cur, e', _⟩
        · omega
        · cases e'; exact ⟨_, rfl⟩
      have hsr := F.out.size
      have hnr := newReader_any wr (.slice am n cm) bs (by rw [HN.out]; exact Reads.of_own hom) (by rw [HN.out]; omega)
      have NR := hide hnr
      have M1 := hide hm1
      have M2 := hide hm2
      have VM := hide hvm
      clear hom hm1 hm2 hnr hvm hg1
      go_wp2_with fail
      refine NR.out.mono ?_
      rintro e w6 ⟨rb, vb, rfl, hrb, hvb, hr6, hf6⟩
      have hs6 := hf6.size
      have hrb2 := lt_of_block hr6.blk
      have hvb2 : ∀ j, vb.ownBlock = some j → wr.heap.size ≤ j ∧ j < w6.heap.size := fun j hj => ⟨hvb j hj, (hr6.own.lt j hj).2⟩
      have R6 := hide hr6
      have F6 := hide hf6
      have VB := hide hvb2
      clear hr6 hf6 hvb hvb2
      go_wp2_with fail
      go_loopw [8] (fun i wx => ∃ (k : Nat), i = .int .i64 k ∧ k ≤ n ∧ (∀ g, am = some ⟨g, 0, none⟩ → Cells wx g n) ∧ Fr (fun k => am = some ⟨k, 0, none⟩) w6 wx) (fun i _ => n - (intOf i).toNat)
      case atStart => exact ⟨0, rfl, by omega, fun g hg => (M1.out g hg).fr F6.out id, Fr.refl _ _⟩
      case round =>
        rename_i wx
        obtain ⟨k2, rfl, hk2, hc2, hf2⟩ := hrel
        have C2 := hide hc2
        have FM := hide hf2
        clear hc2 hf2
        by_cases hg2 : k2 < n
        · obtain ⟨gm, rfl⟩ := M2.out (by omega)
          obtain ⟨u, e1, e2⟩ := (C2.out gm rfl).at_ hg2
          have jk0 : (0 : Int) ≤ (k2 : Int) := by omega
          have jk1 : (k2 : Int) < (n : Int) := by omega
          go_wp2_with fail
          go_roundw
          case rel =>
            refine ⟨k2 + 1, by go_num, by omega, fun g hg => ?_, FM.out.trans (Fr.setCell (S := fun k => some (⟨gm, 0, none⟩ : Addr) = some ⟨k, 0, none⟩) _ _ _ rfl) (fun _ _ h => h)⟩
            cases hg
            refine (C2.out gm rfl).set k2 (u + 1) _ ?_
            rw [UInt8.toNat_add]; simp
          case measure => simp [intOf]; omega
        · have jk1 : ¬ ((k2 : Int) < (n : Int)) := by omega
          have hR : Rd _ rb vb bs ⟨0, 0, 0⟩ := R6.out.fr FM.out (fun h => by have := VM.out rb (by rw [h]; rfl); omega) (fun j hj h => by have := VM.out j (by rw [h]; rfl); have := VB.out j hj; omega)
          have HRR := hide hR
          clear hR hg2
          obtain ⟨wm, rfl⟩ : ∃ wm : World, wm = wr := ⟨_, rfl⟩
          have hgw : Fr (fun j => b ≤ j) w wm := by
            have h2 := (((((F1.out.trans HF2.out (fun _ _ h => h)).step F3.out).step F4.out).step F.out).step F6.out).step FM.out
            refine h2.mono (fun j _ h => ?_)
            simp only [or_false, false_or] at h
            rcases h with h | h
            · omega
            · have := VM.out j (by rw [h]; rfl); omega
          have GW := hide hgw
          clear hgw
          go_wp2_with fail
          go_loopw [9, 10] (fun c i wx => ∃ (k : Nat), c = .int .i64 k ∧ i = .int .i64 k ∧ k ≤ n ∧ Rd wx rb vb bs ⟨k, 0, 0⟩ ∧ Fr (fun j => j = rb) wm wx) (fun _ i _ => n - (intOf i).toNat)
          case atStart => exact ⟨0, rfl, rfl, by omega, HRR.out, Fr.refl _ _⟩
          case round =>
            obtain ⟨k3, rfl, rfl, hk3, hr3, hf3⟩ := hrel
            have R3 := hide hr3
            have F3' := hide hf3
            clear hr3 hf3
            by_cases hg3 : k3 < n
            · obtain ⟨x, hx⟩ : ∃ x, bs[k3]? = some x := ⟨_, List.getElem?_eq_getElem (by have := HN.out; omega)⟩
              obtain ⟨b0, o0, rfl, hb00, hcell⟩ := row_cells (toC := fun u : UInt8 => [Value.int .u8 (u.toNat : Int)]) (s := 1) (fun _ => rfl) (l := bs) (by have := HR0.out; unfold bc at this; rw [flat_one]; exact this) hx (by decide)
              have hge := get_one bs k3 x hx
              have hold : ∀ wx : World, Fr (fun j => j = rb) wm wx → wx.cell? ⟨b0, o0 + k3, none⟩ = some (.int .u8 (x.toNat : Int)) := fun wx f => by
                have := hcell 0 _ rfl wx ((f.block b0 (by have := GW.out.size; omega) (by omega)).trans (GW.out.block b0 hb00 (by omega)))
                rwa [Nat.mul_one, Nat.add_zero] at this
              have e0 := hold _ F3'.out
              have OLD := hide hold
              have GE := hide hge
              have kk0 : (0 : Int) ≤ (k3 : Int) := by omega
              have kk1 : (k3 : Int) < (n : Int) := by omega
              have hx256 := x.toNat_lt
              have hwx : IntKind.i64.wrap (x.toNat : Int) = (x.toNat : Int) := IntWalk.i64_in _ (by omega)
              clear hcell hold hx hge hcv2
              go_wp2_with fail
              go_region_held3 (fun w' => w'.cell? ⟨b0, o0 + k3, none⟩ = some (.int .u8 (x.toNat : Int)))
                (first | exact e0 | exact e5)
                (first
                  | (go_at_call 14
                     refine (rdByte_any _ rb vb bs _ (R3.out.fr (Fr.refl (fun _ => False) wr).drew id (fun _ _ => id))).mono ?_
                     rintro e w5 ⟨rfl, h5, f5⟩
                     have e5 := OLD.out w5 (F3'.out.trans ((Fr.refl (fun j => j = rb) wr).drew.trans f5 (fun _ _ h => h)) (fun _ _ h => h))
                     rw [GE.out] at h5 ⊢
                     have R5 := hide h5
                     have F5 := hide (F3'.out.trans ((Fr.refl (fun j => j = rb) wr).drew.trans f5 (fun _ _ h => h)) (fun _ _ h => h))
                     clear h5 f5))
              go_wp2_with fail
              go_roundw
              case rel => exact ⟨k3 + 1, by go_num, by go_num, by omega, R5.out, F5.out⟩
              case measure => simp [intOf]; omega
            · have hkn : k3 = n := by omega
              subst hkn
              have hwt : Wt wr b v3 T := by
                have l3 := fun j hj => (W3.out.own.lt j hj).2
                refine ((((W3.out.fr F4.out id (fun _ _ => id)).fr F.out (by omega) (fun j hj => by have := l3 j hj; omega)).fr F6.out id (fun _ _ => id)).fr FM.out (fun h => ?_) (fun j hj h => ?_)).fr F3'.out (by omega) (fun j hj => by have := l3 j hj; omega)
                · have := VM.out b (by rw [h]; rfl); omega
                · have := VM.out j (by rw [h]; rfl); have := V3.out j hj; omega
              have hgw : Fr (fun j => b ≤ j) w wr := GW.out.trans F3'.out (fun j _ h => by omega)
              have hv0 : ∀ wx, Fr (fun j => b ≤ j) w wx → (convert 22 9 (.slice a0 k3 c0)).run Try.prog wx = .ok (.string S) wx := fun wx f => by
                have := CV.out wx (.slice a0 k3 c0) bs (by rw [HN.out]; exact reads_old HR0.out f (fun j hj => by omega))
                rwa [HS.out] at this
              obtain ⟨TS, hTS⟩ : ∃ TS : ByteArray, (⟨T.toArray⟩ : ByteArray) = TS := ⟨_, rfl⟩
              have hcT : ∀ (wx : World) (v : Value), Reads wx v T.length 1 (bc T) → (convert 22 9 v).run Try.prog wx = .ok (.string TS) wx := fun wx v h => by rw [← hTS]; exact CV.out wx v T h
              have hrt : ∀ wx, Calls Try.prog 15 #[.slice none 0 0, .string S] wx fun e w' => ∃ v', e = .returned v' ∧ Reads w' v' T.length 1 (bc T) ∧ Fr (fun _ => False) wx w' := fun wx => by
                refine (refText_any wx (.slice none 0 0) [] (Reads.nil _ _) S (by have := HSZ.out; simp; omega)).mono ?_
                rintro e w' ⟨v', rfl, h1, h2⟩
                have h3 := Reads.of_own h1
                rw [HT.out] at h3
                have h4 : ([] : List UInt8).length + 4 + S.size = T.length := by rw [TN.out, HTL.out, HSZ.out]; simp; omega
                rw [h4] at h3
                exact ⟨v', rfl, h3, h2⟩
              have ev := hv0 _ (hgw.trans (Fr.refl (fun j => b ≤ j) wr).drew (fun _ _ h => h))
              have G0 := hide (hgw.trans (Fr.refl (fun j => b ≤ j) wr).drew (fun _ _ h => h))
              have T0 := hide (hwt.fr (Fr.refl (fun _ => False) wr).drew id (fun _ _ => id))
              have V0 := hide hv0
              have CT := hide hcT
              have RT := hide hrt
              have hNT : T.length ≤ 140737488355328 := by have := TN.out; omega
              clear hwt hgw hv0 hTS hcT hrt hg3 hcv2
              go_wp2_with fail
              go_region_held (fun w' => (convert 22 9 (.slice a0 k3 c0)).run Try.prog w' = .ok (.string S) w')
                (first | exact ev | exact eva | exact evb | exact evc)
                (first
                | (go_at_call 12
                   refine (done_any _ b v3 T T0.out hNT).mono ?_
                   rintro e wa ⟨va, rfl, hoa, hfa⟩
                   have hra := Reads.of_own hoa
                   have ea := CT.out wa va hra
                   have RA := hide hra
                   have GA := hide (G0.out.trans hfa (fun _ _ h => h.elim))
                   have eva := V0.out wa GA.out
                   clear hoa hfa hra G0 T0)
                | (go_at_call 15
                   refine (RT.out _).mono ?_
                   rintro e wb ⟨vb', rfl, hrb', hfb⟩
                   have ea' := CT.out wb _ (RA.out.fr hfb (fun _ _ _ _ => id))
                   have eb := CT.out wb vb' hrb'
                   have GB := hide (GA.out.trans hfb (fun _ _ h => h.elim))
                   have evb := V0.out wb GB.out
                   clear hrb' hfb GA RA)
                | (go_at_call 16
                   refine (known_any _).mono ?_
                   rintro e wc ⟨rfl, hfc⟩
                   have GC := hide (GB.out.trans hfc (fun _ _ h => h.elim))
                   have evc := V0.out wc GC.out
                   clear hfc GB))
              all_goals
                go_wp2_with fail
                go_ret
                exact ⟨rfl, GC.out.toBelow (by omega) (fun k hk => by omega)⟩
end WireKept
end Go.Proofs.Ytcklmdgmjgkogaa
