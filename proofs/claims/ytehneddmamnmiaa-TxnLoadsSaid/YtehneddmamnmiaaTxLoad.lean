/- Load of a transaction, of any bytes. -/
import Derived.Test.YtehneddmamnmiaaTxBack
namespace Go.Proofs.Ytehneddmamnmiaa
open Go.RowKit Go.Maps Go.Cv Go.Shelf
set_option linter.unusedVariables false

/-- A Reader and a transaction beside each other, both made behind w. -/
structure LdS (w wx : World) (rb : Nat) (v : Value) (bs : List UInt8) (b0 : Nat) (X : Nat → Prop) (tb : Nat) (rr : RS) (t : TxR) : Prop where
  rd : Rd wx rb v bs rr
  tx : TX wx X b0 tb t
  fr : Fr (fun k => w.heap.size ≤ k) w wx
  h0 : w.heap.size ≤ rb
  h1 : rb < b0
  h2 : ∀ k, v.ownBlock = some k → w.heap.size ≤ k ∧ k < b0
  h3 : b0 ≤ wx.heap.size
  hX : ∀ k, k < b0 → X k
section
variable {w wx wy : World} {rb : Nat} {v : Value} {bs : List UInt8} {b0 tb : Nat} {X : Nat → Prop} {rr : RS} {t : TxR}
theorem LdS.read (h : LdS w wx rb v bs b0 X tb rr t) {rr' : RS} (hr : Rd wy rb v bs rr') (g : Fr (fun k => k = rb) wx wy) : LdS w wy rb v bs b0 X tb rr' t :=
  ⟨hr, h.tx.fr g (fun k _ e => by subst e; exact h.hX _ h.h1), h.fr.trans g (fun k _ e => by subst e; exact h.h0), h.h0, h.h1, h.h2, Nat.le_trans h.h3 g.size, h.hX⟩
theorem LdS.own (h : LdS w wx rb v bs b0 X tb rr t) {t' : TxR} (ht : TX wy X b0 tb t') (g : Fr (fun k => b0 ≤ k) wx wy) : LdS w wy rb v bs b0 X tb rr t' :=
  ⟨h.rd.fr g (fun e => by have := h.h1; omega) (fun k hk e => by have := h.h2 k hk; omega), ht, h.fr.trans g (fun k _ e => by have := h.h0; have := h.h1; omega), h.h0, h.h1, h.h2, Nat.le_trans h.h3 g.size, h.hX⟩
theorem LdS.fr0 (h : LdS w wx rb v bs b0 X tb rr t) (g : Fr (fun _ => False) wx wy) : LdS w wy rb v bs b0 X tb rr t := h.own (h.tx.fr0 g) (g.mono (fun _ _ h => h.elim))
/-- A foreign block turned. -/
theorem LdS.other (h : LdS w wx rb v bs b0 X tb rr t) {q : Nat} (hq : b0 ≤ q) (hX : X q) (g : Fr (fun k => k = q) wx wy) : LdS w wy rb v bs b0 X tb rr t :=
  h.own (h.tx.fr g (fun k _ e => by subst e; exact hX)) (g.mono (fun k _ e => by subst e; exact hq))
theorem LdS.less (h : LdS w wx rb v bs b0 X tb rr t) {X' : Nat → Prop} (h1 : ∀ k, X' k → X k) (h2 : ∀ k, k < b0 → X' k) : LdS w wx rb v bs b0 X' tb rr t := ⟨h.rd, h.tx.less h1, h.fr, h.h0, h.h1, h.h2, h.h3, h2⟩
theorem LdS.more (h : LdS w wx rb v bs b0 X tb rr t) (g : Fr (fun _ => False) wx wy) : LdS w wy rb v bs b0 (fun k => X k ∨ (wx.heap.size ≤ k ∧ k < wy.heap.size)) tb rr t := by
  have h1 := h.fr0 g
  exact ⟨h1.rd, h.tx.more g, h1.fr, h.h0, h.h1, h.h2, h1.h3, fun k hk => .inl (h.hX k hk)⟩
theorem LdS.fresh (h : LdS w wx rb v bs b0 X tb rr t) : Fr (fun _ => False) w wx := h.fr.fresh (fun k hk => by omega)
theorem ld_byte (h : LdS w wx rb v bs b0 X tb rr t) : Calls Try.prog 57 #[.pointer (some ⟨rb, 0, none⟩)] wx fun e w' => e = .returned (.int .i64 (rr.get bs 1).1) ∧ LdS w w' rb v bs b0 X tb (rr.get bs 1).2 t ∧ Fr (fun k => k = rb) wx w' := by
  refine (rdByte_any wx rb v bs rr h.rd).mono ?_
  rintro e w' ⟨rfl, hr, hf⟩; exact ⟨rfl, h.read hr hf, hf⟩
theorem ld_eight (h : LdS w wx rb v bs b0 X tb rr t) : Calls Try.prog 58 #[.pointer (some ⟨rb, 0, none⟩)] wx fun e w' => e = .returned (.int .i64 (IntKind.i64.wrap ((rr.get bs 8).1 : Int))) ∧ LdS w w' rb v bs b0 X tb (rr.get bs 8).2 t ∧ Fr (fun k => k = rb) wx w' := by
  refine (rdEight_any wx rb v bs rr h.rd).mono ?_
  rintro e w' ⟨rfl, hr, hf⟩; exact ⟨rfl, h.read hr hf, hf⟩
theorem ld_count (h : LdS w wx rb v bs b0 X tb rr t) (m : Int) : Calls Try.prog 59 #[.pointer (some ⟨rb, 0, none⟩), .int .i64 m] wx fun e w' => e = .returned (.int .i64 (rr.count bs m).1) ∧ LdS w w' rb v bs b0 X tb (rr.count bs m).2 t ∧ Fr (fun k => k = rb) wx w' := by
  refine (count_any wx rb v bs rr h.rd m).mono ?_
  rintro e w' ⟨rfl, hr, hf⟩; exact ⟨rfl, h.read hr hf, hf⟩
theorem ld_text (h : LdS w wx rb v bs b0 X tb rr t) (m : Int) : Calls Try.prog 60 #[.pointer (some ⟨rb, 0, none⟩), .int .i64 m] wx fun e w' => e = .returned (.string ⟨(rr.text bs m).1.toArray⟩) ∧ LdS w w' rb v bs b0 X tb (rr.text bs m).2 t ∧ Fr (fun k => k = rb) wx w' := by
  refine (rdText_any wx rb v bs rr h.rd m).mono ?_
  rintro e w' ⟨rfl, hr, hf⟩; exact ⟨rfl, h.read hr hf, hf⟩
/-- A field of the transaction set. -/
theorem LdS.set (h : LdS w wx rb v bs b0 X tb rr t) (j : Nat) (u : Value) (t' : TxR) (hc : ∀ vo vp vg va vb kb, (tcells t vo vp vg va vb kb).setIfInBounds j u = tcells t' vo vp vg va vb kb) (e1 : t'.ops = t.ops) (e2 : t'.parts = t.parts) (e3 : t'.S = t.S) (e4 : t'.V = t.V) (e5 : t'.K = t.K) : LdS w (wx.setCell ⟨tb, j, none⟩ u) rb v bs b0 X tb rr t' := by
  obtain ⟨B, vb, kb, vo, vp, vg, va, vs, vals, hx⟩ := h.tx
  have hs : Fr (fun k => k = tb) wx (wx.setCell ⟨tb, j, none⟩ u) := Fr.setCell _ _ _ rfl
  refine h.own ⟨B, vb, kb, vo, vp, vg, va, vs, vals, hx.field t' ?_ hs e1 e2 e3 e4 e5⟩ (hs.mono (fun k _ e => by subst e; exact hx.t0))
  rw [block_setCell hx.blk, hc]
theorem LdS.cell (h : LdS w wx rb v bs b0 X tb rr t) (j : Nat) (hj : 8 ≤ j) (hj2 : j < 11) : wx.frozen? ⟨tb, j, none⟩ = false ∧ ∃ u, wx.cell? ⟨tb, j, none⟩ = some u := by
  obtain ⟨B, vb, kb, vo, vp, vg, va, vs, vals, hx⟩ := h.tx
  refine ⟨hx.free j, ?_⟩
  rw [hx.c]
  have : j = 8 ∨ j = 9 ∨ j = 10 := by omega
  rcases this with rfl | rfl | rfl
  · exact ⟨_, rfl⟩
  · exact ⟨_, rfl⟩
  · exact ⟨_, rfl⟩
end
/-- A map turned, with its number. -/
theorem wpList_store_mv (w : World) {P : Program} {ops : Array Oper} {rest : List Oper} {o : Oper} {a : Act} {Q : Exit → Act → World → Prop} (hg : o.guard = none) (m x v : Operand) (t : TypeId) (hop : o.op = Op.mapUpdate t m x v)
    (k e : TypeId) (K : Keyed P k) (ht : P.underlying t = some (.map k e)) (b c : Nat) (f : Lit → Option Value)
    (hm : a.eval m = .map (some b)) (hown : mapN w P k b c f) (hn : c < maxLen) (key val : Value) (kl : Lit) (hx : a.eval x = key) (hv : a.eval v = val) (hkey : keyOf P k key = some kl)
    (hK : ∀ w', mapN w' P k b (if (f kl).isSome then c else c + 1) (put f kl val) → w.mapTurned w' b → wpList P ops Q rest (a.put o.dst undef) w') :
    wpList P ops Q (o :: rest) a w := by
  refine wpList_plain hg fun K' hK' => ?_
  obtain ⟨w', hrun, r1, r2⟩ := hown.store K ht hn val hkey
  unfold Oper.wp
  simp [execOp, hop, hm, hx, hv, hrun, Result.andThen]
  exact hK' _ _ (hK w' r1 r2)

theorem set_next {L : List ByteArray} {i na : Nat} (hl : L.length = i) (hi : i < na) (T : ByteArray) : ((L ++ List.replicate (na - i) (⟨#[]⟩ : ByteArray)).map Value.string).set i (.string T) = ((L ++ [T]) ++ List.replicate (na - (i + 1)) (⟨#[]⟩ : ByteArray)).map Value.string := by
  rw [← List.map_set]
  congr 1
  rw [List.set_append_right _ _ (by omega), hl, Nat.sub_self, show na - i = (na - (i + 1)) + 1 by omega, List.replicate_succ, List.set_cons_zero]
  simp
theorem Tx.lessX {w : World} {X X' : Nat → Prop} {b0 B tb vb kb : Nat} {vo vp vg va : Value} {vs : List Value} {vals : Int → Value} {r : TxR} (h : Tx w X b0 B tb vb kb vo vp vg va vs vals r) (hX : ∀ k, X' k → X k) : Tx w X' b0 B tb vb kb vo vp vg va vs vals r := by
  have hf : ∀ v, FB w.heap.size X tb vb kb v → FB w.heap.size X' tb vb kb v := fun v hv a n c e => ⟨⟨fun hx => (hv a n c e).1.1 (hX _ hx), (hv a n c e).1.2⟩, (hv a n c e).2⟩
  exact ⟨h.blk, h.ops, h.prt, h.sp, h.vm, h.rd, h.ak, h.t0, h.v0, h.k0, h.tB, h.vB, h.kB, h.d1, h.d2, h.d3, fun hx => h.xt (hX _ hx), fun hx => h.xv (hX _ hx), fun hx => h.xk (hX _ hx), hf _ h.xo, hf _ h.xp, fun k hk hx => h.xs k hk (hX _ hx), fun x hx => hf _ (h.xr x hx), fun k hk => h.xl k (hX _ hk), h.nd⟩

def LoadedT (bs : List UInt8) (w : World) (e : Ending) (w' : World) : Prop :=
  (loadTx bs = none ∧ e = .returned (.tuple #[.pointer none, .int .i64 12])) ∨ ∃ t tb b0, loadTx bs = some t ∧ e = .returned (.tuple #[.pointer (some ⟨tb, 0, none⟩), .int .i64 0]) ∧ w.heap.size ≤ b0 ∧ b0 ≤ w'.heap.size ∧ TX w' (fun k => k < b0) b0 tb t ∧ Good0 t

set_option maxRecDepth 100000 in
set_option maxHeartbeats 6400000 in
theorem loadTx_any (w : World) (v0 : Value) (bs : List UInt8) (h : Reads w v0 bs.length 1 (bc bs)) (hbl : bs.length ≤ 140737488351232) :
    Calls Try.prog 23 #[v0] w fun e w' => LoadedT bs w e w' ∧ Fr (fun _ => False) w w' := by
  have hnr := newReader_any w v0 bs h (by omega)
  obtain ⟨n, hn⟩ : ∃ n, bs.length = n := ⟨_, rfl⟩
  have hn9 : (n : Int) ≤ 140737488351232 := by omega
  obtain ⟨-, a, c, e, -, -, -⟩ := id h
  rw [hn] at e
  subst e
  have HRV := hide h
  have HN := hide hn
  have HNR := hide hnr
  clear h hnr hn
  go_enter Try.func23, Try.ntmps23
  go_wp2_with fail
  refine HNR.out.mono ?_
  rintro e w1 ⟨rb, v, rfl, hrb, hvb, hr, hf⟩
  have hob := fun k hk => (hr.own.lt k hk).2
  have hb := begun_any w1 rb v bs _ hr n (by have := HN.out; omega) hob
  have HB := hide hb
  have HF := hide hf
  have HRB := hide hrb
  have HVB := hide hvb
  have HOB := hide hob
  have HRL := hide (lt_of_block hr.blk)
  clear hr hb hf hrb hvb hob
  go_wp2_with fail
  refine HB.out.mono ?_
  rintro e w2 ⟨hbg, hf2⟩
  have HF2 := hide ((HF.out.mono (S' := fun k => w.heap.size ≤ k) (fun _ _ h => h.elim)).trans hf2 (fun k _ e => by subst e; exact HRB.out))
  clear hf2
  rcases hbg with ⟨hT, rfl⟩ | ⟨t, tb, b0, hT, rfl, hr2, hb1, hb2, htx⟩
  · have HT := hide hT
    clear hT
    go_wp2_with fail
    go_ret2
    refine ⟨.inl ⟨?_, rfl⟩, HF2.out.fresh (fun k hk => by omega)⟩
    unfold loadTx
    rw [HN.out, HT.out]
  · have hL2 : LdS w w2 rb v bs b0 (fun k => k < b0) tb (bgS bs n ⟨0, 0, 0⟩).1 t := ⟨hr2, htx, HF2.out, HRB.out, by have := HRL.out; omega, fun k hk => ⟨HVB.out k hk, by have := HOB.out k hk; omega⟩, hb2, fun _ h => h⟩
    have hgd := bgT_good hT
    have hwt := bgT_wt hT
    have hL : loadTx bs = match ldV bs (ldO bs t (bgS bs n ⟨0, 0, 0⟩).1) with
      | none => none
      | some s => match ldA bs s with
        | none => none
        | some s => if (s.1.end_ bs).1 ≠ 0 ∨ rightR s.2 = false ∨ svT s.2 ≠ bs then none else some s.2 := by
      have hT' : bgT bs bs.length ⟨0, 0, 0⟩ = some t := by rw [HN.out]; exact hT
      conv => lhs; unfold loadTx
      rw [hT', HN.out]
      rfl
    obtain ⟨ra, hra⟩ : ∃ x, (bgS bs n ⟨0, 0, 0⟩).1 = x := ⟨_, rfl⟩
    rw [hra] at hL hL2 hwt
    have HL2 := hide hL2
    have HLT := hide hL
    have HGD := hide hgd
    have HWT := hide hwt
    clear hra hL hL2 hgd hwt hr2 hb1 hb2 htx hT HB HNR
    -- the outcome
    obtain ⟨⟨o, r1⟩, hO⟩ : ∃ x, ra.get bs 1 = x := ⟨_, rfl⟩
    obtain ⟨⟨p, r2⟩, hP⟩ : ∃ x, r1.get bs 8 = x := ⟨_, rfl⟩
    obtain ⟨⟨y, r3⟩, hY⟩ : ∃ x, r2.get bs 8 = x := ⟨_, rfl⟩
    obtain ⟨⟨cn, r4⟩, hC⟩ : ∃ x, r3.count bs 3 = x := ⟨_, rfl⟩
    obtain ⟨P, hPP⟩ : ∃ P : Int, IntKind.i64.wrap (p : Int) = P := ⟨_, rfl⟩
    obtain ⟨Y, hYY⟩ : ∃ P : Int, IntKind.i64.wrap (y : Int) = P := ⟨_, rfl⟩
    have hLO : ldO bs t ra = (r3, { t with o := (o : Int), pos := P, why := Y }) := by
      unfold ldO; rw [hO]; simp only; rw [hP]; simp only; rw [hY]; simp only; rw [hPP, hYY]
    have hat4 : ra.at_ ≤ r4.at_ := by
      have a1 := get_at bs ra 1
      have a2 := get_at bs r1 8
      have a3 := get_at bs r2 8
      have a4 := count_at bs r3 3
      rw [hO] at a1; rw [hP] at a2; rw [hY] at a3; rw [hC] at a4
      simp only at a1 a2 a3 a4; omega
    have hcn : cn ≤ 3 := by have := count_most bs r3 3; rw [hC] at this; simp only at this; omega
    have c1 := ld_byte HL2.out
    rw [hO] at c1
    have c2 : ∀ wx t', LdS w wx rb v bs b0 (fun k => k < b0) tb r1 t' → Calls Try.prog 58 #[.pointer (some ⟨rb, 0, none⟩)] wx fun e w' => e = .returned (.int .i64 P) ∧ LdS w w' rb v bs b0 (fun k => k < b0) tb r2 t' ∧ Fr (fun k => k = rb) wx w' := fun wx t' h => by
      have := ld_eight h
      rw [hP] at this; simp only at this; rw [hPP] at this; exact this
    have c3 : ∀ wx t', LdS w wx rb v bs b0 (fun k => k < b0) tb r2 t' → Calls Try.prog 58 #[.pointer (some ⟨rb, 0, none⟩)] wx fun e w' => e = .returned (.int .i64 Y) ∧ LdS w w' rb v bs b0 (fun k => k < b0) tb r3 t' ∧ Fr (fun k => k = rb) wx w' := fun wx t' h => by
      have := ld_eight h
      rw [hY] at this; simp only at this; rw [hYY] at this; exact this
    have c4 : ∀ wx t', LdS w wx rb v bs b0 (fun k => k < b0) tb r3 t' → Calls Try.prog 59 #[.pointer (some ⟨rb, 0, none⟩), .int .i64 3] wx fun e w' => e = .returned (.int .i64 cn) ∧ LdS w w' rb v bs b0 (fun k => k < b0) tb r4 t' ∧ Fr (fun k => k = rb) wx w' := fun wx t' h => by
      have := ld_count h 3
      rw [hC] at this; exact this
    have hLV : ldV bs (r3, { t with o := (o : Int), pos := P, why := Y }) = itK (vtStep bs n) (r4, { t with o := (o : Int), pos := P, why := Y }) cn := by
      unfold ldV; simp only; rw [hC, HN.out]
    have hlt := HLT.out
    rw [hLO, hLV] at hlt
    have HLT := hide hlt
    have C1 := hide c1
    have C2 := hide c2
    have C3 := hide c3
    have C4 := hide c4
    have HCN := hide hcn
    have HWT4 : Hid (wT t ≤ r4.at_) := by have := HWT.out; show wT t ≤ r4.at_; omega
    clear hlt hLO hLV hat4 c1 c2 c3 c4 hcn hO hP hY hC hPP hYY
    go_wp2_with fail
    refine C1.out.mono ?_
    rintro e w3 ⟨rfl, hl3, -⟩
    obtain ⟨f8, u8, z8⟩ := hl3.cell 8 (by decide) (by decide)
    obtain ⟨w4, hw4⟩ : ∃ w4, w3.setCell ⟨tb, 8, none⟩ (.int .i64 o) = w4 := ⟨_, rfl⟩
    have hl4 := hl3.set 8 (.int .i64 o) { t with o := (o : Int) } (fun _ _ _ _ _ _ => rfl) rfl rfl rfl rfl rfl
    rw [hw4] at hl4
    have HC2 := hide (C2.out w4 _ hl4)
    have HW4 := hide hw4
    clear hl3 hl4 hw4 C1
    go_upto_region 6 with fail
    rw [HW4.out]
    go_wp2_with fail
    refine HC2.out.mono ?_
    rintro e w5 ⟨rfl, hl5, -⟩
    have HC3 := hide (C3.out w5 _ hl5)
    clear hl5 f8 z8
    go_wp2_with fail
    refine HC3.out.mono ?_
    rintro e w6 ⟨rfl, hl6, -⟩
    obtain ⟨f9, u9, z9⟩ := hl6.cell 9 (by decide) (by decide)
    have hl7 := hl6.set 9 (.int .i64 P) { t with o := (o : Int), pos := P } (fun _ _ _ _ _ _ => rfl) rfl rfl rfl rfl rfl
    obtain ⟨f10, u10, z10⟩ := hl7.cell 10 (by decide) (by decide)
    have hl8 := hl7.set 10 (.int .i64 Y) { t with o := (o : Int), pos := P, why := Y } (fun _ _ _ _ _ _ => rfl) rfl rfl rfl rfl rfl
    obtain ⟨w8, hw8⟩ : ∃ w8, (w6.setCell ⟨tb, 9, none⟩ (.int .i64 P)).setCell ⟨tb, 10, none⟩ (.int .i64 Y) = w8 := ⟨_, rfl⟩
    rw [hw8] at hl8
    obtain ⟨t1, ht1⟩ : ∃ t1, { t with o := (o : Int), pos := P, why := Y } = t1 := ⟨_, rfl⟩
    have hg1 : Good0 t1 := by
      rw [← ht1]
      have := HGD.out.1
      exact ⟨this.pl, this.len, this.pn, this.sl, this.gr, this.gnd, this.vnd, this.sub, this.vl, this.knd, this.ksub, fun e => by cases e⟩
    have hp1 : t1.parts.length ≤ 4096 := by rw [← ht1]; exact HGD.out.2
    have hw1 : wT t1 ≤ r4.at_ := by rw [← ht1]; exact HWT4.out
    have hlt := HLT.out
    rw [ht1] at hl8 hlt
    have HC4 := hide (C4.out w8 _ hl8)
    have HW8 := hide hw8
    have HG1 := hide hg1
    have HP1 := hide hp1
    have HW1 := hide hw1
    have HLT := hide hlt
    clear hl6 hl7 hl8 hw8 hg1 hp1 hw1 hlt ht1 C2 C3 C4 HC2 HC3
    go_upto_region 7 with fail
    rw [HW8.out]
    clear f9 z9 f10 z10
    go_wp2_with fail
    refine HC4.out.mono ?_
    rintro e w9 ⟨rfl, hl9, -⟩
    have HL9 := hide hl9
    clear hl9
    go_wp2_with fail
    go_loopw [6] (fun i wr => ∃ (j q : Nat) (s : RS × TxR), i = .int .i64 q ∧ j + q = cn ∧ Hid (itK (vtStep bs n) (r4, t1) j = some s) ∧ Hid (LdS w wr rb v bs b0 (fun k => k < b0) tb s.1 s.2) ∧ Hid (Good0 s.2 ∧ s.2.parts.length ≤ 4096 ∧ wT s.2 ≤ s.1.at_)) (fun i _ => (intOf i).toNat)
    case atStart => exact ⟨0, cn, (r4, t1), rfl, by omega, rfl, HL9.out, HG1.out, HP1.out, HW1.out⟩
    case round =>
      obtain ⟨j, q, ⟨rr, tt⟩, rfl, hjq, HIT, HLR, HGR⟩ := hrel
      by_cases hq0 : q = 0
      · subst hq0
        have hjc : j = cn := by omega
        subst hjc
        have hlt : loadTx bs = match ldA bs (rr, tt) with
            | none => none
            | some s => if (s.1.end_ bs).1 ≠ 0 ∨ rightR s.2 = false ∨ svT s.2 ≠ bs then none else some s.2 := by
          have h1 := HLT.out
          rw [HIT.out] at h1; exact h1
        obtain ⟨⟨ka, r5⟩, hC⟩ : ∃ x, rr.count bs 3 = x := ⟨_, rfl⟩
        have hLA : ldA bs (rr, tt) = itK (akStep bs) (r5, tt) ka := by unfold ldA; simp only [hC]
        rw [hLA] at hlt
        have c1 := ld_count HLR.out 3
        simp only at c1
        rw [hC] at c1
        have hka : ka ≤ 3 := by have := count_most bs rr 3; rw [hC] at this; simp only at this; omega
        have hat : rr.at_ ≤ r5.at_ := by have := count_at bs rr 3; rw [hC] at this; exact this
        have hwt5 : wT tt ≤ r5.at_ := Nat.le_trans HGR.out.2.2 hat
        have HLT2 := hide hlt
        have C1 := hide c1
        have HKA := hide hka
        have HW5 := hide hwt5
        clear hlt hLA c1 hka hat hwt5 hC
        go_wp2_with fail
        refine C1.out.mono ?_
        rintro e v1 ⟨rfl, hl5, -⟩
        have HL5 := hide hl5
        clear hl5 C1
        go_wp2_with fail
        go_loopw [11] (fun i wr => ∃ (m z : Nat) (s : RS × TxR), i = .int .i64 z ∧ m + z = ka ∧ Hid (itK (akStep bs) (r5, tt) m = some s) ∧ Hid (LdS w wr rb v bs b0 (fun k => k < b0) tb s.1 s.2) ∧ Hid (Good0 s.2 ∧ s.2.parts.length ≤ 4096 ∧ wT s.2 ≤ s.1.at_)) (fun i _ => (intOf i).toNat)
        case atStart => exact ⟨0, ka, (r5, tt), rfl, by omega, rfl, HL5.out, HGR.out.1, HGR.out.2.1, HW5.out⟩
        case round =>
          obtain ⟨m, z, ⟨rk, tk⟩, rfl, hmz, HIT2, HLK, HGK⟩ := hrel
          by_cases hz0 : z = 0
          · subst hz0
            have hmk : m = ka := by omega
            subst hmk
            have hlt : loadTx bs = if (rk.end_ bs).1 ≠ 0 ∨ rightR tk = false ∨ svT tk ≠ bs then none else some tk := by
              have h1 := HLT2.out
              rw [HIT2.out] at h1; exact h1
            obtain ⟨⟨wy, fin⟩, hE⟩ : ∃ p, rk.end_ bs = p := ⟨_, rfl⟩
            have cE : ∀ wx, Rd wx rb v bs rk → Calls Try.prog 61 #[.pointer (some ⟨rb, 0, none⟩)] wx fun e w' => e = .returned (.tuple #[.int .i64 wy, .int .i64 fin]) ∧ Rd w' rb v bs rk ∧ Fr (fun k => k = rb) wx w' := fun wx hr => by
              have := end_any wx rb v bs rk hr
              rw [hE] at this; exact this
            rw [hE] at hlt
            simp only at hlt
            have CE := hide (cE _ HLK.out.rd)
            have hcase : ((wy != 0) = true ∧ loadTx bs = none) ∨ ((wy != 0) = false ∧ rightR tk = false ∧ loadTx bs = none) ∨ ((wy != 0) = false ∧ rightR tk = true ∧ svT tk ≠ bs ∧ loadTx bs = none) ∨ ((wy != 0) = false ∧ rightR tk = true ∧ svT tk = bs ∧ loadTx bs = some tk) := by
              by_cases h1 : wy = 0
              · cases h2 : rightR tk with
                | false => right; left; exact ⟨by simp [h1], rfl, by rw [hlt, if_pos (.inr (.inl h2))]⟩
                | true =>
                  by_cases h3 : svT tk = bs
                  · right; right; right; exact ⟨by simp [h1], rfl, h3, by rw [hlt, if_neg (by simp [h1, h2, h3])]⟩
                  · right; right; left; exact ⟨by simp [h1], rfl, h3, by rw [hlt, if_pos (.inr (.inr h3))]⟩
              · left; exact ⟨by simp [h1], by rw [hlt, if_pos (.inl h1)]⟩
            have hgl : tk.V.length ≤ 3 ∧ tk.K.length ≤ 3 ∧ tk.ops.length ≤ 4 ∧ tk.S.length ≤ 3 ∧ ∀ x ∈ tk.V, x.2.length ≤ 4 := good0_lens HGK.out.1
            have hsl : (svT tk).length ≤ 140737488354900 := by
              have h1 : (svT tk).length ≤ wT tk + 200 := svT_len HGK.out.1
              have h2 : wT tk ≤ rk.at_ := HGK.out.2.2
              have h3 : rk.at_ ≤ bs.length := HLK.out.rd.le
              omega
            have hok := good0_sv HGK.out.1 HGK.out.2.1
            have hrt : ∀ wx, LdS w wx rb v bs b0 (fun k => k < b0) tb rk tk → Calls Try.prog 62 #[.pointer (some ⟨tb, 0, none⟩)] wx fun e w' => e = .returned (.bool (rightR tk)) ∧ Fr (fun _ => False) wx w' := fun wx hx => right_tx wx _ b0 tb tk hx.tx (by have := hgl.1; omega) (by have := hgl.2.2.2.1; omega) (by have := hgl.2.1; omega)
            have hsv : ∀ wx, LdS w wx rb v bs b0 (fun k => k < b0) tb rk tk → Calls Try.prog 22 #[.pointer (some ⟨tb, 0, none⟩)] wx fun e w' => ∃ v', e = .returned v' ∧ w'.ownsRow wx.heap.size 5 1 v' (svT tk).length (bc (svT tk)) ∧ Fr (fun _ => False) wx w' := fun wx hx => saveT_any wx _ b0 tb tk hx.tx hok hsl
            have HRT := hide hrt
            have HSV := hide hsv
            clear hgl hsl hok hrt hsv cE hE hlt
            rcases hcase with ⟨h1, hl⟩ | ⟨h1, h2, hl⟩ | ⟨h1, h2, h3, hl⟩ | ⟨h1, h2, h3, hl⟩
            · have HL := hide hl
              clear hl
              go_wp2_with fail
              refine CE.out.mono ?_
              rintro e y1 ⟨rfl, hr, hf⟩
              have HLy := hide (HLK.out.read hr hf)
              clear hr hf
              go_wp2_with fail
              go_ret2
              exact ⟨.inl ⟨HL.out, rfl⟩, HLy.out.fresh⟩
            · have HL := hide hl
              have HH2 := hide h2
              clear hl h2
              go_wp2_with fail
              refine CE.out.mono ?_
              rintro e y1 ⟨rfl, hr, hf⟩
              have HLy := hide (HLK.out.read hr hf)
              clear hr hf
              go_wp2_with fail
              refine (HRT.out y1 HLy.out).mono ?_
              rw [HH2.out]
              rintro e y2 ⟨rfl, hf⟩
              have HLy2 := hide (HLy.out.fr0 hf)
              clear hf
              go_wp2_with fail
              go_ret2
              exact ⟨.inl ⟨HL.out, rfl⟩, HLy2.out.fresh⟩
            all_goals
              have HL := hide hl
              have HH2 := hide h2
              have HH3 := hide h3
              clear hl h2 h3
              go_wp2_with fail
              refine CE.out.mono ?_
              rintro e y1 ⟨rfl, hr, hf⟩
              have HLy := hide (HLK.out.read hr hf)
              clear hr hf
              go_wp2_with fail
              refine (HRT.out y1 HLy.out).mono ?_
              rw [HH2.out]
              rintro e y2 ⟨rfl, hf⟩
              have HLy2 := hide (HLy.out.fr0 hf)
              clear hf
              go_wp2_with fail
              refine (HSV.out y2 HLy2.out).mono ?_
              rintro e y3 ⟨v', rfl, ho, hf⟩
              have hly3 := HLy2.out.fr0 hf
              have hrs := Reads.of_own ho
              have hbs := reads_old HRV.out hly3.fresh (fun _ _ => id)
              rw [HN.out] at hbs
              have heq := equal_any y3 v' (.slice a n c) (svT tk) bs hrs (by rw [HN.out]; exact hbs)
              have HEQ := hide heq
              have HLy3 := hide hly3
              clear hf hly3 ho hrs hbs heq
              go_wp2_with fail
              refine HEQ.out.mono ?_
            · rw [show decide (svT tk = bs) = false by simp [HH3.out]]
              rintro e y4 ⟨rfl, rfl⟩
              go_wp2_with fail
              go_ret2
              exact ⟨.inl ⟨HL.out, rfl⟩, HLy3.out.fresh⟩
            · rw [show decide (svT tk = bs) = true by simp [HH3.out]]
              rintro e y4 ⟨rfl, rfl⟩
              go_wp2_with fail
              go_ret2
              exact ⟨.inr ⟨tk, tb, b0, HL.out, rfl, by have := HLy3.out.h0; have := HLy3.out.h1; omega, HLy3.out.h3, HLy3.out.tx, HGK.out.1⟩, HLy3.out.fresh⟩
          · have iz0 : (0 : Int) < (z : Int) := by omega
            have iz1 : 0 < z := by omega
            obtain ⟨z', hz'⟩ : ∃ z', z - 1 = z' := ⟨_, rfl⟩
            have iz3 : wrap64 ((z : Int) - 1) = (z' : Int) := by have := HKA.out; unfold wrap64; omega
            have HZ' := hide hz'
            have HMZ := hide hmz
            clear hz' hz0
            obtain ⟨⟨g, rg⟩, hB⟩ : ∃ x, rk.get bs 1 = x := ⟨_, rfl⟩
            have c1 := ld_byte HLK.out
            rw [hB] at c1
            simp only at c1
            have hst : akStep bs (rk, tk) = if ((g : Int)) ∈ grp tk then some (rg, { tk with K := addS tk.K (g : Int) }) else none := by
              unfold akStep; simp only [hB]
            have hag := get_at bs rk 1
            rw [hB] at hag
            have C1 := hide c1
            have HST := hide hst
            have HAG := hide hag
            clear hB c1 hst hag
            go_wp2_with fail
            refine C1.out.mono ?_
            rintro e y1 ⟨rfl, hl1, -⟩
            obtain ⟨B, vb, kb, vo, vp, vg, va, vs, vals, hx⟩ := id hl1.tx
            obtain ⟨hv3, hk3, ho4, hs3, hlen4⟩ := good0_lens HGK.out.1
            have hgs3 : (grp tk).length ≤ 3 := by unfold grp; rw [List.length_map]; exact hs3
            have hCo := contains_any y1 vg (grp tk) hx.groups (by omega) (g : Int)
            have d4 : y1.cell? ⟨tb, 4, none⟩ = some vg := hx.c 4
            have d7 : y1.cell? ⟨tb, 7, none⟩ = some (.map (some kb)) := hx.c 7
            have hak := hx.ak
            have hkm : tk.K.length < maxLen := by unfold maxLen; omega
            have HX := hide hx
            have HL1 := hide hl1
            clear hx hl1 hv3 hk3 ho4 hs3 hlen4 hgs3 C1
            by_cases hgm : (g : Int) ∈ grp tk
            · rw [decide_eq_true hgm] at hCo
              have hst := HST.out
              rw [if_pos hgm] at hst
              have hkey : keyOf Try.prog 3 (.int .i64 (g : Int)) = some (.int .i64 (g : Int)) := keyOf_int_mk Try.underlying3 (wf_small (HGK.out.1.gr _ hgm))
              have HCO := hide hCo
              have HST2 := hide hst
              have HGM := hide hgm
              clear hCo hst hgm
              go_wp2_with fail
              refine HCO.out.mono ?_
              rintro e y2 ⟨rfl, rfl⟩
              go_wp2_with (first
                | (at_mapUpdate; refine wpList_store_mn _ rfl _ _ _ 83 rfl 3 3 law Try.underlying83 kb tk.K rfl hak hkm (g : Int) rfl rfl hkey ?_; intro z2 hk2 ht2; have HK2 := hide hk2; have HT2 := hide ht2; clear hk2 ht2)
                | fail)
              go_roundw
              case rel =>
                have hfr : Fr (fun k => k = kb) y2 z2 := Fr.turned HT2.out rfl
                have hT := HX.out.acked _ HK2.out hfr
                refine ⟨m + 1, z', (rg, { tk with K := addS tk.K (g : Int) }), by go_num, by have := HMZ.out; have := HZ'.out; omega, ?_, HL1.out.own ⟨_, _, _, _, _, _, _, _, _, hT⟩ (hfr.mono (fun k _ e => by subst e; exact HX.out.k0)), good_addK HGK.out.1 HGM.out, HGK.out.2.1, ?_⟩
                · show (itK _ _ m).bind _ = _
                  rw [HIT2.out]; exact HST2.out
                · have h3 : rk.at_ ≤ rg.at_ := HAG.out
                  have h4 : wT tk ≤ rk.at_ := HGK.out.2.2
                  show wT tk ≤ rg.at_
                  omega
              case measure => simp [intOf]; have := HZ'.out; omega
            · rw [decide_eq_false hgm] at hCo
              have hno : loadTx bs = none := by
                have h1 := HST.out
                rw [if_neg hgm] at h1
                rw [HLT2.out, itK_stop HIT2.out h1 (by have := HMZ.out; omega)]
              have HCO := hide hCo
              have HNO := hide hno
              clear hCo hno hgm
              go_wp2_with fail
              refine HCO.out.mono ?_
              rintro e y2 ⟨rfl, rfl⟩
              go_wp2_with fail
              go_ret2
              exact ⟨.inl ⟨HNO.out, rfl⟩, HL1.out.fresh⟩
      · have iq0 : (0 : Int) < (q : Int) := by omega
        have iq1 : 0 < q := by omega
        obtain ⟨q', hq'⟩ : ∃ q', q - 1 = q' := ⟨_, rfl⟩
        have iq3 : wrap64 ((q : Int) - 1) = (q' : Int) := by have := HCN.out; unfold wrap64; omega
        have HQ' := hide hq'
        have HJQ := hide hjq
        clear hq' hq0
        obtain ⟨⟨g, rg⟩, hB⟩ : ∃ x, rr.get bs 1 = x := ⟨_, rfl⟩
        have c1 := ld_byte HLR.out
        rw [hB] at c1
        simp only at c1
        have hst : vtStep bs n (rr, tt) = if ((g : Int)) ∈ grp tt then some ((txK bs n rg (atOf tt (g : Int)).length).1, putV tt (g : Int) (txK bs n rg (atOf tt (g : Int)).length).2) else none := by
          unfold vtStep; simp only [hB]
        have hag := get_at bs rr 1
        rw [hB] at hag
        have C1 := hide c1
        have HST := hide hst
        have HAG := hide hag
        clear hB c1 hst hag
        go_wp2_with fail
        refine C1.out.mono ?_
        rintro e y1 ⟨rfl, hl1, -⟩
        obtain ⟨B, vb, kb, vo, vp, vg, va, vs, vals, hx⟩ := id hl1.tx
        obtain ⟨gsl, hgsl⟩ : ∃ m, (grp tt).length = m := ⟨_, rfl⟩
        obtain ⟨hv3, hk3, ho4, hs3, hlen4⟩ := good0_lens HGR.out.1
        have hgs3 : (grp tt).length ≤ 3 := by unfold grp; rw [List.length_map]; exact hs3
        obtain ⟨i, hi⟩ := ix_ex (grp tt) (g : Int)
        have hI := index_any y1 vg (grp tt) hx.groups (by omega) (g : Int) i hi
        have d4 : y1.cell? ⟨tb, 4, none⟩ = some vg := hx.c 4
        have HX := hide hx
        have HL1 := hide hl1
        have HI := hide hI
        have HLN := hide (⟨hv3, hk3, ho4, hs3, hlen4⟩ : tt.V.length ≤ 3 ∧ tt.K.length ≤ 3 ∧ tt.ops.length ≤ 4 ∧ tt.S.length ≤ 3 ∧ ∀ x ∈ tt.V, x.2.length ≤ 4)
        clear hx hl1 hI hv3 hk3 ho4 hs3 hlen4 hgs3 hgsl C1
        rcases hi with ⟨rfl, hgm⟩ | ⟨k, rfl, hk1, hk2⟩
        · have hno : loadTx bs = none := by
            have h1 := HST.out
            rw [if_neg hgm] at h1
            rw [HLT.out, itK_stop HIT.out h1 (by have := HJQ.out; omega)]
          have HNO := hide hno
          clear hno hgm
          go_wp2_with fail
          refine HI.out.mono ?_
          rintro e y2 ⟨rfl, rfl⟩
          go_wp2_with fail
          go_ret2
          exact ⟨.inl ⟨HNO.out, rfl⟩, HL1.out.fresh⟩
        · obtain ⟨x, hx1, hx2, hx3⟩ := at_of_ix hk1 hk2
          have hgm : (g : Int) ∈ grp tt := List.mem_of_getElem? hk1
          have hst := HST.out
          rw [if_pos hgm, hx3] at hst
          have hpn : x.2.length ≤ 4 := HGR.out.1.pn x (List.mem_of_getElem? hx1)
          have hvl := HX.out.sp.len
          have hkS := (List.getElem?_eq_some_iff.1 hx1).1
          obtain ⟨pv, hpv⟩ : ∃ pv, vs[k]? = some pv := ⟨_, List.getElem?_eq_getElem (by omega)⟩
          obtain ⟨hpr, _⟩ := HX.out.sp.rd k x pv hx1 hpv
          obtain ⟨-, ap, cp, rfl, -, -, -⟩ := id hpr
          have hra := Reads.of_own HX.out.sp.a
          obtain ⟨-, aa, ca, rfl, -, -, hca⟩ := hra
          obtain ⟨b5, o5, rfl, e5⟩ := hca k (.slice ap x.2.length cp) hpv
          obtain ⟨na, hna⟩ : ∃ na, x.2.length = na := ⟨_, rfl⟩
          obtain ⟨nS, hnS⟩ : ∃ nS, tt.S.length = nS := ⟨_, rfl⟩
          have d5 : y1.cell? ⟨tb, 5, none⟩ = some (.slice (some ⟨b5, o5, none⟩) nS ca) := by rw [← hnS]; exact HX.out.c 5
          rw [hna] at e5 hst hpn
          have hat : (atOf tt (g : Int)).length = na := by rw [hx3]; exact hna
          have ikS : (k : Int) < (nS : Int) := by omega
          have ik0 : ¬ (k : Int) < 0 := by omega
          have ik1 : (0 : Int) ≤ (k : Int) := by omega
          obtain ⟨i0, hi0, hz0, hz1, hz2⟩ := info_parts infoCStr
          have b2 : i0.bytes * na ≤ 281474976710656 := by rw [hz2]; omega
          have b3 : na ≤ maxLen := by unfold maxLen; omega
          have HST2 := hide hst
          have HGM := hide hgm
          have HAT := hide hat
          have HPN := hide hpn
          clear hca hpr hpv hnS hna hvl hkS hst hgm hat hpn hk1 hk2 hx1 hx2 hx3
          go_wp2_with fail
          refine HI.out.mono ?_
          rintro e y2 ⟨rfl, rfl⟩
          go_wp2_with (first
            | (at_make; refine wpList_make_full _ rfl _ _ _ rfl y2.heap.size 9 i0 _ 1 Try.underlying22 hi0 hz0 hz1 .i64 .i64 _ _ na rfl rfl (by go_num) (by go_num) b2 b3 (Nat.le_refl _) ?_; intro y3 ho3 hg3; have hf3 := Fr.grown (S := fun _ => False) hg3 (by intro k hk; cases hk); have HO3 := hide ho3; have HF3 := hide hf3; clear ho3 hg3 hf3)
            | fail)
          have hl3 := HL1.out.more HF3.out
          obtain ⟨nb, hnb⟩ : ∃ nb, y2.heap.size = nb := ⟨_, rfl⟩
          have hnr : rb < nb ∧ b0 ≤ nb := by have := HL1.out.h1; have := HL1.out.h3; omega
          have hnl : nb < y3.heap.size := by have := (HO3.out.lt y2.heap.size rfl).2; omega
          have ho3 := HO3.out
          rw [hnb] at hl3 ho3 ⊢
          have ho3' : y3.ownsRow nb 9 1 (.slice (some ⟨nb, 0, none⟩) na na) na ((([] : List ByteArray) ++ List.replicate (na - 0) (⟨#[]⟩ : ByteArray)).map .string) := by
            have h3 : (madeCells (Value.string ⟨#[]⟩ : Value).cells (na * 1)).toList = (([] : List ByteArray) ++ List.replicate (na - 0) (⟨#[]⟩ : ByteArray)).map .string := by
              simp [madeCells, Value.cells, List.map_replicate]
              apply List.ext_getElem?
              intro i
              simp [List.getElem?_replicate]
              by_cases h : i < na <;> simp [h, Nat.mod_one]
            rw [h3] at ho3; exact ho3
          have HL3 := hide hl3
          have HO3' := hide ho3'
          have HNR := hide hnr
          have HNL := hide hnl
          clear hl3 ho3 ho3' hnr hnl hnb d4 d5 e5 HO3
          obtain ⟨ne, hne⟩ : ∃ ne, y3.heap.size = ne := ⟨_, rfl⟩
          have HNE := hide hne
          have hl3 := HL3.out
          rw [hne] at hl3
          have HL3 := hide hl3
          clear hl3 hne
          go_loopw [65] (fun ix wx => ∃ i : Nat, ix = .int .i64 i ∧ i ≤ na ∧ Hid (LdS w wx rb v bs b0 (fun k => k < b0 ∨ (nb ≤ k ∧ k < ne)) tb (txK bs n rg i).1 tt) ∧ Hid (wx.ownsRow nb 9 1 (.slice (some ⟨nb, 0, none⟩) na na) na (((txK bs n rg i).2 ++ List.replicate (na - i) (⟨#[]⟩ : ByteArray)).map .string))) (fun ix _ => na - (intOf ix).toNat)
          case atStart => exact ⟨0, rfl, Nat.zero_le _, HL3.out, HO3'.out⟩
          case round =>
            obtain ⟨i, rfl, hi, HLI, HOI⟩ := hrel
            by_cases hlt : i < na
            · have ii0 : (0 : Int) ≤ (i : Int) := by omega
              have ii1 : (i : Int) < (na : Int) := by omega
              have hp4 : (na : Int) ≤ 4 := by have := HPN.out; omega
              have hs : txK bs n rg (i + 1) = (((txK bs n rg i).1.text bs n).2, (txK bs n rg i).2 ++ [⟨((txK bs n rg i).1.text bs n).1.toArray⟩]) := rfl
              have hll := txK_len bs n rg i
              have hli := HLI.out
              have hoi := HOI.out
              obtain ⟨⟨ri, li⟩, hsi⟩ : ∃ s, txK bs n rg i = s := ⟨_, rfl⟩
              rw [hsi] at hs hll hli hoi
              simp only at hs hll hli hoi
              have c1 := ld_text hli n
              obtain ⟨⟨tl, rn⟩, hT⟩ : ∃ s, ri.text bs n = s := ⟨_, rfl⟩
              rw [hT] at hs c1
              simp only at hs c1
              obtain ⟨T, hTT⟩ : ∃ T : ByteArray, (⟨tl.toArray⟩ : ByteArray) = T := ⟨_, rfl⟩
              rw [hTT] at hs c1
              have C1 := hide c1
              have HS := hide hs
              have HLL := hide hll
              have HOw := hide hoi
              clear c1 hs hll hli hoi hsi hT hTT
              go_wp2_with fail
              refine C1.out.mono ?_
              rintro e z1 ⟨rfl, hz, hf⟩
              have ho1 := ownsRow_fr HOw.out hf (fun k hk e => by cases hk; have := HNR.out.1; simp at e; omega)
              obtain ⟨u, -, hcx, hfx⟩ := own_cell ho1 hlt
              have HO1 := hide ho1
              have HZ := hide hz
              clear ho1 hz hf C1
              go_wp2_with fail
              go_roundw
              case rel =>
                refine ⟨i + 1, by go_num, hlt, ?_, ?_⟩
                · rw [HS.out]
                  exact HZ.out.other (q := nb) HNR.out.2 (.inr ⟨Nat.le_refl _, by have := HNL.out; have := HNE.out; omega⟩) (Fr.setCell _ _ _ rfl)
                · rw [HS.out]
                  have h1 := own_set HO1.out i (.string T)
                  rw [set_next HLL.out hlt] at h1
                  exact h1
              case measure => simp [intOf]; omega
            · have hin : i = na := by omega
              subst hin
              have ii1 : ¬ (i : Int) < (i : Int) := by omega
              obtain ⟨B', vb', kb', vo', vp', vg', va', vs', vals', hx'⟩ := id HLI.out.tx
              have hxs := hx'.lessX (X' := fun k => k < b0) (fun k h => .inl h)
              have hox := HOI.out
              rw [Nat.sub_self, List.replicate_zero, List.append_nil] at hox
              have hrs := Reads.of_own hox
              have hlen : ((txK bs n rg i).2).length = i := txK_len bs n rg i
              have hXn : nb < ne := by have := HNL.out; have := HNE.out; omega
              have hfb : FB wr.heap.size (fun k => k < b0) tb vb' kb' (.slice (some ⟨nb, 0, none⟩) i i) := fun a n c e => by
                cases e
                refine ⟨⟨by have := HNR.out.2; show ¬ nb < b0; omega, fun e => hx'.xt (.inr ⟨by show nb ≤ tb; have : nb = tb := e; omega, by have : nb = tb := e; omega⟩), fun e => hx'.xv (.inr ⟨by have : nb = vb' := e; omega, by have : nb = vb' := e; omega⟩), fun e => hx'.xk (.inr ⟨by have : nb = kb' := e; omega, by have : nb = kb' := e; omega⟩)⟩, ?_⟩
                exact (hox.lt nb rfl).2
              have hkey : keyOf Try.prog 3 (.int .i64 (g : Int)) = some (.int .i64 (g : Int)) := keyOf_int_mk Try.underlying3 (wf_small (HGR.out.1.gr _ HGM.out))
              have d6 : wr.cell? ⟨tb, 6, none⟩ = some (.map (some vb')) := hx'.c 6
              have hvm := hx'.vm
              have hvlen : tt.V.length < maxLen := by have := HLN.out.1; unfold maxLen; omega
              have HXS := hide hxs
              have HRS := hide hrs
              have HFB := hide hfb
              have HLE := hide hlen
              have HV0 := hide hx'.v0
              clear hx' hxs hox hrs hfb hlen hXn
              go_wp2_with (first
                | (at_mapUpdate; refine wpList_store_mv _ rfl _ _ _ 82 rfl 3 22 law Try.underlying82 vb' _ _ rfl hvm hvlen (.int .i64 (g : Int)) (.slice (some ⟨nb, 0, none⟩) i i) (.int .i64 (g : Int)) rfl rfl hkey ?_; intro z2 hk2 ht2; have HK2 := hide hk2; have HT2 := hide ht2; clear hk2 ht2)
                | fail)
              go_roundw
              case rel =>
                have hfr : Fr (fun k => k = vb') wr z2 := Fr.turned HT2.out rfl
                have hT := HXS.out.putV (g : Int) (txK bs n rg i).2 _ (by rw [HLE.out]; exact HRS.out) HFB.out HK2.out hfr
                refine ⟨j + 1, q', (_, _), by go_num, by have := HJQ.out; have := HQ'.out; omega, ?_, (HLI.out.less (X' := fun k => k < b0) (fun k h => .inl h) (fun k h => h)).own ⟨_, _, _, _, _, _, _, _, _, hT⟩ (hfr.mono (fun k _ e => by subst e; exact HV0.out)), good_putV HGR.out.1 HGM.out (by rw [HLE.out, HAT.out]), HGR.out.2.1, ?_⟩
                · show (itK _ _ j).bind _ = _
                  rw [HIT.out]; exact HST2.out
                · have h1 := putV_wt (r := tt) HGR.out.1.vnd (g : Int) (txK bs n rg i).2
                  have h2 := txK_at bs n rg i
                  have h3 : rr.at_ ≤ rg.at_ := HAG.out
                  have h4 : wT tt ≤ rr.at_ := HGR.out.2.2
                  show wT (Proofs.Ytehneddmamnmiaa.putV tt (g : Int) (txK bs n rg i).2) ≤ (txK bs n rg i).1.at_
                  omega
              case measure => simp [intOf]; have := HQ'.out; omega
end Go.Proofs.Ytehneddmamnmiaa
