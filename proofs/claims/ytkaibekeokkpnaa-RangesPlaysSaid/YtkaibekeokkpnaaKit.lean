/- Words of this proof's own, of no program: a map's block as a function of its keys; a world that is as another but for some blocks. -/
import Derived.WalkKit
import Derived.Maps.OwnSet
import Derived.Maps.RangeWalk
import Derived.Deep.QuietTactic
import Derived.Deep.AppendLies
import Derived.Laws.OwnMore
namespace Go.Cv
open Go.RowKit Go.Maps

/-- How an element reads here: as itself. -/
def hv (v : Value) : Option (DataW Value × List MemPlace) := some (.held v, [])

/-- Block b is a map of at most n entries that holds f. -/
def mapF (w : World) (P : Program) (k : TypeId) (b n : Nat) (f : Lit → Option Value) : Prop :=
  ∃ D : DataW Value, w.ownsMap P k hv b n D ∧ ∀ l z, D.atKey l z = match f l with | some v => .held v | none => z

variable {P : Program} {k : TypeId} {w : World} {b n : Nat} {f : Lit → Option Value}

theorem mapF_made (w : World) (P : Program) (k : TypeId) : mapF (w.alloc (.map #[] 0)) P k w.heap.size 0 (fun _ => none) :=
  ⟨_, World.ownsMap_made w P k hv, fun _ _ => rfl⟩

theorem mapF.mono (h : mapF w P k b n f) {n' : Nat} (hn : n ≤ n') : mapF w P k b n' f := by
  obtain ⟨D, h1, h2⟩ := h; exact ⟨D, h1.mono hn, h2⟩

theorem mapF.lt (h : mapF w P k b n f) : b < w.heap.size := by obtain ⟨D, h1, _⟩ := h; exact h1.lt

theorem mapF.of_block {w' : World} (h : mapF w P k b n f) (hb : w'.heap[b]? = w.heap[b]?) : mapF w' P k b n f := by
  obtain ⟨D, ⟨es, clock, h1, r⟩, h2⟩ := h
  exact ⟨D, ⟨es, clock, hb.trans h1, r⟩, h2⟩

theorem mapF.congr {f' : Lit → Option Value} (h : mapF w P k b n f) (e : ∀ l, f' l = f l) : mapF w P k b n f' := by
  obtain ⟨D, h1, h2⟩ := h; exact ⟨D, h1, fun l z => by rw [h2, e]⟩

theorem held_inj {v v' : Value} {ps : List MemPlace} {d : DataW Value} (h : hv v = some (d, ps)) (e : d = .held v') : v = v' := by
  subst e; cases h; rfl

theorem mapF.run_ok {t e : TypeId} (h : mapF w P k b n f) (K : Keyed P k) (ht : P.underlying t = some (.map k e)) {z : Value} (hz : (zeroValue e).run P w = .ok z w)
    {key : Value} {kl : Lit} (hkey : keyOf P k key = some kl) :
    (Instr.lookup t (.map (some b)) key true).run P w = .ok (.tuple #[(f kl).getD z, .bool (f kl).isSome]) w := by
  obtain ⟨D, h1, h2⟩ := h
  obtain ⟨v, ps, hrun, hv'⟩ := h1.look_ok K ht hz (zd := .held z) (zp := []) rfl hkey
  rw [hrun]
  have hd := h2 kl (.held z)
  cases hf : f kl with
  | none =>
    have := Maps.has_false_of_atKey (D := D) (k := kl) (fun z => by rw [h2, hf])
    rw [hf] at hd
    rw [this, held_inj hv' hd]; rfl
  | some u =>
    have := Maps.has_true_of_atKey (D := D) (k := kl) (y := .held u) (fun z => by rw [h2, hf])
    rw [hf] at hd
    rw [this, held_inj hv' hd]; rfl

theorem mapF.run {t e : TypeId} (h : mapF w P k b n f) (K : Keyed P k) (ht : P.underlying t = some (.map k e)) {z : Value} (hz : (zeroValue e).run P w = .ok z w)
    {key : Value} {kl : Lit} (hkey : keyOf P k key = some kl) :
    (Instr.lookup t (.map (some b)) key false).run P w = .ok ((f kl).getD z) w := by
  obtain ⟨D, h1, h2⟩ := h
  obtain ⟨v, ps, hrun, hv'⟩ := h1.lookup K ht hz (zd := .held z) (zp := []) rfl hkey
  rw [hrun]
  have hd := h2 kl (.held z)
  cases hf : f kl with
  | none => rw [hf] at hd; rw [held_inj hv' hd]; rfl
  | some u => rw [hf] at hd; rw [held_inj hv' hd]; rfl

open Classical in
/-- f with v at kl. -/
noncomputable def put (f : Lit → Option Value) (kl : Lit) (v : Value) : Lit → Option Value := fun l => if l = kl then some v else f l
open Classical in
noncomputable def del (f : Lit → Option Value) (kl : Lit) : Lit → Option Value := fun l => if l = kl then none else f l

theorem mapF.store {t e : TypeId} (h : mapF w P k b n f) (K : Keyed P k) (ht : P.underlying t = some (.map k e)) (hn : n < maxLen) {key : Value} (val : Value) {kl : Lit}
    (hkey : keyOf P k key = some kl) : ∃ w', (Instr.mapUpdate t (.map (some b)) key val).run P w = .ok () w' ∧ mapF w' P k b (n + 1) (put f kl val) ∧ w.mapTurned w' b := by
  obtain ⟨D, h1, h2⟩ := h
  obtain ⟨w', hrun, h3, h4⟩ := h1.store K ht hn hkey (val := val) (d := .held val) (ps := []) rfl
  refine ⟨w', hrun, ⟨_, h3, fun l z => ?_⟩, h4⟩
  by_cases hl : l = kl
  · subst hl
    rw [Maps.atKey_put_same h1.isMap (K.key hkey)]; simp [put]
  · rw [Maps.atKey_put_other hl, h2]; simp [put, hl]

theorem mapF.drop {t e : TypeId} (h : mapF w P k b n f) (K : Keyed P k) (ht : P.underlying t = some (.map k e)) {key : Value} {kl : Lit} (hkey : keyOf P k key = some kl) (ty : TypeId) :
    ∃ w', (Builtin.delete_ #[t, k] ty #[.map (some b), key]).run P w = .ok (.tuple #[]) w' ∧ mapF w' P k b n (del f kl) ∧ w.mapTurned w' b := by
  obtain ⟨D, h1, h2⟩ := h
  obtain ⟨w', hrun, h3, h4⟩ := h1.drop K ht hkey ty
  refine ⟨w', hrun, ⟨_, h3, fun l z => ?_⟩, h4⟩
  by_cases hl : l = kl
  · subst hl
    rw [Maps.atKey_del_same]; simp [del]
  · rw [Maps.atKey_del_other hl, h2]; simp [del, hl]

/-! ### at the operation -/
section
variable (w : World) {ops : Array Oper} {rest : List Oper} {o : Oper} {a : Act} {Q : Exit → Act → World → Prop}

theorem wpList_lookup_mf (hg : o.guard = none) (m x : Operand) (t : TypeId) (hop : o.op = Op.lookup t m x true)
    (k e : TypeId) (K : Keyed P k) (ht : P.underlying t = some (.map k e)) {z : Value} (hz : (zeroValue e).run P w = .ok z w) (b n : Nat) (f : Lit → Option Value)
    (hm : a.eval m = .map (some b)) (hown : mapF w P k b n f) (key : Value) (kl : Lit) (hx : a.eval x = key) (hkey : keyOf P k key = some kl) (u : Value) (ok : Bool) (hu : (f kl).getD z = u) (hok : (f kl).isSome = ok)
    (hK : wpList P ops Q rest (a.put o.dst (.tuple #[u, .bool ok])) w) :
    wpList P ops Q (o :: rest) a w := by
  refine wpList_plain hg fun K' hK' => ?_
  have hrun := hown.run_ok K ht hz hkey
  rw [hu, hok] at hrun
  unfold Oper.wp
  simp [execOp, hop, hm, hx, hrun, Result.andThen]
  exact hK' _ _ hK

theorem wpList_lookup_mf1 (hg : o.guard = none) (m x : Operand) (t : TypeId) (hop : o.op = Op.lookup t m x false)
    (k e : TypeId) (K : Keyed P k) (ht : P.underlying t = some (.map k e)) {z : Value} (hz : (zeroValue e).run P w = .ok z w) (b n : Nat) (f : Lit → Option Value)
    (hm : a.eval m = .map (some b)) (hown : mapF w P k b n f) (key : Value) (kl : Lit) (hx : a.eval x = key) (hkey : keyOf P k key = some kl) (u : Value) (hu : (f kl).getD z = u)
    (hK : wpList P ops Q rest (a.put o.dst u) w) :
    wpList P ops Q (o :: rest) a w := by
  refine wpList_plain hg fun K' hK' => ?_
  have hrun := hown.run K ht hz hkey
  rw [hu] at hrun
  unfold Oper.wp
  simp [execOp, hop, hm, hx, hrun, Result.andThen]
  exact hK' _ _ hK

theorem wpList_store_mf (hg : o.guard = none) (m x v : Operand) (t : TypeId) (hop : o.op = Op.mapUpdate t m x v)
    (k e : TypeId) (K : Keyed P k) (ht : P.underlying t = some (.map k e)) (b n : Nat) (f : Lit → Option Value)
    (hm : a.eval m = .map (some b)) (hown : mapF w P k b n f) (hn : n < maxLen) (key val : Value) (kl : Lit) (hx : a.eval x = key) (hv : a.eval v = val) (hkey : keyOf P k key = some kl)
    (hK : ∀ w', mapF w' P k b (n + 1) (put f kl val) → w.mapTurned w' b → wpList P ops Q rest (a.put o.dst undef) w') :
    wpList P ops Q (o :: rest) a w := by
  refine wpList_plain hg fun K' hK' => ?_
  obtain ⟨w', hrun, r1, r2⟩ := hown.store K ht hn val hkey
  unfold Oper.wp
  simp [execOp, hop, hm, hx, hv, hrun, Result.andThen]
  exact hK' _ _ (hK w' r1 r2)
end

theorem ret_int {k : IntKind} {a b : Int} (h : a = b) : Ending.returned (.int k a) = .returned (.int k b) := by rw [h]
theorem ret_bool {a b : Bool} (h : a = b) : Ending.returned (.bool a) = .returned (.bool b) := by rw [h]

theorem hide {p : Prop} (h : p) : Hid p := h

theorem bytes_beq {u v : ByteArray} (h : u ≠ v) : (u.toList == v.toList) = false := by
  rw [ByteArray.toList_eq, ByteArray.toList_eq, beq_eq_false_iff_ne]
  exact fun e => h (by cases u; cases v; simp at e; simp [e])

/-! ### worlds -/
/-- w' is as w but for the blocks in S, and new ones. -/
structure Fr (S : Nat → Prop) (w w' : World) : Prop where
  os : w'.os = w.os
  tape : w'.tape = w.tape
  output : w'.output = w.output
  size : w.heap.size ≤ w'.heap.size
  block : ∀ k, k < w.heap.size → ¬ S k → w'.heap[k]? = w.heap[k]?

theorem Fr.refl (S : Nat → Prop) (w : World) : Fr S w w := ⟨rfl, rfl, rfl, Nat.le_refl _, fun _ _ _ => rfl⟩

theorem Fr.trans {S S' : Nat → Prop} {a b c : World} (h : Fr S a b) (h' : Fr S' b c) (hs : ∀ k, k < a.heap.size → S' k → S k) : Fr S a c :=
  ⟨h'.os.trans h.os, h'.tape.trans h.tape, h'.output.trans h.output, Nat.le_trans h.size h'.size,
    fun k hk hn => (h'.block k (Nat.lt_of_lt_of_le hk h.size) (fun h2 => hn (hs k hk h2))).trans (h.block k hk hn)⟩

theorem Fr.mono {S S' : Nat → Prop} {a b : World} (h : Fr S a b) (hs : ∀ k, k < a.heap.size → S k → S' k) : Fr S' a b :=
  ⟨h.os, h.tape, h.output, h.size, fun k hk hn => h.block k hk (fun h2 => hn (hs k hk h2))⟩

theorem Fr.step {S S' : Nat → Prop} {a b c : World} (h : Fr S a b) (h' : Fr S' b c) : Fr (fun k => S k ∨ S' k) a c :=
  (h.mono (fun _ _ hk => Or.inl hk)).trans h' (fun _ _ hk => Or.inr hk)

theorem Fr.fresh {S : Nat → Prop} {a b : World} (h : Fr S a b) (hs : ∀ k, S k → a.heap.size ≤ k) : Fr (fun _ => False) a b :=
  h.mono (fun k hk h2 => by have := hs k h2; omega)

theorem Fr.drew {S : Nat → Prop} {a b : World} (h : Fr S a b) : Fr S a b.drew := ⟨h.os, h.tape, h.output, h.size, h.block⟩

theorem Fr.alloc (S : Nat → Prop) (w : World) (o : Obj) : Fr S w (w.alloc o) :=
  ⟨rfl, rfl, rfl, by simp, fun k hk _ => Below.heap_alloc _ _ _ (by omega)⟩

theorem Fr.setCell {S : Nat → Prop} (w : World) (p : Addr) (u : Value) (hp : S p.block) : Fr S w (w.setCell p u) :=
  ⟨rfl, rfl, rfl, by simp [World.setCell], fun k _ hn => Below.heap_setCell _ _ _ _ (fun e => hn (e ▸ hp))⟩

theorem Fr.grown {S : Nat → Prop} {w w' : World} {row : Option Nat} (hg : w.grownBy w' row) (hr : ∀ k, row = some k → S k) : Fr S w w' :=
  ⟨hg.os, hg.tape, hg.output, hg.size, fun k hk hn => hg.block k hk (fun e => hn (hr k e.symm))⟩

theorem Fr.turned {S : Nat → Prop} {w w' : World} (h : w.mapTurned w' b) (hS : S b) : Fr S w w' :=
  Fr.grown h.grown (fun k hk => by cases hk; exact hS)

theorem Fr.below {B : Nat} {w w' : World} (h : Below B w w') : Fr (fun k => B ≤ k) w w' :=
  ⟨h.os, h.tape, h.output, h.size, fun k _ hn => h.block k (by omega)⟩

theorem Fr.toBelow {S : Nat → Prop} {B : Nat} {w w' : World} (h : Fr S w w') (hB : B ≤ w.heap.size) (hs : ∀ k, k < B → ¬ S k) : Below B w w' :=
  ⟨h.os, h.tape, h.output, h.size, fun k hk => h.block k (by omega) (hs k hk)⟩

theorem Fr.drewN {S : Nat → Prop} {a b : World} (h : Fr S a b) (n : Nat) : Fr S a (b.drewN n) := ⟨h.os, h.tape, h.output, h.size, h.block⟩

/-- The number in a cell. -/
def cellInt (w : World) (a : Addr) : Int := intOf ((w.cell? a).getD (.int .i64 0))

/-- A block's cells. -/
theorem cell_of_block {w : World} {b j : Nat} {cs : Array Value} {t : TypeId} {fr : Nat × Nat} (h : w.heap[b]? = some (.cells cs t fr)) : w.cell? ⟨b, j, none⟩ = cs[j]? := by
  simp [World.cell?, h]
theorem free_of_block {w : World} {b j : Nat} {cs : Array Value} {t : TypeId} (h : w.heap[b]? = some (.cells cs t (0, 0))) : w.frozen? ⟨b, j, none⟩ = false := by
  simp [World.frozen?, h]
theorem lt_of_block {w : World} {b : Nat} {o : Obj} (h : w.heap[b]? = some o) : b < w.heap.size := (Array.getElem?_eq_some_iff.1 h).1

theorem block_setCell {w : World} {b j : Nat} {cs : Array Value} {t : TypeId} {fr : Nat × Nat} (h : w.heap[b]? = some (.cells cs t fr)) (v : Value) :
    (w.setCell ⟨b, j, none⟩ v).heap[b]? = some (.cells (cs.setIfInBounds j v) t fr) := by
  simp [World.setCell, Array.getElem?_modify, h]

theorem block_alloc (w : World) (o : Obj) : (w.alloc o).heap[w.heap.size]? = some o := heap_alloc_new w o

/-- A slice of n elements of s cells each reads as xs (all the cells, one behind the other). -/
def Reads (w : World) (v : Value) (n s : Nat) (xs : List Value) : Prop :=
  xs.length = n * s ∧ ∃ a c, v = .slice a n c ∧ (a = none → n = 0 ∧ c = 0) ∧ n ≤ c ∧ ∀ i u, xs[i]? = some u → ∃ b off, a = some ⟨b, off, none⟩ ∧ w.cell? ⟨b, off + i, none⟩ = some u

theorem Reads.nil (w : World) (s : Nat) : Reads w (.slice none 0 0) 0 s [] := ⟨by simp, none, 0, rfl, fun _ => ⟨rfl, rfl⟩, Nat.le_refl _, by simp⟩

theorem Reads.fr {w w' : World} {v : Value} {n s : Nat} {xs : List Value} (h : Reads w v n s xs) {S : Nat → Prop} (g : Fr S w w') (hS : ∀ a n c, v = .slice (some a) n c → ¬ S a.block) : Reads w' v n s xs := by
  obtain ⟨hn, a, c, rfl, h0, h1, h⟩ := h
  refine ⟨hn, a, c, rfl, h0, h1, fun i u hu => ?_⟩
  obtain ⟨b, off, rfl, hc⟩ := h i u hu
  refine ⟨b, off, rfl, ?_⟩
  rw [World.cell?_of_block (w := w) (g.block b (World.block_lt_of_cell? w _ hc) (hS _ _ _ rfl))]
  exact hc

theorem Reads.heap {w w' : World} {v : Value} {n s : Nat} {xs : List Value} (h : Reads w v n s xs) (g : w'.heap = w.heap) : Reads w' v n s xs := by
  obtain ⟨hn, a, c, rfl, h0, h1, h⟩ := h
  refine ⟨hn, a, c, rfl, h0, h1, fun i u hu => ?_⟩
  obtain ⟨b, off, rfl, hc⟩ := h i u hu
  exact ⟨b, off, rfl, by rw [← hc]; simp [World.cell?, g]⟩

theorem Reads.below {w w' : World} {v : Value} {n s : Nat} {xs : List Value} (h : Reads w v n s xs) {B : Nat} (g : Below B w w') (hB : w.heap.size ≤ B) : Reads w' v n s xs := by
  obtain ⟨hn, a, c, rfl, h0, h1, h⟩ := h
  refine ⟨hn, a, c, rfl, h0, h1, fun i u hu => ?_⟩
  obtain ⟨b, off, rfl, hc⟩ := h i u hu
  have := World.block_lt_of_cell? w _ hc
  exact ⟨b, off, rfl, (g.cell (p := ⟨b, off + i, none⟩) (by simp at this ⊢; omega)).trans hc⟩

theorem Reads.of_own {w : World} {base e s : Nat} {v : Value} {n : Nat} {xs : List Value} (h : w.ownsRow base e s v n xs) : Reads w v n s xs := by
  have hl := h.1
  refine ⟨hl, ?_⟩
  rcases h.2 with ⟨rfl, h0⟩ | ⟨g, cap, cur, rfl, hb, hg, hnc, hcm, hcs, htake⟩
  · subst h0
    have : xs = [] := List.eq_nil_of_length_eq_zero (by omega)
    subst this; exact ⟨none, 0, rfl, fun _ => ⟨rfl, rfl⟩, Nat.le_refl _, by simp⟩
  · refine ⟨_, _, rfl, (by intro h; cases h), hnc, fun i u hu => ⟨g, 0, rfl, ?_⟩⟩
    have := h.cells (g := g) rfl i u hu
    rw [← this]
    congr 1
    unfold Addr.add
    split <;> simp_all

theorem Reads.built (w : World) (cs : List Value) (t : TypeId) : Reads (w.alloc (.cells cs.toArray t)) (.slice (some ⟨w.heap.size, 0, none⟩) cs.length cs.length) cs.length 1 cs :=
  ⟨by simp, _, _, rfl, (by intro h; cases h), Nat.le_refl _, fun i u hu => ⟨_, _, rfl, by rw [cell_of_block (block_alloc w _)]; simpa using hu⟩⟩

theorem ownsRow_fr {w w' : World} {base e s : Nat} {v : Value} {n : Nat} {xs : List Value} (h : w.ownsRow base e s v n xs) {S : Nat → Prop} (g : Fr S w w') (hS : ∀ k, v.ownBlock = some k → ¬ S k) : w'.ownsRow base e s v n xs := by
  refine ⟨h.1, ?_⟩
  rcases h.2 with hn | ⟨b, cap, cur, rfl, hb, hg, rest⟩
  · exact .inl hn
  · refine .inr ⟨b, cap, cur, rfl, hb, ?_, rest⟩
    rw [g.block b (lt_of_block hg) (hS b rfl)]
    exact hg

/-- append(v, x...), v the call's own, x whatever slice. -/
theorem run_append_reads (w : World) (base : Nat) (t ty e : TypeId) (i : TypeInfo) (z : Value) (size bytes : Nat) (ht : P.underlying t = some (.slice e)) (hi : P.info? e = some i) (hz : i.zero = some z)
    (hsize : i.size = size) (hby : i.bytes = bytes) (hzs : z.cells.size = size) (hsz : 0 < size) (v : Value) (n : Nat) (xs : List Value) (hown : w.ownsRow base e size v n xs)
    (xv : Value) (m : Nat) (news : List Value) (hr : Reads w xv m size news) (h1 : ∀ u ∈ news, u.oneCell' = true)
    (h63 : n + m ≤ maxLen) (hbytes : (n + m) * bytes ≤ 140737488355328) (hbase : base ≤ w.heap.size) :
    ∃ v' w', (Builtin.append_ #[t, t] ty #[v, xv]).run P w = .ok v' w' ∧ w'.ownsRow base e size v' (n + m) (xs ++ news) ∧ w.grownBy w' v.ownBlock ∧
      (v'.ownBlock = v.ownBlock ∨ v'.ownBlock = some w.heap.size) := by
  obtain ⟨hn, a, c, rfl, h0, hc, h⟩ := hr
  cases a with
  | none =>
    obtain ⟨rfl, rfl⟩ := h0 rfl
    have : news = [] := List.eq_nil_of_length_eq_zero (by omega)
    subst this
    exact ⟨v, w, run_append_owned_none w base t ty e i size ht hi v n xs hown, by simpa using hown, ⟨rfl, rfl, rfl, Nat.le_refl _, fun _ _ _ => rfl⟩, Or.inl rfl⟩
  | some a =>
    obtain ⟨v', w', hr, h2, h3, _, h5⟩ := run_append_own_at (P := P) w base t ty e i z size bytes ht hi hz hsize hby hzs hsz v n xs hown a m c news hn
      (fun j u hu => by
        obtain ⟨b, off, e, hcl⟩ := h j u hu
        cases e
        have hadd : (⟨b, off, none⟩ : Addr).add j = ⟨b, off + j, none⟩ := by unfold Addr.add; split <;> simp_all
        rw [hadd]; exact hcl) h1 h63 hbytes hbase
    exact ⟨v', w', hr, h2, h3, h5⟩

theorem wp_append_reads (w : World) {o : Oper} {a : Act} {K : Act → World → Prop} {Q : Exit → Act → World → Prop} (s x : Operand) (t : TypeId)
    (ho : o.op = .call { callee := .builtin .append, args := #[s, x], argTypes := #[t, t] })
    (base : Nat) (e : TypeId) (i : TypeInfo) (z : Value) (size bytes : Nat) (ht : P.underlying t = some (.slice e)) (hi : P.info? e = some i) (hz : i.zero = some z)
    (hsize : i.size = size) (hby : i.bytes = bytes) (hzs : z.cells.size = size) (hsz : 0 < size) (v : Value) (n : Nat) (xs : List Value) (hs : a.eval s = v) (hown : w.ownsRow base e size v n xs)
    (xv : Value) (m : Nat) (news : List Value) (hx : a.eval x = xv) (hr : Reads w xv m size news) (h1 : ∀ u ∈ news, u.oneCell' = true)
    (h63 : n + m ≤ maxLen) (hbytes : (n + m) * bytes ≤ 140737488355328) (hbase : base ≤ w.heap.size)
    (h : ∀ v' w', w'.ownsRow base e size v' (n + m) (xs ++ news) → w.grownBy w' v.ownBlock → (v'.ownBlock = v.ownBlock ∨ v'.ownBlock = some w.heap.size) → K (a.put o.dst v') w') : o.wp P a w K Q := by
  obtain ⟨v', w', hr, h2, h3, h4⟩ := run_append_reads w base t o.type e i z size bytes ht hi hz hsize hby hzs hsz v n xs hown xv m news hr h1 h63 hbytes hbase
  unfold Oper.wp execOp
  simp only [ho, resolve, invoke, builtin, Sem.run_bind, Sem.run_pure, Result.andThen_ok, List.map_toArray, List.map_cons, List.map_nil, hs, hx, hr]
  exact h v' w' h2 h3 h4

theorem wpList_append_reads (w : World) {ops : Array Oper} {rest : List Oper} {o : Oper} {a : Act} {Q : Exit → Act → World → Prop} (hgd : o.guard = none) (s x : Operand) (t : TypeId)
    (ho : o.op = .call { callee := .builtin .append, args := #[s, x], argTypes := #[t, t] })
    (base : Nat) (e : TypeId) (i : TypeInfo) (z : Value) (size bytes : Nat) (ht : P.underlying t = some (.slice e)) (hi : P.info? e = some i) (hz : i.zero = some z)
    (hsize : i.size = size) (hby : i.bytes = bytes) (hzs : z.cells.size = size) (hsz : 0 < size) (v : Value) (n : Nat) (xs : List Value) (hs : a.eval s = v) (hown : w.ownsRow base e size v n xs)
    (xv : Value) (m : Nat) (news : List Value) (hx : a.eval x = xv) (hr : Reads w xv m size news) (h1 : ∀ u ∈ news, u.oneCell' = true)
    (h63 : n + m ≤ maxLen) (hbytes : (n + m) * bytes ≤ 140737488355328) (hbase : base ≤ w.heap.size)
    (h : ∀ v' w', w'.ownsRow base e size v' (n + m) (xs ++ news) → w.grownBy w' v.ownBlock → (v'.ownBlock = v.ownBlock ∨ v'.ownBlock = some w.heap.size) → wpList P ops Q rest (a.put o.dst v') w') : wpList P ops Q (o :: rest) a w :=
  wpList_plain hgd fun _ hK => wp_append_reads w s x t ho base e i z size bytes ht hi hz hsize hby hzs hsz v n xs hs hown xv m news hx hr h1 h63 hbytes hbase fun v' w' h2 h3 h4 => hK _ _ (h v' w' h2 h3 h4)

/-- Two lists of cells are alike to the left of k. -/
theorem take_eq_succ {α : Type} {xs ys : List α} {k : Nat} {x y : α} (h : xs.take k = ys.take k) (hx : xs[k]? = some x) (hy : ys[k]? = some y) (e : x = y) : xs.take (k + 1) = ys.take (k + 1) := by
  rw [List.take_add_one, List.take_add_one, h, hx, hy, e]

/-- Block b is a row of n cells, cell i holds g i. -/
def Arr (w : World) (b : Nat) (t : TypeId) (n : Nat) (g : Nat → Value) : Prop :=
  ∃ cs, w.heap[b]? = some (.cells cs t (0, 0)) ∧ cs.size = n ∧ ∀ i, i < n → cs[i]? = some (g i)
theorem Arr.cell {w : World} {b : Nat} {t : TypeId} {n : Nat} {g : Nat → Value} (h : Arr w b t n g) {i : Nat} (hi : i < n) : w.cell? ⟨b, i, none⟩ = some (g i) := by
  obtain ⟨cs, h1, _, h3⟩ := h; rw [cell_of_block h1]; exact h3 i hi
theorem Arr.free {w : World} {b : Nat} {t : TypeId} {n : Nat} {g : Nat → Value} (h : Arr w b t n g) (i : Nat) : w.frozen? ⟨b, i, none⟩ = false := by
  obtain ⟨cs, h1, _⟩ := h; exact free_of_block h1
theorem Arr.lt {w : World} {b : Nat} {t : TypeId} {n : Nat} {g : Nat → Value} (h : Arr w b t n g) : b < w.heap.size := by
  obtain ⟨cs, h1, _⟩ := h; exact lt_of_block h1
theorem Arr.heap {w w' : World} {b : Nat} {t : TypeId} {n : Nat} {g : Nat → Value} (h : Arr w b t n g) (e : w'.heap[b]? = w.heap[b]?) : Arr w' b t n g := by
  obtain ⟨cs, h1, r⟩ := h; exact ⟨cs, e.trans h1, r⟩
theorem Arr.fr {w w' : World} {b : Nat} {t : TypeId} {n : Nat} {g : Nat → Value} (h : Arr w b t n g) {S : Nat → Prop} (f : Fr S w w') (hS : ¬ S b) : Arr w' b t n g := h.heap (f.block b h.lt hS)
theorem Arr.congr {w : World} {b : Nat} {t : TypeId} {n : Nat} {g g' : Nat → Value} (h : Arr w b t n g) (e : ∀ i, i < n → g' i = g i) : Arr w b t n g' := by
  obtain ⟨cs, h1, h2, h3⟩ := h; exact ⟨cs, h1, h2, fun i hi => by rw [h3 i hi, e i hi]⟩
theorem Arr.set {w : World} {b : Nat} {t : TypeId} {n : Nat} {g : Nat → Value} (h : Arr w b t n g) (j : Nat) (v : Value) : Arr (w.setCell ⟨b, j, none⟩ v) b t n (fun i => if i = j then v else g i) := by
  obtain ⟨cs, h1, h2, h3⟩ := h
  refine ⟨_, block_setCell h1 v, by simpa using h2, fun i hi => ?_⟩
  rw [Array.getElem?_setIfInBounds]
  by_cases e : j = i
  · subst e; simp [h2, hi]
  · have e2 : ¬ i = j := fun e2 => e e2.symm
    simp only [if_neg e, if_neg e2]; exact h3 i hi

end Go.Cv
