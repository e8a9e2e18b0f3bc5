/- The walk of conclavelaw1.WireWrites. -/
import Derived.Test.YtcklmdgmjgkogaaWritten
import Derived.Test.YtcklmdgmjgkogaaKnownWire
import Derived.Deep.CutBlock
namespace Go.Proofs.Ytcklmdgmjgkogaa
open Go.RowKit Go.Maps Go.Cv
set_option linter.unusedVariables false
namespace WireWrites
/-- How the world stands behind the loop. -/
structure ST (w wx : World) (b : Nat) (u v0 : Value) (l : List Part) : Prop where
  wt : Wt wx b u (pall l 40)
  ob : ∀ k, u.ownBlock = some k → b ≤ k
  rd : Reads wx v0 l.length 4 (l.flatMap cellsPart)
  fr : Fr (fun k => b ≤ k) w wx
theorem ST.next {w wx wy : World} {b : Nat} {u v0 : Value} {l : List Part} (h : ST w wx b u v0 l) (f : Fr (fun _ => False) wx wy) : ST w wy b u v0 l :=
  ⟨h.wt.fr f id (fun _ _ => id), h.ob, h.rd.fr f (fun _ _ _ _ => id), h.fr.trans f (fun _ _ h => h.elim)⟩

set_option maxRecDepth 100000 in
set_option maxHeartbeats 1600000 in
theorem walk (w : World) (v0 : Value) (l : List Part) (h0 : Reads w v0 l.length 4 (l.flatMap cellsPart)) (hg : ∀ x ∈ l, (Lit.int .i64 x.1).wf = true ∧ (Lit.int .i64 x.2.1).wf = true ∧ (Lit.int .i64 x.2.2.1).wf = true ∧ x.2.2.2.size ≤ 1048576) (hl : l.length ≤ 1048576) :
    Calls Try.prog 4 #[v0] w fun e w' => e = .returned (.bool true) ∧ Below w.heap.size w w' := by
  have hsz : ∀ x ∈ l, x.2.2.2.size ≤ 1048576 := fun x hx => (hg x hx).2.2.2
  have hwr := fun wx hwx => written_any wx v0 l hwx hsz hl
  have HWR := hide hwr
  have HV0 := hide h0
  obtain ⟨n0, hn0⟩ : ∃ n, l.length = n := ⟨_, rfl⟩
  rw [hn0] at h0 hl
  obtain ⟨-, a0, c0, rfl, -, -, -⟩ := id h0
  have HC0 := hide h0
  have HN0 := hide hn0
  have hle := pall_le l hsz
  have HLE := hide hle
  have HSZ := hide hsz
  clear h0 hn0 hle hsz hg hwr
  go_enter Try.func4, Try.ntmps4
  go_wp2_with fail
  refine (newWriter_any _).mono ?_
  rintro e w1 ⟨rfl, hw1, hf1⟩
  obtain ⟨b, hb⟩ : ∃ b, w.heap.size = b := ⟨_, rfl⟩
  rw [hb] at hw1 ⊢
  have W1 := hide hw1
  have F1 := hide hf1
  clear hw1 hf1
  go_upto_block 0 with fail
  go_cut [4] from 8 to 58 (fun i wx => ∃ u, ST w wx b u (.slice a0 n0 c0) l)
  case first =>
   go_wp2_with fail
   go_loopw [4] (fun i wr => ∃ (k : Nat) (u : Value), i = .int .i64 k ∧ k ≤ 40 ∧ k ≤ n0 ∧ Wt wr b u (pall l k) ∧ (∀ k, u.ownBlock = some k → b ≤ k) ∧ Fr (fun k => b ≤ k) w wr) (fun i _ => 40 - (intOf i).toNat)
   case atStart => exact ⟨0, _, rfl, by omega, by omega, W1.out, (fun k h => by cases h), F1.out.mono (fun _ _ h => h.elim)⟩
   case round =>
     obtain ⟨k, u, rfl, hk, hkn, hr, hob, hfr⟩ := hrel
     have R := hide hr
     have OB := hide hob
     have F := hide hfr
     clear hr hob hfr
     by_cases hgo : k < n0 ∧ k < 40
     · obtain ⟨hg1, hg2⟩ := hgo
       obtain ⟨x, hx⟩ : ∃ x, l[k]? = some x := ⟨_, List.getElem?_eq_getElem (by have := HN0.out; omega)⟩
       obtain ⟨b0, o0, rfl, hb0, hcell⟩ := row_cells (toC := cellsPart) (s := 4) (fun _ => rfl) HC0.out hx (by decide)
       have hw := F.out.block b0 hb0 (by omega)
       have hsx := HSZ.out x (List.mem_of_getElem? hx)
       have hbd := HLE.out k
       have hps := pall_succ hx
       obtain ⟨kind, z, wide, s⟩ := x
       have e0 : wr.cell? ⟨b0, o0 + k * 4, none⟩ = some (.int .i64 kind) := hcell 0 _ rfl wr hw
       have e1 : wr.cell? ⟨b0, o0 + k * 4 + 1, none⟩ = some (.int .i64 z) := hcell 1 _ rfl wr hw
       have e2 : wr.cell? ⟨b0, o0 + k * 4 + 2, none⟩ = some (.int .i64 wide) := hcell 2 _ rfl wr hw
       have e3 : wr.cell? ⟨b0, o0 + k * 4 + 3, none⟩ = some (.string s) := hcell 3 _ rfl wr hw
       have hsx' : s.size ≤ 1048576 := hsx
       have ik0 : (0 : Int) ≤ (k : Int) := by omega
       have ik1 : (k : Int) < (n0 : Int) := by omega
       have hbr := lt_of_block R.out.blk
       have HPS := hide hps
       clear hcell hw hx hsx hps
       by_cases k1 : kind = 1
       · subst k1
         go_wp2_with fail
         refine (byte_any _ b u _ R.out z (by omega)).mono ?_
         rintro e w1 ⟨rfl, v1, h1, h2, h3⟩
         have e5 : pall l (k + 1) = pall l k ++ beN (u64 z) 1 := HPS.out
         rw [← e5] at h1
         have hob5 : ∀ j, v1.ownBlock = some j → b ≤ j := fun j hj => by
           rcases h2 with h2 | h2
           · rw [h2] at hj; exact OB.out j hj
           · have := h2 j hj; have := F.out.size; omega
         have F5 := hide (F.out.trans h3 (fun j _ h => by rcases h with h | h; (· omega); (· exact OB.out j h)))
         have R5 := hide h1
         have OB5 := hide hob5
         clear h1 h2 h3 e5 hob5
         go_wp2_with fail
         go_roundw
         case rel => exact ⟨k + 1, _, by go_num, by omega, by omega, R5.out, OB5.out, F5.out⟩
         case measure => simp [intOf]; omega
       by_cases k2 : kind = 2
       · subst k2
         go_wp2_with fail
         refine (four_any _ b u _ R.out z (by omega)).mono ?_
         rintro e w1 ⟨rfl, v1, h1, h2, h3⟩
         have e5 : pall l (k + 1) = pall l k ++ beN (u64 z) 4 := HPS.out
         rw [← e5] at h1
         have hob5 : ∀ j, v1.ownBlock = some j → b ≤ j := fun j hj => by
           rcases h2 with h2 | h2
           · rw [h2] at hj; exact OB.out j hj
           · have := h2 j hj; have := F.out.size; omega
         have F5 := hide (F.out.trans h3 (fun j _ h => by rcases h with h | h; (· omega); (· exact OB.out j h)))
         have R5 := hide h1
         have OB5 := hide hob5
         clear h1 h2 h3 e5 hob5
         go_wp2_with fail
         go_roundw
         case rel => exact ⟨k + 1, _, by go_num, by omega, by omega, R5.out, OB5.out, F5.out⟩
         case measure => simp [intOf]; omega
       by_cases k3 : kind = 3
       · subst k3
         go_wp2_with fail
         refine (eight_any _ b u _ R.out wide (by omega)).mono ?_
         rintro e w1 ⟨rfl, v1, h1, h2, h3⟩
         have e5 : pall l (k + 1) = pall l k ++ beN (u64 wide) 8 := HPS.out
         rw [← e5] at h1
         have hob5 : ∀ j, v1.ownBlock = some j → b ≤ j := fun j hj => by
           rcases h2 with h2 | h2
           · rw [h2] at hj; exact OB.out j hj
           · have := h2 j hj; have := F.out.size; omega
         have F5 := hide (F.out.trans h3 (fun j _ h => by rcases h with h | h; (· omega); (· exact OB.out j h)))
         have R5 := hide h1
         have OB5 := hide hob5
         clear h1 h2 h3 e5 hob5
         go_wp2_with fail
         go_roundw
         case rel => exact ⟨k + 1, _, by go_num, by omega, by omega, R5.out, OB5.out, F5.out⟩
         case measure => simp [intOf]; omega
       by_cases k4 : kind = 4
       · subst k4
         go_wp2_with fail
         refine (text_any _ b u _ R.out s (by omega)).mono ?_
         rintro e w1 ⟨rfl, v1, h1, h2, h3⟩
         have e5 : pall l (k + 1) = pall l k ++ (beN (u64 s.size) 4 ++ s.data.toList) := HPS.out
         rw [List.append_assoc, ← e5] at h1
         have hob5 : ∀ j, v1.ownBlock = some j → b ≤ j := fun j hj => by
           rcases h2 with h2 | h2
           · rw [h2] at hj; exact OB.out j hj
           · have := h2 j hj; have := F.out.size; omega
         have F5 := hide (F.out.trans h3 (fun j _ h => by rcases h with h | h; (· omega); (· exact OB.out j h)))
         have R5 := hide h1
         have OB5 := hide hob5
         clear h1 h2 h3 e5 hob5
         go_wp2_with fail
         go_roundw
         case rel => exact ⟨k + 1, _, by go_num, by omega, by omega, R5.out, OB5.out, F5.out⟩
         case measure => simp [intOf]; omega
       have e5 : pall l (k + 1) = pall l k := by
         have h := HPS.out
         unfold pbytes at h
         rw [if_neg k1, if_neg k2, if_neg k3, if_neg k4, List.append_nil] at h
         exact h
       have R5 : Wt wr b u (pall l (k + 1)) := by rw [e5]; exact R.out
       have H5 := hide R5
       clear R5 e5
       go_wp2_with fail
       go_roundw
       case rel => exact ⟨k + 1, u, by go_num, by omega, by omega, H5.out, OB.out, F.out⟩
       case measure => simp [intOf]; omega
     · have hex : n0 ≤ k ∨ (k < n0 ∧ 40 ≤ k) := by omega
       have e5 : pall l k = pall l 40 := by
         have := HN0.out
         rcases hex with h | h
         · unfold pall; rw [List.take_of_length_le (by omega), List.take_of_length_le (by omega)]
         · rw [show k = 40 by omega]
       have hst : ST w wr b u (.slice a0 n0 c0) l := ⟨e5 ▸ R.out, OB.out, reads_old HV0.out F.out (fun k hk => by omega), F.out⟩
       have T0 := hide hst
       clear hgo e5 hst
       rcases hex with hx | ⟨hx, hx2⟩
       all_goals
         go_wp2_with fail
         go_meet
         case rel => exact ⟨u, T0.out⟩
  case rest =>
      obtain ⟨u, hst⟩ := hcut
      obtain ⟨S, hS⟩ : ∃ S : ByteArray, ⟨(pall l 40).toArray⟩ = S := ⟨_, rfl⟩
      have hcv : ∀ (wx : World) (v : Value), Reads wx v (pall l 40).length 1 (bc (pall l 40)) → (convert 22 9 v).run Try.prog wx = .ok (.string S) wx := fun wx v hr => by
        rw [← hS]; exact run_string_reads (P := Try.prog) wx 22 9 5 v _ hr Try.underlying22 Try.underlying5 Try.underlying9
      have T0 := hide (hst.next (Fr.refl _ _).drew)
      have CV := hide hcv
      have h40 : (pall l 40).length ≤ 140737488355328 := by have := HLE.out 40; omega
      clear hS hcv hst
      go_wp2_with fail
      go_region_with (first
        | (go_at_call 12
           refine (done_any _ b u _ T0.out.wt h40).mono ?_
           rintro e wa ⟨va, rfl, hoa, hfa⟩
           have hra := Reads.of_own hoa
           have ea := CV.out wa va hra
           have RA := hide hra
           have TA := hide (T0.out.next hfa)
           clear hoa hfa hra T0)
        | (go_at_call 20
           refine (HWR.out _ TA.out.rd).mono ?_
           rintro e wb ⟨vb, rfl, hrb, hbb, hfb⟩
           have ea' := CV.out wb _ (RA.out.fr hfb (fun _ _ _ _ => id))
           have eb := CV.out wb vb hrb
           have TB := hide (TA.out.next hfb)
           clear hrb hfb hbb TA RA)
        | (go_at_call 12
           refine (done_any _ b u _ TB.out.wt h40).mono ?_
           rintro e wc ⟨vc, rfl, hoc, hfc⟩
           have hrc := Reads.of_own hoc
           have ec := CV.out wc vc hrc
           have RC := hide hrc
           have TC := hide (TB.out.next hfc)
           clear hoc hfc hrc TB)
        | (go_at_call 20
           refine (HWR.out _ TC.out.rd).mono ?_
           rintro e wd ⟨vd, rfl, hrd, hbd, hfd⟩
           have ec' := CV.out wd _ (RC.out.fr hfd (fun _ _ _ _ => id))
           have ed := CV.out wd vd hrd
           have TD := hide (TC.out.next hfd)
           clear hrd hfd hbd TC RC)
        | (go_at_call 16
           refine (known_any _).mono ?_
           rintro e we ⟨rfl, hfe⟩
           have TE := hide (TD.out.next hfe)
           clear hfe TD))

      all_goals
        go_wp2_with fail
        go_ret
        exact ⟨rfl, TE.out.fr.toBelow (by omega) (fun k hk => by omega)⟩
end WireWrites
end Go.Proofs.Ytcklmdgmjgkogaa
