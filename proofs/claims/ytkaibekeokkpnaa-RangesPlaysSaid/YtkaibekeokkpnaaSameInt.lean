/- conclavebook.Same at int: are two lists of numbers alike? -/
import Derived.Test.YtkaibekeokkpnaaRows
import Derived.Test.YtkaibekeokkpnaaKit
import Derived.WalkLawsBesides
import Derived.WalkSpells
import Derived.BigQuiet
import Derived.Deep.QuietTactic
import Derived.Outline
namespace Go.Proofs.Ytkaibekeokkpnaa
open Go.RowKit Go.Maps Go.Cv

theorem same_any (w : World) (v1 v2 : Value) (l1 l2 : List Int) (h1 : Reads w v1 l1.length 1 (l1.map (.int .i64))) (h2 : Reads w v2 l2.length 1 (l2.map (.int .i64))) (hb1 : l1.length ≤ 9223372036854775807) :
    Calls Try.prog 25 #[v1, v2] w fun e w' => e = .returned (.bool (decide (l1 = l2))) ∧ ∃ m, w' = w.drewN m := by
  obtain ⟨-, a1, c1, rfl, -, -, h1⟩ := h1
  obtain ⟨-, a2, c2, rfl, -, -, h2⟩ := h2
  by_cases hlen : l1.length = l2.length
  · have hne : (((l1.length : Int)) != ((l2.length : Int))) = false := by simp [hlen]
    obtain ⟨d, hd⟩ : ∃ d, decide (l1 = l2) = d := ⟨_, rfl⟩
    rw [hd]
    have HL := hide hlen
    have HD := hide hd
    have H1 := hide h1
    have H2 := hide h2
    clear hlen hd h1 h2
    go_enter Try.func25, Try.ntmps25
    go_wp2
    go_loopw [5] (fun i wr => ∃ k m : Nat, k ≤ l1.length ∧ i = .int .i64 k ∧ wr = w.drewN m ∧ l1.take k = l2.take k) (fun i _ => l1.length - (intOf i).toNat)
    case atStart => exact ⟨0, 0, by omega, rfl, rfl, rfl⟩
    case round =>
      obtain ⟨k, m, hk, rfl, rfl, htake⟩ := hrel
      have HT := hide htake
      clear htake
      by_cases hlt : k < l1.length
      · have hlen := HL.out
        have g1 : l1[k]? = some l1[k] := List.getElem?_eq_getElem hlt
        have g2 : l2[k]? = some l2[k] := List.getElem?_eq_getElem (by omega)
        obtain ⟨b1, o1, rfl, e1⟩ := H1.out k (.int .i64 l1[k]) (by rw [List.getElem?_map, g1]; rfl)
        obtain ⟨b2, o2, rfl, e2⟩ := H2.out k (.int .i64 l2[k]) (by rw [List.getElem?_map, g2]; rfl)
        generalize hx : l1[k] = x at *
        generalize hy : l2[k] = y at *
        have hi0 : (0 : Int) ≤ (k : Int) := by omega
        have hi1 : (k : Int) < (l1.length : Int) := by omega
        have hi2 : (k : Int) < (l2.length : Int) := by omega
        have G1 := hide g1
        have G2 := hide g2
        clear hlen g1 g2 hx hy
        by_cases hxy : x = y
        · subst hxy
          go_wp2
          go_quiet (fail)
          go_wp2
          go_roundw
          case rel => exact ⟨k + 1, _, by omega, by go_num, rfl, take_eq_succ HT.out G1.out G2.out rfl⟩
          case measure => simp [intOf]; omega
        · have hxy2 : (x != y) = true := by rw [bne_iff_ne]; exact hxy
          go_wp2
          go_quiet (fail)
          go_wp2
          go_ret
          refine ⟨?_, _, (World.drewN_drewN _ _ _)⟩
          rw [← HD.out]
          have : l1 ≠ l2 := fun e => hxy (by have h1 := G1.out; have h2 := G2.out; rw [e, h2] at h1; exact (Option.some.inj h1).symm)
          simp [this]
      · obtain rfl : k = l1.length := by omega
        go_wp2
        go_ret
        refine ⟨?_, _, rfl⟩
        rw [← HD.out]
        have := HT.out
        rw [List.take_of_length_le (Nat.le_refl _), List.take_of_length_le (by rw [HL.out]; exact Nat.le_refl _)] at this
        simp [this]
  · have hne : (((l1.length : Int)) != ((l2.length : Int))) = true := by rw [bne_iff_ne]; omega
    have hd : decide (l1 = l2) = false := by simp; intro e; exact hlen (by rw [e])
    rw [hd]
    clear hd
    go_enter Try.func25, Try.ntmps25
    go_wp2
    go_ret
    exact ⟨rfl, 0, rfl⟩
end Go.Proofs.Ytkaibekeokkpnaa
