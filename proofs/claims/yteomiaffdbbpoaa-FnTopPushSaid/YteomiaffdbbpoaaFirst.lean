/-
  Contract of firstHits.
-/
import Derived.Test.YteomiaffdbbpoaaPush
namespace Go.Proofs.Yteomiaffdbbpoaa
open Go.RowKit Go.Sort
set_option linter.unusedVariables false

theorem firstHits_any (A : Option Addr) (c : Nat) (L : List (Int × Int)) (m : Nat) (w : World) (h : SrcE enc2 2 w A c L) (hn : L.length ≤ 1048577) (hm : m ≤ 16) :
    Calls Try.prog 75 #[.slice A L.length c, .int .i64 m] w (MakesH ((sortH L).take m) w) := by
  obtain ⟨R, hR⟩ : ∃ R, R = (sortH L).take m := ⟨_, rfl⟩
  rw [← hR]
  have HR := Lib.hid hR
  clear hR
  have own0 := ownE_made (enc := enc2) (F := 2) 49 w w.heap.size (Nat.le_refl _)
  go_enter Try.func75, Try.ntmps75
  go_wp2_with (at_builtin; refine append_rec rowTHit encHit (by decide) rfl _ _ rfl w.heap.size _ _ [] rfl own0 _ _ _ L rfl rfl (h.below (by (repeat' (first | exact Below.refl _ _ | apply Below.alloc | apply Below.setCell | apply Below.drew | apply below_draws)) <;> (first | omega | (simp <;> omega)))) (by simp; omega) (by omega) (by simp <;> omega) ?_)
  intro L1 hL1 g1 c1 w1 own1 hg1 hat1 hb1
  obtain rfl : L1 = L := hL1.out
  have hB1 : Below w.heap.size w w1 := Below.trans (by (repeat' (first | exact Below.refl _ _ | apply Below.alloc | apply Below.setCell | apply Below.drew | apply below_draws)) <;> (first | omega | (simp <;> omega))) hb1
  clear hb1 hL1 hg1 hat1
  have hs1 := hB1.size
  go_wp2_with fail
  refine (sortHit_own g1 c1 _ L1 _ own1 (by omega)).mono ?_
  rintro e w2 ⟨N, ⟨rfl, hN, hNl, own2, hg2⟩, hb2⟩
  have hB2 := hB1.trans hb2
  clear hb2 hg2
  have hs2 := hB2.size
  have hcN := own2.capOk.1
  have own0' := ownE_made (enc := enc2) (F := 2) 49 w2 w2.heap.size (Nat.le_refl _)
  have hRN : Hid (R = N.take m) := by show _ = _; rw [HR.out, hN.out]
  clear HR hN own1 own0
  obtain ⟨k, hk⟩ : ∃ k, k = min L1.length m := ⟨_, rfl⟩
  have hmin : min (L1.length : Int) (m : Int) = (k : Int) := by omega
  have hkN : k ≤ N.length := by omega
  have hkL : (k : Int) ≤ (L1.length : Int) := by omega
  have hkc : k ≤ c1 := by omega
  have hk16 : k ≤ 16 := by omega
  have hRk : Hid (R = N.take k) := by show _ = _; rw [hRN.out, List.take_eq_take_min, hk, hNl, Nat.min_comm]
  clear hRN hk
  have hT := own2.src.take (c' := c1) encHit (k := k) hkN
  have hTl : Hid (k = (N.take k).length) := by show _ = _; rw [List.length_take, Nat.min_eq_left hkN]
  rw [← hRk.out] at hT hTl
  go_wp2_with (at_builtin; refine append_rec rowTHit encHit (by decide) rfl _ _ rfl w2.heap.size _ _ [] rfl own0' _ _ _ R hTl.out rfl (hT.below (by (repeat' (first | exact Below.refl _ _ | apply Below.alloc | apply Below.setCell | apply Below.drew | apply below_draws)) <;> (first | omega | (simp <;> omega)))) (by have := hTl.out; simp; omega) (by omega) (by simp <;> omega) ?_)
  intro L2 hL2 g2 c2 w3 own3 hg3 hat3 hb3
  obtain rfl : L2 = R := hL2.out
  have hB3 : Below w.heap.size w w3 := hB2.trans ((Below.trans (by (repeat' (first | exact Below.refl _ _ | apply Below.alloc | apply Below.setCell | apply Below.drew | apply below_draws)) <;> (first | omega | (simp <;> omega))) hb3).mono hs2)
  clear hb3
  go_wp2
  go_ret
  exact ⟨g2, c2, ⟨rfl, own_mono own3 hs2⟩, hB3⟩
end Go.Proofs.Yteomiaffdbbpoaa
