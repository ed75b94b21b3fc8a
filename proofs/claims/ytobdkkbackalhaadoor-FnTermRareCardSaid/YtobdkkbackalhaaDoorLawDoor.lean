/-
  The walks of FnRatOf and FnRatOk.
-/
import Derived.Test.YtobdkkbackalhaaDoorRatLaw
import Derived.Test.YtobdkkbackalhaaDoorDrawDoor
import Derived.Test.YtobdkkbackalhaaDoorRatCmp
namespace Go.Proofs.YtobdkkbackalhaaDoor
open Go.RowKit
set_option linter.unusedVariables false

theorem ratOf_law {a b : Int} (h : (ofC a b && fitB a b) = true) :
    ratOkB (pickU (ofC a b) (fitU a b)) (pickD (ofC a b) (fitD a b)) = true ∧ pickU (ofC a b) (fitU a b) * b = a * pickD (ofC a b) (fitD a b) ∧ (-1000000000 ≤ b ∧ b ≤ 1000000000) ∧ (-1000000000 ≤ a ∧ a ≤ 1000000000) := by
  simp only [Bool.and_eq_true] at h
  obtain ⟨h1, h2⟩ := h
  have h3 := h1
  simp [ofC, wi_true] at h3
  obtain ⟨⟨⟨a1, a2⟩, a3, a4⟩, a5⟩ := h3
  rw [pickU_yes h1, pickD_yes h1]
  unfold fitU fitD
  rw [if_pos h2, if_pos h2]
  exact ⟨h2, made_cross a5, ⟨a3, a4⟩, a1, a2⟩

theorem walk_FnRatOf (a0 : Option Addr) (len cap : Nat) (zs : List Int) (w : World) (hrow : IsRow .u8 w a0 len cap zs) (hL : Laid w) :
    Calls Tryd.prog 7 #[.slice a0 len cap] w fun e w' => e = .returned (.bool true) ∧ Below w.heap.size w w' := by
  have hlt := hL.lt
  obtain ⟨hc1, hc2, _⟩ := code_of_row hrow
  by_cases hbig : (1048576 : Int) < (len : Int)
  · go_enter Tryd.func7, Tryd.ntmps7
    go_wp2
    go_ret
    exact ⟨rfl, Below.refl _ _⟩
  · go_enter Tryd.func7, Tryd.ntmps7
    go_wp2_with fail
    refine (drawRatOf_any a0 len cap zs _ hrow).mono ?_
    rintro e w1 ⟨a, b, rfl, hb1⟩
    have h1 := fun w hL => ratOf_any a b w hL
    have h2 := fun w => specRatOf_any a b w
    have h3 := @ratOf_law a b
    generalize pickU (ofC a b) (fitU a b) = U at h1 h2 h3
    generalize pickD (ofC a b) (fitD a b) = V at h1 h2 h3
    generalize (ofC a b && fitB a b) = K at h1 h2 h3
    have H1 := Lib.hid h1
    have H2 := Lib.hid h2
    clear h1 h2 hrow
    go_wp2_with fail
    refine (H1.out _ (hL.below hb1 hlt)).mono ?_
    rintro e w2 ⟨rfl, hb2⟩
    have hB2 : Below w.heap.size w w2 := hb1.trans (hb2.mono hb1.size)
    clear hb1 hb2
    go_wp2_with fail
    refine (H2.out _).mono ?_
    rintro e w3 ⟨rfl, hb3⟩
    obtain ⟨c3, f3⟩ := bcell hb3
    have q0 : w3.cell? ⟨w2.heap.size, 0, none⟩ = some (.int .i64 U) := (c3 _ _ (by simp)).trans (by simp [go_sem])
    have q1 : w3.cell? ⟨w2.heap.size, 1, none⟩ = some (.int .i64 V) := (c3 _ _ (by simp)).trans (by simp [go_sem])
    have hz3 : w2.heap.size < w3.heap.size := by have := hb3.size; simp at this; omega
    have hB3 : Below w.heap.size w w3 := (hB2.alloc hB2.size _).trans (hb3.mono (by have := hB2.size; simp; omega))
    clear c3 f3 hb3
    cases K
    · clear h3
      go_wp2
      go_ret
      exact ⟨rfl, hB3.alloc hB3.size _⟩
    · obtain ⟨hok, hx, ⟨b1, b2⟩, a1, a2⟩ := h3 rfl
      obtain ⟨⟨u1, u2⟩, ⟨v1, v2⟩, _⟩ := ratOkB_iff.1 hok
      obtain ⟨m1, m2⟩ := mul_bound99 u1 u2 b1 b2
      have hx' : (U * b == a * V) = true := by simpa using hx
      have m3 : -1000000000000000000 ≤ a * V := by omega
      have m4 : a * V ≤ 1000000000000000000 := by omega
      have HX := Lib.hid hx
      clear h3 hx
      go_wp2_with (go_at_call 24; refine (ratOk_any _ _ _).mono ?_; rintro e w4 ⟨rfl, hb4⟩; obtain ⟨c4, f4⟩ := bcell hb4)
      go_ret
      exact ⟨rfl, (hB3.alloc hB3.size _).trans (hb4.mono (by have := hB3.size; simp; omega))⟩
end Go.Proofs.YtobdkkbackalhaaDoor
