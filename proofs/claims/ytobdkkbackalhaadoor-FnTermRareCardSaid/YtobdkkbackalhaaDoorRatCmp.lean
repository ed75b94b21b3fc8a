/-
  RatCmp: both programs compare two fractions alike; the walk of FnExactRatCmp.
-/
import Derived.Test.YtobdkkbackalhaaDoorRatOk
import Derived.Deep.RegionHeld3
namespace Go.Proofs.YtobdkkbackalhaaDoor
open Go.RowKit
set_option linter.unusedVariables false

def cmpB (a b c d : Int) : Int := if ratOkB a b && ratOkB c d then sgnOf (a * d) (c * b) else 0
theorem cmpB_no1 {a b c d : Int} (h : ratOkB a b = false) : cmpB a b c d = 0 := by simp [cmpB, h]
theorem cmpB_no2 {a b c d : Int} (h : ratOkB c d = false) : cmpB a b c d = 0 := by simp [cmpB, h]
theorem cmpB_yes {a b c d : Int} (h : ratOkB a b = true) (h2 : ratOkB c d = true) : cmpB a b c d = sgnOf (a * d) (c * b) := by simp [cmpB, h, h2]
theorem ratCmp_any (a b c d : Int) (w : World) :
    Calls Tryd.prog 30 #[.agg #[.int .i64 a, .int .i64 b], .agg #[.int .i64 c, .int .i64 d]] w fun e w' => e = .returned (.int .i64 (cmpB a b c d)) ∧ Below w.heap.size w w' := by
  by_cases h1 : ratOkB a b = true
  · by_cases h2 : ratOkB c d = true
    · obtain ⟨⟨ha1, ha2⟩, ⟨hb1, hb2⟩, _⟩ := ratOkB_iff.1 h1
      obtain ⟨⟨hc1, hc2⟩, ⟨hd1, hd2⟩, _⟩ := ratOkB_iff.1 h2
      obtain ⟨hm1, hm2⟩ := mul_bound9 ha1 ha2 hd1 hd2
      obtain ⟨hm3, hm4⟩ := mul_bound9 hc1 hc2 hb1 hb2
      have H : Hid (cmpB a b c d = sgnOf (a * d) (c * b)) := cmpB_yes h1 h2
      clear ha1 ha2 hb1 hb2 hc1 hc2 hd1 hd2
      rcases Int.lt_trichotomy (a * d) (c * b) with hx | hx | hx
      · have HS : Hid (sgnOf (a * d) (c * b) = -1) := by unfold sgnOf; rw [if_pos hx]; exact rfl
        go_enter Tryd.func30, Tryd.ntmps30
        go_wp2_with fail
        refine (ratOk_any _ _ _).mono ?_
        rintro e w1 ⟨rfl, hb1⟩
        obtain ⟨hc1, hf1⟩ := bcell hb1
        go_wp2_with fail
        refine (ratOk_any _ _ _).mono ?_
        rintro e w2 ⟨rfl, hb2⟩
        obtain ⟨hc2, hf2⟩ := bcell hb2
        have hz1 : w.heap.size < w1.heap.size := by have := hb1.size; simp at this; omega
        have hz2 : w.heap.size + 1 < w1.heap.size := by have := hb1.size; simp at this; omega
        go_wp2
        go_quiet (fail)
        go_wp2
        go_ret
        exact ⟨ret_int (by rw [H.out, HS.out]), (((((Below.refl _ _).alloc (Nat.le_refl _) _).alloc (by simp) _).trans (hb1.mono (by simp; omega))).trans (hb2.mono (by omega))).trans ⟨rfl, rfl, rfl, Nat.le_refl _, fun _ _ => rfl⟩⟩
      · have HS : Hid (sgnOf (a * d) (c * b) = 0) := by unfold sgnOf; rw [if_neg (by omega), if_neg (by omega)]; exact rfl
        have hx1 : a * d ≤ c * b := by omega
        have hx2 : c * b ≤ a * d := by omega
        clear hx
        go_enter Tryd.func30, Tryd.ntmps30
        go_wp2_with fail
        refine (ratOk_any _ _ _).mono ?_
        rintro e w1 ⟨rfl, hb1⟩
        obtain ⟨hc1, hf1⟩ := bcell hb1
        go_wp2_with fail
        refine (ratOk_any _ _ _).mono ?_
        rintro e w2 ⟨rfl, hb2⟩
        obtain ⟨hc2, hf2⟩ := bcell hb2
        have hz1 : w.heap.size < w1.heap.size := by have := hb1.size; simp at this; omega
        have hz2 : w.heap.size + 1 < w1.heap.size := by have := hb1.size; simp at this; omega
        go_wp2
        go_quiet (fail)
        go_wp2
        go_ret
        exact ⟨ret_int (by rw [H.out, HS.out]), (((((Below.refl _ _).alloc (Nat.le_refl _) _).alloc (by simp) _).trans (hb1.mono (by simp; omega))).trans (hb2.mono (by omega))).trans ⟨rfl, rfl, rfl, Nat.le_refl _, fun _ _ => rfl⟩⟩
      · have HS : Hid (sgnOf (a * d) (c * b) = 1) := by unfold sgnOf; rw [if_neg (by omega), if_pos hx]; exact rfl
        go_enter Tryd.func30, Tryd.ntmps30
        go_wp2_with fail
        refine (ratOk_any _ _ _).mono ?_
        rintro e w1 ⟨rfl, hb1⟩
        obtain ⟨hc1, hf1⟩ := bcell hb1
        go_wp2_with fail
        refine (ratOk_any _ _ _).mono ?_
        rintro e w2 ⟨rfl, hb2⟩
        obtain ⟨hc2, hf2⟩ := bcell hb2
        have hz1 : w.heap.size < w1.heap.size := by have := hb1.size; simp at this; omega
        have hz2 : w.heap.size + 1 < w1.heap.size := by have := hb1.size; simp at this; omega
        go_wp2
        go_quiet (fail)
        go_wp2
        go_ret
        exact ⟨ret_int (by rw [H.out, HS.out]), (((((Below.refl _ _).alloc (Nat.le_refl _) _).alloc (by simp) _).trans (hb1.mono (by simp; omega))).trans (hb2.mono (by omega))).trans ⟨rfl, rfl, rfl, Nat.le_refl _, fun _ _ => rfl⟩⟩
    · have h2' : ratOkB c d = false := by simpa using h2
      have H : Hid (cmpB a b c d = 0) := cmpB_no2 h2'
      go_enter Tryd.func30, Tryd.ntmps30
      go_wp2_with fail
      refine (ratOk_any _ _ _).mono ?_
      rintro e w1 ⟨rfl, hb1⟩
      obtain ⟨hc1, hf1⟩ := bcell hb1
      go_wp2_with fail
      refine (ratOk_any _ _ _).mono ?_
      rintro e w2 ⟨rfl, hb2⟩
      go_wp2
      go_ret
      exact ⟨ret_int (by rw [H.out]), ((((Below.refl _ _).alloc (Nat.le_refl _) _).alloc (by simp) _).trans (hb1.mono (by simp; omega))).trans (hb2.mono (by have := hb1.size; simp at this; omega))⟩
  · have h1' : ratOkB a b = false := by simpa using h1
    have H : Hid (cmpB a b c d = 0) := cmpB_no1 h1'
    go_enter Tryd.func30, Tryd.ntmps30
    go_wp2_with fail
    refine (ratOk_any _ _ _).mono ?_
    rintro e w1 ⟨rfl, hb1⟩
    go_wp2_with fail
    go_ret
    exact ⟨ret_int (by rw [H.out]), (((Below.refl _ _).alloc (Nat.le_refl _) _).alloc (by simp) _).trans (hb1.mono (by simp; omega))⟩
end Go.Proofs.YtobdkkbackalhaaDoor
