/-
  RatCmp: both programs compare two fractions alike; the walk of FnExactRatCmp.
-/
import Derived.Test.YtobdkkbackalhaaRatOk
import Derived.Deep.RegionHeld3
namespace Go.Proofs.Ytobdkkbackalhaa
open Go.RowKit
set_option linter.unusedVariables false

def sgnOf (x y : Int) : Int := if x < y then -1 else if y < x then 1 else 0
def cmpB (a b c d : Int) : Int := if ratOkB a b && ratOkB c d then sgnOf (a * d) (c * b) else 0
theorem cmpB_no1 {a b c d : Int} (h : ratOkB a b = false) : cmpB a b c d = 0 := by simp [cmpB, h]
theorem cmpB_no2 {a b c d : Int} (h : ratOkB c d = false) : cmpB a b c d = 0 := by simp [cmpB, h]
theorem cmpB_yes {a b c d : Int} (h : ratOkB a b = true) (h2 : ratOkB c d = true) : cmpB a b c d = sgnOf (a * d) (c * b) := by simp [cmpB, h, h2]
theorem mul_bound9 {a t : Int} (h1 : -1000000000 ≤ a) (h2 : a ≤ 1000000000) (h3 : 1 ≤ t) (h4 : t ≤ 1000000000) : -1000000000000000000 ≤ a * t ∧ a * t ≤ 1000000000000000000 := by
  constructor
  · have := Int.mul_le_mul_of_nonneg_right h1 (show 0 ≤ t by omega)
    omega
  · have := Int.mul_le_mul_of_nonneg_right h2 (show 0 ≤ t by omega)
    omega

theorem ratCmp_any (a b c d : Int) (w : World) :
    Calls Try.prog 26 #[.agg #[.int .i64 a, .int .i64 b], .agg #[.int .i64 c, .int .i64 d]] w fun e w' => e = .returned (.int .i64 (cmpB a b c d)) ∧ Below w.heap.size w w' := by
  by_cases h1 : ratOkB a b = true
  · by_cases h2 : ratOkB c d = true
    · obtain ⟨⟨ha1, ha2⟩, ⟨hb1, hb2⟩, _⟩ := ratOkB_iff.1 h1
      obtain ⟨⟨hc1, hc2⟩, ⟨hd1, hd2⟩, _⟩ := ratOkB_iff.1 h2
      obtain ⟨hm1, hm2⟩ := mul_bound9 ha1 ha2 hd1 hd2
      obtain ⟨hm3, hm4⟩ := mul_bound9 hc1 hc2 hb1 hb2
      have H : Hid (cmpB a b c d = sgnOf (a * d) (c * b)) := cmpB_yes h1 h2
      clear ha1 ha2 hb1 hb2 hc1 hc2 hd1 hd2
      rcases Int.lt_trichotomy (a * d) (c * b) with hx | hx | hx
      · have HS : Hid (sgnOf (a * d) (c * b) = -1) := by unfold sgnOf; rw [if_pos hx]; exact rfl
        go_enter Try.func26, Try.ntmps26
        go_wp2_with fail
        refine (ratOk_any _ _ _).mono ?_
        rintro e w1 ⟨rfl, hb1⟩
        obtain ⟨hc1, hf1⟩ := bcell hb1
        go_wp2_with fail
        refine (ratOk_any _ _ _).mono ?_
        rintro e w2 ⟨rfl, hb2⟩
        obtain ⟨hc2, hf2⟩ := bcell hb2
        have hz1 : w.heap.size < w1.heap.size := by have := hb1.size; simp at this; omega
        have hz2 : w.heap.size + 1 < w1.heap.size := by have := hb1.size; simp at this; omega
        go_wp2
        go_quiet (fail)
        go_wp2
        go_ret
        exact ⟨ret_int (by rw [H.out, HS.out]), (((((Below.refl _ _).alloc (Nat.le_refl _) _).alloc (by simp) _).trans (hb1.mono (by simp; omega))).trans (hb2.mono (by omega))).trans ⟨rfl, rfl, rfl, Nat.le_refl _, fun _ _ => rfl⟩⟩
      · have HS : Hid (sgnOf (a * d) (c * b) = 0) := by unfold sgnOf; rw [if_neg (by omega), if_neg (by omega)]; exact rfl
        have hx1 : a * d ≤ c * b := by omega
        have hx2 : c * b ≤ a * d := by omega
        clear hx
        go_enter Try.func26, Try.ntmps26
        go_wp2_with fail
        refine (ratOk_any _ _ _).mono ?_
        rintro e w1 ⟨rfl, hb1⟩
        obtain ⟨hc1, hf1⟩ := bcell hb1
        go_wp2_with fail
        refine (ratOk_any _ _ _).mono ?_
        rintro e w2 ⟨rfl, hb2⟩
        obtain ⟨hc2, hf2⟩ := bcell hb2
        have hz1 : w.heap.size < w1.heap.size := by have := hb1.size; simp at this; omega
        have hz2 : w.heap.size + 1 < w1.heap.size := by have := hb1.size; simp at this; omega
        go_wp2
        go_quiet (fail)
        go_wp2
        go_ret
        exact ⟨ret_int (by rw [H.out, HS.out]), (((((Below.refl _ _).alloc (Nat.le_refl _) _).alloc (by simp) _).trans (hb1.mono (by simp; omega))).trans (hb2.mono (by omega))).trans ⟨rfl, rfl, rfl, Nat.le_refl _, fun _ _ => rfl⟩⟩
      · have HS : Hid (sgnOf (a * d) (c * b) = 1) := by unfold sgnOf; rw [if_neg (by omega), if_pos hx]; exact rfl
        go_enter Try.func26, Try.ntmps26
        go_wp2_with fail
        refine (ratOk_any _ _ _).mono ?_
        rintro e w1 ⟨rfl, hb1⟩
        obtain ⟨hc1, hf1⟩ := bcell hb1
        go_wp2_with fail
        refine (ratOk_any _ _ _).mono ?_
        rintro e w2 ⟨rfl, hb2⟩
        obtain ⟨hc2, hf2⟩ := bcell hb2
        have hz1 : w.heap.size < w1.heap.size := by have := hb1.size; simp at this; omega
        have hz2 : w.heap.size + 1 < w1.heap.size := by have := hb1.size; simp at this; omega
        go_wp2
        go_quiet (fail)
        go_wp2
        go_ret
        exact ⟨ret_int (by rw [H.out, HS.out]), (((((Below.refl _ _).alloc (Nat.le_refl _) _).alloc (by simp) _).trans (hb1.mono (by simp; omega))).trans (hb2.mono (by omega))).trans ⟨rfl, rfl, rfl, Nat.le_refl _, fun _ _ => rfl⟩⟩
    · have h2' : ratOkB c d = false := by simpa using h2
      have H : Hid (cmpB a b c d = 0) := cmpB_no2 h2'
      go_enter Try.func26, Try.ntmps26
      go_wp2_with fail
      refine (ratOk_any _ _ _).mono ?_
      rintro e w1 ⟨rfl, hb1⟩
      obtain ⟨hc1, hf1⟩ := bcell hb1
      go_wp2_with fail
      refine (ratOk_any _ _ _).mono ?_
      rintro e w2 ⟨rfl, hb2⟩
      go_wp2
      go_ret
      exact ⟨ret_int (by rw [H.out]), ((((Below.refl _ _).alloc (Nat.le_refl _) _).alloc (by simp) _).trans (hb1.mono (by simp; omega))).trans (hb2.mono (by have := hb1.size; simp at this; omega))⟩
  · have h1' : ratOkB a b = false := by simpa using h1
    have H : Hid (cmpB a b c d = 0) := cmpB_no1 h1'
    go_enter Try.func26, Try.ntmps26
    go_wp2_with fail
    refine (ratOk_any _ _ _).mono ?_
    rintro e w1 ⟨rfl, hb1⟩
    go_wp2_with fail
    go_ret
    exact ⟨ret_int (by rw [H.out]), (((Below.refl _ _).alloc (Nat.le_refl _) _).alloc (by simp) _).trans (hb1.mono (by simp; omega))⟩
theorem l10Cmp_any (a b c d : Int) (w : World) (hm1 : -1000000000000000000 ≤ a * d) (hm2 : a * d ≤ 1000000000000000000) (hm3 : -1000000000000000000 ≤ c * b) (hm4 : c * b ≤ 1000000000000000000) :
    Calls Try.prog 41 #[.agg #[.int .i64 a, .int .i64 b], .agg #[.int .i64 c, .int .i64 d]] w fun e w' => e = .returned (.int .i64 (sgnOf (a * d) (c * b))) ∧ Below w.heap.size w w' := by
  rcases Int.lt_trichotomy (a * d) (c * b) with hx | hx | hx
  · have HS : Hid (sgnOf (a * d) (c * b) = -1) := by unfold sgnOf; rw [if_pos hx]; exact rfl
    go_enter Try.func41, Try.ntmps41
    go_wp2
    go_ret
    exact ⟨ret_int (by rw [HS.out]), ((Below.refl _ _).alloc (Nat.le_refl _) _).alloc (by simp) _⟩
  · have HS : Hid (sgnOf (a * d) (c * b) = 0) := by unfold sgnOf; rw [if_neg (by omega), if_neg (by omega)]; exact rfl
    have hx1 : a * d ≤ c * b := by omega
    have hx2 : c * b ≤ a * d := by omega
    clear hx
    go_enter Try.func41, Try.ntmps41
    go_wp2
    go_ret
    exact ⟨ret_int (by rw [HS.out]), ((Below.refl _ _).alloc (Nat.le_refl _) _).alloc (by simp) _⟩
  · have HS : Hid (sgnOf (a * d) (c * b) = 1) := by unfold sgnOf; rw [if_neg (by omega), if_pos hx]; exact rfl
    go_enter Try.func41, Try.ntmps41
    go_wp2
    go_ret
    exact ⟨ret_int (by rw [HS.out]), ((Below.refl _ _).alloc (Nat.le_refl _) _).alloc (by simp) _⟩
theorem specRatCmp_any (a b c d : Int) (w : World) :
    Calls Try.prog 25 #[.agg #[.int .i64 a, .int .i64 b], .agg #[.int .i64 c, .int .i64 d]] w fun e w' => e = .returned (.int .i64 (cmpB a b c d)) ∧ Below w.heap.size w w' := by
  by_cases h1 : ratOkB a b = true
  · by_cases h2 : ratOkB c d = true
    · obtain ⟨⟨ha1, ha2⟩, ⟨hb1, hb2⟩, _⟩ := ratOkB_iff.1 h1
      obtain ⟨⟨hc1, hc2⟩, ⟨hd1, hd2⟩, _⟩ := ratOkB_iff.1 h2
      obtain ⟨hm1, hm2⟩ := mul_bound9 ha1 ha2 hd1 hd2
      obtain ⟨hm3, hm4⟩ := mul_bound9 hc1 hc2 hb1 hb2
      have H : Hid (cmpB a b c d = sgnOf (a * d) (c * b)) := cmpB_yes h1 h2
      clear ha1 ha2 hb1 hb2 hc1 hc2 hd1 hd2
      go_enter Try.func25, Try.ntmps25
      go_wp2_with fail
      refine (l10Ok_any _ _ _).mono ?_
      rintro e w1 ⟨rfl, hb1⟩
      obtain ⟨hc1, hf1⟩ := bcell hb1
      go_wp2_with fail
      refine (l10Ok_any _ _ _).mono ?_
      rintro e w2 ⟨rfl, hb2⟩
      obtain ⟨hc2, hf2⟩ := bcell hb2
      have hz1 : w.heap.size < w1.heap.size := by have := hb1.size; simp at this; omega
      have hz2 : w.heap.size + 1 < w1.heap.size := by have := hb1.size; simp at this; omega
      go_wp2_with fail
      refine (l10Cmp_any _ _ _ _ _ hm1 hm2 hm3 hm4).mono ?_
      rintro e w3 ⟨rfl, hb3⟩
      go_wp2
      go_ret
      exact ⟨ret_int (by rw [H.out]), (((((Below.refl _ _).alloc (Nat.le_refl _) _).alloc (by simp) _).trans (hb1.mono (by simp; omega))).trans (hb2.mono (by omega))).trans (hb3.mono (by have := hb2.size; omega))⟩
    · have h2' : ratOkB c d = false := by simpa using h2
      have H : Hid (cmpB a b c d = 0) := cmpB_no2 h2'
      go_enter Try.func25, Try.ntmps25
      go_wp2_with fail
      refine (l10Ok_any _ _ _).mono ?_
      rintro e w1 ⟨rfl, hb1⟩
      obtain ⟨hc1, hf1⟩ := bcell hb1
      go_wp2_with fail
      refine (l10Ok_any _ _ _).mono ?_
      rintro e w2 ⟨rfl, hb2⟩
      go_wp2
      go_ret
      exact ⟨ret_int (by rw [H.out]), ((((Below.refl _ _).alloc (Nat.le_refl _) _).alloc (by simp) _).trans (hb1.mono (by simp; omega))).trans (hb2.mono (by have := hb1.size; simp at this; omega))⟩
  · have h1' : ratOkB a b = false := by simpa using h1
    have H : Hid (cmpB a b c d = 0) := cmpB_no1 h1'
    go_enter Try.func25, Try.ntmps25
    go_wp2_with fail
    refine (l10Ok_any _ _ _).mono ?_
    rintro e w1 ⟨rfl, hb1⟩
    go_wp2_with fail
    go_ret
    exact ⟨ret_int (by rw [H.out]), (((Below.refl _ _).alloc (Nat.le_refl _) _).alloc (by simp) _).trans (hb1.mono (by simp; omega))⟩
theorem walk_FnExactRatCmp (a : Int) (wa : (Lit.int .i64 a).wf = true) (b : Int) (wb : (Lit.int .i64 b).wf = true) (c : Int) (wc : (Lit.int .i64 c).wf = true) (d : Int) (wd : (Lit.int .i64 d).wf = true) (w : World) :
    Calls Try.prog 8 #[.agg #[.int .i64 a, .int .i64 b], .agg #[.int .i64 c, .int .i64 d]] w fun e w' => e = .returned (.bool true) ∧ Below w.heap.size w w' := by
  clear wa wb wc wd
  go_enter Try.func8, Try.ntmps8
  go_wp2_with fail
  have hB : Below w.heap.size w ((w.alloc (Obj.cells #[Value.int IntKind.i64 a, Value.int IntKind.i64 b] 31)).alloc (Obj.cells #[Value.int IntKind.i64 c, Value.int IntKind.i64 d] 31)) := by (repeat' (first | exact Below.refl _ _ | apply Below.alloc | apply Below.setCell | apply Below.drew)) <;> (simp <;> omega)
  generalize hW : (w.alloc (Obj.cells #[Value.int IntKind.i64 a, Value.int IntKind.i64 b] 31)).alloc (Obj.cells #[Value.int IntKind.i64 c, Value.int IntKind.i64 d] 31) = W0 at hB ⊢
  have hS : W0.heap.size = w.heap.size + 2 ∧ W0.cell? ⟨w.heap.size, 0, none⟩ = some (.int .i64 a) ∧ W0.cell? ⟨w.heap.size, 1, none⟩ = some (.int .i64 b) ∧ W0.cell? ⟨w.heap.size + 1, 0, none⟩ = some (.int .i64 c) ∧ W0.cell? ⟨w.heap.size + 1, 1, none⟩ = some (.int .i64 d) := by
    subst hW
    refine ⟨?_, ?_, ?_, ?_, ?_⟩ <;> simp
  clear hW
  obtain ⟨hz, g1, g2, g3, g4⟩ := hS
  have h1 : ∀ w', Below W0.heap.size W0 w' → w'.cell? ⟨w.heap.size, 0, none⟩ = some (.int .i64 a) := fun w' h => (h.cell (p := ⟨_, _, _⟩) (show w.heap.size < _ by omega)).trans g1
  have h2 : ∀ w', Below W0.heap.size W0 w' → w'.cell? ⟨w.heap.size, 1, none⟩ = some (.int .i64 b) := fun w' h => (h.cell (p := ⟨_, _, _⟩) (show w.heap.size < _ by omega)).trans g2
  have h3 : ∀ w', Below W0.heap.size W0 w' → w'.cell? ⟨w.heap.size + 1, 0, none⟩ = some (.int .i64 c) := fun w' h => (h.cell (p := ⟨_, _, _⟩) (show w.heap.size + 1 < _ by omega)).trans g3
  have h4 : ∀ w', Below W0.heap.size W0 w' → w'.cell? ⟨w.heap.size + 1, 1, none⟩ = some (.int .i64 d) := fun w' h => (h.cell (p := ⟨_, _, _⟩) (show w.heap.size + 1 < _ by omega)).trans g4
  clear g1 g2 g3 g4 hz
  go_region_held3 (fun w' => Below W0.heap.size W0 w')
    (first | exact Below.refl _ _ | exact (Below.refl _ _).drew | exact Below.trans (by assumption) (Below.mono (by assumption) (Below.size (by assumption))))
    (first | (go_at_call 18; refine (toRat_any _ _ _).mono ?_; rintro e w' ⟨rfl, hb⟩) | (go_at_call 25; refine (specRatCmp_any _ _ _ _ _).mono ?_; rintro e w' ⟨rfl, hb⟩))
  go_wp2_with fail
  go_region_held3 (fun w' => Below W0.heap.size W0 w')
    (first | assumption | exact Below.drew (by assumption) | exact Below.trans (by assumption) (Below.mono (by assumption) (Below.size (by assumption))))
    (first | (go_at_call 18; refine (toRat_any _ _ _).mono ?_; rintro e w' ⟨rfl, hb⟩) | (go_at_call 26; refine (ratCmp_any _ _ _ _ _).mono ?_; rintro e w' ⟨rfl, hb⟩))
  rename_i hH
  go_wp2
  go_ret
  exact ⟨rfl, hB.trans (hH.mono hB.size)⟩
end Go.Proofs.Ytobdkkbackalhaa
