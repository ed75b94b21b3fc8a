/-
  RatFloor: both give the greatest whole number that is no more than so many of a fraction; the walk of FnExactRatFloor.
-/
import Derived.Test.YtobdkkbackalhaaRatOk
namespace Go.Proofs.Ytobdkkbackalhaa
open Go.RowKit
set_option linter.unusedVariables false

def floorB (a b t : Int) : Int := if ratOkB a b && wi t 1 1000 then (a * t) / b else 0
theorem floorB_no1 {a b t : Int} (h : ratOkB a b = false) : floorB a b t = 0 := by simp [floorB, h]
theorem floorB_no2 {a b t : Int} (h : wi t 1 1000 = false) : floorB a b t = 0 := by simp [floorB, h]
theorem floorB_yes {a b t : Int} (h : ratOkB a b = true) (h2 : wi t 1 1000 = true) : floorB a b t = (a * t) / b := by simp [floorB, h, h2]

theorem mul_bound {a t : Int} (h1 : -1000000000 ≤ a) (h2 : a ≤ 1000000000) (h3 : 1 ≤ t) (h4 : t ≤ 1000) : -1000000000000 ≤ a * t ∧ a * t ≤ 1000000000000 := by
  constructor
  · have := Int.mul_le_mul_of_nonneg_right h1 (show 0 ≤ t by omega)
    omega
  · have := Int.mul_le_mul_of_nonneg_right h2 (show 0 ≤ t by omega)
    omega
theorem up_div {n d : Int} (hn : n < 0) (hd : 1 ≤ d) : -((-n + d - 1) / d) = n / d := by
  have h1 := Int.mul_ediv_add_emod n d
  have h2 := Int.emod_nonneg n (show d ≠ 0 by omega)
  have h3 := Int.emod_lt_of_pos n (show 0 < d by omega)
  have e : (-n + d - 1) / d = -(n / d) := by
    have : -n + d - 1 = (d - 1 - n % d) + d * (-(n / d)) := by rw [Int.mul_neg]; omega
    rw [this, Int.add_mul_ediv_left _ _ (show d ≠ 0 by omega), Int.ediv_eq_zero_of_lt (by omega) (by omega)]
    omega
  omega
theorem tdiv_neg_exact {n d : Int} (hn : n < 0) (hd : 1 ≤ d) : (n.tdiv d * d = n → n / d = n.tdiv d) ∧ (n.tdiv d * d ≠ n → n / d = n.tdiv d - 1) ∧ -(-n) ≤ n.tdiv d * d ∧ n ≤ n.tdiv d ∧ n.tdiv d ≤ 0 ∧ n.tdiv d * d ≤ 0 := by
  have e : n.tdiv d = -((-n) / d) := by
    have : n = -(-n) := by omega
    rw [this, Int.neg_tdiv, Int.tdiv_eq_ediv_of_nonneg (by omega)]
    simp
  have h1 := Int.mul_ediv_add_emod (-n) d
  have h2 := Int.emod_nonneg (-n) (show d ≠ 0 by omega)
  have h3 := Int.emod_lt_of_pos (-n) (show 0 < d by omega)
  have h4 : 0 ≤ (-n) / d := Int.ediv_nonneg (by omega) (by omega)
  have h6 : (-n) / d ≤ -n := Int.ediv_le_self _ (by omega)
  have hm : (-n) / d * d = -n - (-n) % d := by rw [Int.mul_comm]; omega
  have h7 : 0 ≤ (-n) / d * d := Int.mul_nonneg h4 (by omega)
  have hq : n.tdiv d * d = -(-n - (-n) % d) := by rw [e, Int.neg_mul, hm]
  have h5 : n / d = if (-n) % d = 0 then -((-n) / d) else -((-n) / d) - 1 := by
    split
    · rename_i h
      have : n = d * (-((-n) / d)) := by rw [Int.mul_neg]; omega
      conv => lhs; rw [this]
      exact Int.mul_ediv_cancel_left _ (by omega)
    · rename_i h
      have : n = (d - (-n) % d) + d * (-((-n) / d) - 1) := by rw [Int.mul_sub, Int.mul_neg]; omega
      conv => lhs; rw [this]
      rw [Int.add_mul_ediv_left _ _ (show d ≠ 0 by omega), Int.ediv_eq_zero_of_lt (by omega) (by omega)]
      omega
  refine ⟨fun h => ?_, fun h => ?_, by omega, by omega, by omega, by omega⟩
  · rw [h5, if_pos (by omega), e]
  · rw [h5, if_neg (by omega), e]

theorem ratFloor_any (a b t : Int) (w : World) :
    Calls Try.prog 21 #[.agg #[.int .i64 a, .int .i64 b], .int .i64 t] w fun e w' => e = .returned (.int .i64 (floorB a b t)) ∧ Below w.heap.size w w' := by
  by_cases h1 : ratOkB a b = true
  · by_cases h2 : wi t 1 1000 = true
    · obtain ⟨⟨ha1, ha2⟩, ⟨hb1, hb2⟩, _⟩ := ratOkB_iff.1 h1
      obtain ⟨ht1, ht2⟩ := wi_true.1 h2
      obtain ⟨hm1, hm2⟩ := mul_bound ha1 ha2 ht1 ht2
      have H : Hid (floorB a b t = (a * t) / b) := floorB_yes h1 h2
      by_cases hn : a * t < 0
      · have hu : Hid (-((-(a * t) + b - 1) / b) = (a * t) / b) := up_div hn hb1
        have hd1 : 0 ≤ (-(a * t) + b - 1) / b := Int.ediv_nonneg (by omega) (by omega)
        have hd2 : (-(a * t) + b - 1) / b ≤ 2000000000000 := Int.le_trans (Int.ediv_le_self _ (by omega)) (by omega)
        go_enter Try.func21, Try.ntmps21
        go_wp2_with fail
        refine (ratOk_any _ _ _).mono ?_
        rintro e w1 ⟨rfl, hb1⟩
        obtain ⟨hc1, hf1⟩ := bcell hb1
        go_wp2_with (go_at_call 33; refine (within_any _ _ _ _).mono ?_; rintro e w' ⟨rfl, rfl⟩)
        go_ret
        exact ⟨ret_int (by rw [H.out]; exact hu.out), ((Below.refl _ _).alloc (Nat.le_refl _) _).trans (hb1.mono (by simp))⟩
      · go_enter Try.func21, Try.ntmps21
        go_wp2_with fail
        refine (ratOk_any _ _ _).mono ?_
        rintro e w1 ⟨rfl, hb1⟩
        obtain ⟨hc1, hf1⟩ := bcell hb1
        go_wp2_with (go_at_call 33; refine (within_any _ _ _ _).mono ?_; rintro e w' ⟨rfl, rfl⟩)
        go_ret
        exact ⟨ret_int (by rw [H.out]), ((Below.refl _ _).alloc (Nat.le_refl _) _).trans (hb1.mono (by simp))⟩
    · have h2' : wi t 1 1000 = false := by simpa using h2
      have H : Hid (floorB a b t = 0) := floorB_no2 h2'
      go_enter Try.func21, Try.ntmps21
      go_wp2_with fail
      refine (ratOk_any _ _ _).mono ?_
      rintro e w1 ⟨rfl, hb1⟩
      go_wp2_with (go_at_call 33; refine (within_any _ _ _ _).mono ?_; rintro e w' ⟨rfl, rfl⟩)
      go_ret
      exact ⟨ret_int (by rw [H.out]), ((Below.refl _ _).alloc (Nat.le_refl _) _).trans (hb1.mono (by simp))⟩
  · have h1' : ratOkB a b = false := by simpa using h1
    have H : Hid (floorB a b t = 0) := floorB_no1 h1'
    go_enter Try.func21, Try.ntmps21
    go_wp2_with fail
    refine (ratOk_any _ _ _).mono ?_
    rintro e w1 ⟨rfl, hb1⟩
    go_wp2_with fail
    go_ret
    exact ⟨ret_int (by rw [H.out]), ((Below.refl _ _).alloc (Nat.le_refl _) _).trans (hb1.mono (by simp))⟩
theorem specRatFloor_any (a b t : Int) (w : World) :
    Calls Try.prog 20 #[.agg #[.int .i64 a, .int .i64 b], .int .i64 t] w fun e w' => e = .returned (.int .i64 (floorB a b t)) ∧ Below w.heap.size w w' := by
  by_cases h1 : ratOkB a b = true
  · by_cases h2 : wi t 1 1000 = true
    · obtain ⟨⟨ha1, ha2⟩, ⟨hb1, hb2⟩, _⟩ := ratOkB_iff.1 h1
      obtain ⟨ht1, ht2⟩ := wi_true.1 h2
      obtain ⟨hm1, hm2⟩ := mul_bound ha1 ha2 ht1 ht2
      have H : Hid (floorB a b t = (a * t) / b) := floorB_yes h1 h2
      by_cases hn : a * t < 0
      · obtain ⟨q1, q2, q3, q4, q5, q6⟩ := tdiv_neg_exact hn hb1
        have Q1 := Lib.hid q1
        have Q2 := Lib.hid q2
        clear q1 q2
        by_cases hx : (a * t).tdiv b * b = a * t
        · have hx' : ((a * t).tdiv b * b != a * t) = false := by simpa using hx
          have HX := Lib.hid hx
          clear hx
          go_enter Try.func20, Try.ntmps20
          go_wp2_with fail
          refine (l10Ok_any _ _ _).mono ?_
          rintro e w1 ⟨rfl, hb1⟩
          obtain ⟨hc1, hf1⟩ := bcell hb1
          go_wp2_with (go_at_call 37; refine (l1In_any _ _ _ _).mono ?_; rintro e w' ⟨rfl, rfl⟩)
          go_ret
          exact ⟨ret_int (by rw [H.out]; exact (Q1.out HX.out).symm), ((Below.refl _ _).alloc (Nat.le_refl _) _).trans (hb1.mono (by simp))⟩
        · have hx' : ((a * t).tdiv b * b != a * t) = true := by simpa using hx
          have HX := Lib.hid hx
          clear hx
          go_enter Try.func20, Try.ntmps20
          go_wp2_with fail
          refine (l10Ok_any _ _ _).mono ?_
          rintro e w1 ⟨rfl, hb1⟩
          obtain ⟨hc1, hf1⟩ := bcell hb1
          go_wp2_with (go_at_call 37; refine (l1In_any _ _ _ _).mono ?_; rintro e w' ⟨rfl, rfl⟩)
          go_ret
          exact ⟨ret_int (by rw [H.out]; exact (Q2.out HX.out).symm), ((Below.refl _ _).alloc (Nat.le_refl _) _).trans (hb1.mono (by simp))⟩
      · go_enter Try.func20, Try.ntmps20
        go_wp2_with fail
        refine (l10Ok_any _ _ _).mono ?_
        rintro e w1 ⟨rfl, hb1⟩
        obtain ⟨hc1, hf1⟩ := bcell hb1
        go_wp2_with (go_at_call 37; refine (l1In_any _ _ _ _).mono ?_; rintro e w' ⟨rfl, rfl⟩)
        go_ret
        exact ⟨ret_int (by rw [H.out]), ((Below.refl _ _).alloc (Nat.le_refl _) _).trans (hb1.mono (by simp))⟩
    · have h2' : wi t 1 1000 = false := by simpa using h2
      have H : Hid (floorB a b t = 0) := floorB_no2 h2'
      go_enter Try.func20, Try.ntmps20
      go_wp2_with fail
      refine (l10Ok_any _ _ _).mono ?_
      rintro e w1 ⟨rfl, hb1⟩
      go_wp2_with (go_at_call 37; refine (l1In_any _ _ _ _).mono ?_; rintro e w' ⟨rfl, rfl⟩)
      go_ret
      exact ⟨ret_int (by rw [H.out]), ((Below.refl _ _).alloc (Nat.le_refl _) _).trans (hb1.mono (by simp))⟩
  · have h1' : ratOkB a b = false := by simpa using h1
    have H : Hid (floorB a b t = 0) := floorB_no1 h1'
    go_enter Try.func20, Try.ntmps20
    go_wp2_with fail
    refine (l10Ok_any _ _ _).mono ?_
    rintro e w1 ⟨rfl, hb1⟩
    go_wp2_with fail
    go_ret
    exact ⟨ret_int (by rw [H.out]), ((Below.refl _ _).alloc (Nat.le_refl _) _).trans (hb1.mono (by simp))⟩
theorem walk_FnExactRatFloor (a : Int) (wa : (Lit.int .i64 a).wf = true) (b : Int) (wb : (Lit.int .i64 b).wf = true) (t : Int) (wt : (Lit.int .i64 t).wf = true) (w : World) :
    Calls Try.prog 6 #[.agg #[.int .i64 a, .int .i64 b], .int .i64 t] w fun e w' => e = .returned (.bool true) ∧ Below w.heap.size w w' := by
  clear wa wb wt
  go_enter Try.func6, Try.ntmps6
  go_wp2_with fail
  refine (toRat_any _ _ _).mono ?_
  rintro e w1 ⟨rfl, hb1⟩
  obtain ⟨hc1, hf1⟩ := bcell hb1
  go_wp2_with fail
  refine (specRatFloor_any _ _ _ _).mono ?_
  rintro e w2 ⟨rfl, hb2⟩
  obtain ⟨hc2, hf2⟩ := bcell hb2
  have hz1 : w.heap.size < w1.heap.size := by have := hb1.size; simp at this; omega
  go_wp2_with fail
  refine (toRat_any _ _ _).mono ?_
  rintro e w3 ⟨rfl, hb3⟩
  obtain ⟨hc3, hf3⟩ := bcell hb3
  go_wp2_with fail
  refine (ratFloor_any _ _ _ _).mono ?_
  rintro e w4 ⟨rfl, hb4⟩
  go_wp2
  go_ret
  exact ⟨rfl, ((((Below.refl _ _).alloc (Nat.le_refl _) _).trans (hb1.mono (by simp))).trans (hb2.mono (by omega))).trans ((hb3.mono (by have := hb2.size; omega)).trans (hb4.mono (by have := hb2.size; have := hb3.size; omega)))⟩

end Go.Proofs.Ytobdkkbackalhaa
