/-
  The walks of the laws FnRatCmp and FnRatFloor.
-/
import Derived.Test.YtobdkkbackalhaaLawRat1
namespace Go.Proofs.Ytobdkkbackalhaa
open Go.RowKit
set_option linter.unusedVariables false

theorem floor_law {a b t : Int} (h1 : ratOkB a b = true) (h2 : wi t 1 1000 = true) : floorB a b t * b ≤ a * t ∧ a * t < (floorB a b t + 1) * b ∧ -1000000000000 ≤ floorB a b t ∧ floorB a b t ≤ 1000000000000 ∧ -1000000000000 ≤ a * t ∧ a * t ≤ 1000000000000 ∧ -2000000000000 ≤ floorB a b t * b := by
  obtain ⟨⟨ha1, ha2⟩, ⟨hb1, hb2⟩, _⟩ := ratOkB_iff.1 h1
  obtain ⟨ht1, ht2⟩ := wi_true.1 h2
  obtain ⟨hm1, hm2⟩ := mul_bound ha1 ha2 ht1 ht2
  rw [floorB_yes h1 h2]
  generalize a * t = n at *
  have e1 := Int.mul_ediv_add_emod n b
  have e2 := Int.emod_nonneg n (show b ≠ 0 by omega)
  have e3 := Int.emod_lt_of_pos n (show 0 < b by omega)
  have e4 : n / b * b = b * (n / b) := Int.mul_comm _ _
  have e5 : (n / b + 1) * b = n / b * b + b := by rw [Int.add_mul, Int.one_mul]
  have l1 : -1000000000000 ≤ n / b := by
    rw [Int.le_ediv_iff_mul_le (by omega)]
    have := Int.mul_le_mul_of_nonneg_left hb1 (show 0 ≤ 1000000000000 by omega)
    omega
  have l2 : n / b ≤ 1000000000000 := by
    rcases Int.le_total 0 n with h | h
    · exact Int.le_trans (Int.ediv_le_self _ h) hm2
    · have : n / b ≤ 0 := Int.ediv_nonpos_of_nonpos_of_neg h (by omega) |> fun h => h
      omega
  omega


theorem walk_FnRatFloor (a0 : Option Addr) (len cap : Nat) (zs : List Int) (w : World) (hrow : IsRow .u8 w a0 len cap zs) :
    Calls Try.prog 10 #[.slice a0 len cap] w fun e w' => e = .returned (.bool true) ∧ Below w.heap.size w w' := by
  obtain ⟨hc1, hc2, _⟩ := code_of_row hrow
  by_cases hbig : (1048576 : Int) < (len : Int)
  · go_enter Try.func10, Try.ntmps10
    go_wp2
    go_ret
    exact ⟨rfl, Below.refl _ _⟩
  · go_enter Try.func10, Try.ntmps10
    go_wp2_with fail
    refine (drawRatFloor_any a0 len cap zs _ hrow).mono ?_
    rintro e w1 ⟨a, b, t, rfl, hb1⟩
    go_wp2_with fail
    have hB : Below w.heap.size w (w1.alloc (.cells #[.int .i64 a, .int .i64 b] 33)) := hb1.trans (Below.alloc (Below.refl _ _) hb1.size _)
    have hx : w1.heap.size < (w1.alloc (.cells #[.int .i64 a, .int .i64 b] 33)).heap.size := by simp
    have l0 : ∀ w', Below (w1.alloc (.cells #[.int .i64 a, .int .i64 b] 33)).heap.size (w1.alloc (.cells #[.int .i64 a, .int .i64 b] 33)) w' → w'.cell? ⟨w1.heap.size, 0, none⟩ = some (.int .i64 a) := fun w' h => (h.cell (p := ⟨_, _, _⟩) hx).trans (by simp)
    have l1 : ∀ w', Below (w1.alloc (.cells #[.int .i64 a, .int .i64 b] 33)).heap.size (w1.alloc (.cells #[.int .i64 a, .int .i64 b] 33)) w' → w'.cell? ⟨w1.heap.size, 1, none⟩ = some (.int .i64 b) := fun w' h => (h.cell (p := ⟨_, _, _⟩) hx).trans (by simp)
    have hH := Below.refl (w1.alloc (.cells #[.int .i64 a, .int .i64 b] 33)).heap.size (w1.alloc (.cells #[.int .i64 a, .int .i64 b] 33))
    generalize hW : w1.alloc (.cells #[.int .i64 a, .int .i64 b] 33) = W0 at hB hx l0 l1 hH ⊢
    generalize w1.heap.size = g at hx l0 l1 ⊢
    clear hW hb1 hrow
    by_cases ho : ratOkB a b = true
    · by_cases h2 : wi t 1 1000 = true
      · obtain ⟨m1, m2, m3, m4, m5, m6, m7⟩ := floor_law ho h2
        obtain ⟨o1, o2, o3⟩ := ratOkB_iff.1 ho
        obtain ⟨t1, t2⟩ := wi_true.1 h2
        clear o3
        have m8 : (floorB a b t + 1) * b ≤ 4000000000000 := by rw [Int.add_mul, Int.one_mul]; omega
        go_wp2_with (first | (go_at_call 21; refine (ratFloor_any _ _ _ _).mono ?_; rintro e w' ⟨rfl, hb⟩; replace hH := hH.trans (hb.mono hH.size); clear hb) | (go_at_call 20; refine (specRatFloor_any _ _ _ _).mono ?_; rintro e w' ⟨rfl, hb⟩; replace hH := hH.trans (hb.mono hH.size); clear hb) | (go_at_call 19; refine (ratOk_any _ _ _).mono ?_; rintro e w' ⟨rfl, hb⟩; replace hH := hH.trans (hb.mono hH.size); clear hb))
        go_ret
        exact ⟨rfl, hB.trans (hH.mono hB.size)⟩
      · have h3 := mt wi_true.2 h2
        go_wp2_with (first | (go_at_call 21; refine (ratFloor_any _ _ _ _).mono ?_; rintro e w' ⟨rfl, hb⟩; replace hH := hH.trans (hb.mono hH.size); clear hb) | (go_at_call 20; refine (specRatFloor_any _ _ _ _).mono ?_; rintro e w' ⟨rfl, hb⟩; replace hH := hH.trans (hb.mono hH.size); clear hb) | (go_at_call 19; refine (ratOk_any _ _ _).mono ?_; rintro e w' ⟨rfl, hb⟩; replace hH := hH.trans (hb.mono hH.size); clear hb))
        all_goals (go_ret; exact ⟨rfl, hB.trans (hH.mono hB.size)⟩)
    · go_wp2_with (first | (go_at_call 21; refine (ratFloor_any _ _ _ _).mono ?_; rintro e w' ⟨rfl, hb⟩; replace hH := hH.trans (hb.mono hH.size); clear hb) | (go_at_call 20; refine (specRatFloor_any _ _ _ _).mono ?_; rintro e w' ⟨rfl, hb⟩; replace hH := hH.trans (hb.mono hH.size); clear hb) | (go_at_call 19; refine (ratOk_any _ _ _).mono ?_; rintro e w' ⟨rfl, hb⟩; replace hH := hH.trans (hb.mono hH.size); clear hb))
      all_goals (go_ret; exact ⟨rfl, hB.trans (hH.mono hB.size)⟩)
end Go.Proofs.Ytobdkkbackalhaa
