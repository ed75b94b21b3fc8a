/-
  Contracts of what the laws on trees call: foKnots on equal rows, foInBox, foWay, BoxOk.
-/
import Derived.Test.YtbmbejomodkabaaKnotsNear
import Derived.OpenShut
namespace Go.Proofs.Ytbmbejomodkabaa
open Go.RowKit Go.Sort
set_option linter.unusedVariables false

set_option maxRecDepth 5000 in
theorem foKnots_same (A A' : Option Addr) (c c' : Nat) (L : List Kn) (w : World) (h : Rds w 8 A L.length (L.flatMap encKn)) (h' : Rds w 8 A' L.length (L.flatMap encKn)) (hn : L.length ≤ 4194304) :
    Calls Try.prog 11 #[.slice A L.length c, .slice A' L.length c'] w fun e w' => e = .returned (.bool true) ∧ Below w.heap.size w w' := by
  go_enter Try.func11, Try.ntmps11
  go_wp2
  go_loopw [5] (fun i wr => ∃ k : Nat, k ≤ L.length ∧ i = .int .i64 k ∧ ∃ q, wr = w.drewN q) (fun i _ => L.length - (intOf i).toNat)
  case atStart => exact ⟨0, Nat.zero_le _, rfl, 0, rfl⟩
  case round =>
    obtain ⟨k, hk, rfl, q, rfl⟩ := hrel
    by_cases hlt : k < L.length
    · obtain ⟨b, off, rfl, hb, x0, x1, x2, x3, x4, x5, x6, x7⟩ := h.atKn hlt
      obtain ⟨b', off', rfl, hb', y0, y1, y2, y3, y4, y5, y6, y7⟩ := h'.atKn hlt
      have hi0 : (k : Int) < (L.length : Int) := by omega
      clear h h'
      generalize L[k].i = p0 at x0 y0
      generalize L[k].x = p1 at x1 y1
      generalize L[k].y = p2 at x2 y2
      generalize L[k].l = p3 at x3 y3
      generalize L[k].a = p4 at x4 y4
      generalize L[k].b = p5 at x5 y5
      generalize L[k].c = p6 at x6 y6
      generalize L[k].d = p7 at x7 y7
      go_wp2_with fail
      go_quiet (fail)
      go_wp2
      go_roundw
      case rel => exact ⟨k + 1, by omega, by go_num, _, (by first | rfl | exact World.drewN_drewN _ _ _)⟩
      case measure => simp [intOf]; omega
    · go_wp2
      go_ret
      exact ⟨rfl, below_of_drewN⟩
theorem foInBox_yes (i x y a b c d : Int) (h1 : a ≤ x) (h2 : x ≤ b) (h3 : c ≤ y) (h4 : y ≤ d) (w : World) :
    Calls Try.prog 14 #[.agg #[.int .i64 i, .int .i64 x, .int .i64 y], .agg #[.int .i64 a, .int .i64 b, .int .i64 c, .int .i64 d]] w fun e w' => e = .returned (.bool true) ∧ Below w.heap.size w w' := by
  go_enter Try.func14, Try.ntmps14
  go_wp2
  go_ret
  exact ⟨rfl, by (repeat' (first | exact Below.refl _ _ | apply Below.alloc | apply Below.setCell | apply Below.drew | apply below_draws)) <;> (first | omega | (simp <;> omega))⟩
theorem foWay_any (i x y px py : Int) (h1 : 0 ≤ x) (h2 : x ≤ 1000000) (h3 : 0 ≤ y) (h4 : y ≤ 1000000) (h5 : 0 ≤ px) (h6 : px ≤ 1000000) (h7 : 0 ≤ py) (h8 : py ≤ 1000000) (w : World) :
    Calls Try.prog 23 #[.agg #[.int .i64 i, .int .i64 x, .int .i64 y], .int .i64 px, .int .i64 py] w fun e w' => e = .returned (.int .i64 (wy x px + wy y py)) ∧ Below w.heap.size w w' := by
  by_cases ha : x < px
  · have ea : Hid (wy x px = px - x) := by show _ = _; unfold wy; rw [if_pos ha]
    have ha' : x - px < 0 := by omega
    by_cases hb : y < py
    · have eb : Hid (wy y py = py - y) := by show _ = _; unfold wy; rw [if_pos hb]
      have hb' : y - py < 0 := by omega
      go_enter Try.func23, Try.ntmps23
      go_wp2
      go_ret
      exact ⟨ret_int (by rw [ea.out, eb.out]; omega), by (repeat' (first | exact Below.refl _ _ | apply Below.alloc | apply Below.setCell | apply Below.drew | apply below_draws)) <;> (first | omega | (simp <;> omega))⟩
    · have eb : Hid (wy y py = y - py) := by show _ = _; unfold wy; rw [if_neg hb]
      have hb' : ¬ y - py < 0 := by omega
      go_enter Try.func23, Try.ntmps23
      go_wp2
      go_ret
      exact ⟨ret_int (by rw [ea.out, eb.out]; omega), by (repeat' (first | exact Below.refl _ _ | apply Below.alloc | apply Below.setCell | apply Below.drew | apply below_draws)) <;> (first | omega | (simp <;> omega))⟩
  · have ea : Hid (wy x px = x - px) := by show _ = _; unfold wy; rw [if_neg ha]
    have ha' : ¬ x - px < 0 := by omega
    by_cases hb : y < py
    · have eb : Hid (wy y py = py - y) := by show _ = _; unfold wy; rw [if_pos hb]
      have hb' : y - py < 0 := by omega
      go_enter Try.func23, Try.ntmps23
      go_wp2
      go_ret
      exact ⟨ret_int (by rw [ea.out, eb.out]; omega), by (repeat' (first | exact Below.refl _ _ | apply Below.alloc | apply Below.setCell | apply Below.drew | apply below_draws)) <;> (first | omega | (simp <;> omega))⟩
    · have eb : Hid (wy y py = y - py) := by show _ = _; unfold wy; rw [if_neg hb]
      have hb' : ¬ y - py < 0 := by omega
      go_enter Try.func23, Try.ntmps23
      go_wp2
      go_ret
      exact ⟨ret_int (by rw [ea.out, eb.out]), by (repeat' (first | exact Below.refl _ _ | apply Below.alloc | apply Below.setCell | apply Below.drew | apply below_draws)) <;> (first | omega | (simp <;> omega))⟩
theorem boxOk_yes (a b c d : Int) (h1 : 0 ≤ a) (h2 : a ≤ b) (h3 : b ≤ 999) (h4 : 0 ≤ c) (h5 : c ≤ d) (h6 : d ≤ 999) (w : World) :
    Calls Try.prog 13 #[.agg #[.int .i64 a, .int .i64 b, .int .i64 c, .int .i64 d]] w fun e w' => e = .returned (.bool true) ∧ Below w.heap.size w w' := by
  have w1 : wi a 0 999 = true := wi_true.2 (by omega)
  have w2 : wi b a 999 = true := wi_true.2 (by omega)
  have w3 : wi c 0 999 = true := wi_true.2 (by omega)
  have w4 : wi d c 999 = true := wi_true.2 (by omega)
  go_enter Try.func13, Try.ntmps13
  go_wp2_with (go_at_call 32; refine (within_any _ _ _ _).mono ?_; rintro e w' ⟨rfl, rfl⟩)
  all_goals (go_ret; exact ⟨by first | rfl | simp [*], (Below.refl _ _).alloc (Nat.le_refl _) _⟩)
end Go.Proofs.Ytbmbejomodkabaa
