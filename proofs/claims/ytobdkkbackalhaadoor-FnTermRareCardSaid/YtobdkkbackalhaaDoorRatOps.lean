/-
  RatOf, RatAdd, RatMul of both programs: the same fraction. Printed by gen_ratops.py.
-/
import Derived.Test.YtobdkkbackalhaaDoorLowest
namespace Go.Proofs.YtobdkkbackalhaaDoor
open Go.RowKit
set_option linter.unusedVariables false

def pickU (c : Bool) (u : Int) : Int := if c then u else 0
def pickD (c : Bool) (v : Int) : Int := if c then v else 1
theorem pickU_no {c : Bool} {u : Int} (h : c = false) : pickU c u = 0 := by subst h; rfl
theorem pickD_no {c : Bool} {u : Int} (h : c = false) : pickD c u = 1 := by subst h; rfl
theorem pickU_yes {c : Bool} {u : Int} (h : c = true) : pickU c u = u := by subst h; rfl
theorem pickD_yes {c : Bool} {u : Int} (h : c = true) : pickD c u = u := by subst h; rfl
def ofC (a b : Int) : Bool := wi a (-1000000000) 1000000000 && wi b (-1000000000) 1000000000 && !(b == 0)
def twoC (a b c d : Int) : Bool := ratOkB a b && ratOkB c d
theorem mul_bound99 {a t : Int} (h1 : -1000000000 ≤ a) (h2 : a ≤ 1000000000) (h3 : -1000000000 ≤ t) (h4 : t ≤ 1000000000) : -1000000000000000000 ≤ a * t ∧ a * t ≤ 1000000000000000000 := by
  rcases Int.le_total 0 t with h | h
  · have h5 := Int.mul_le_mul_of_nonneg_right h1 h
    have h6 := Int.mul_le_mul_of_nonneg_right h2 h
    omega
  · have h5 := Int.mul_le_mul_of_nonpos_right h1 h
    have h6 := Int.mul_le_mul_of_nonpos_right h2 h
    omega
theorem mul_pos9 {b d : Int} (h1 : 1 ≤ b) (h2 : 1 ≤ d) : 1 ≤ b * d := by
  have := Int.mul_le_mul_of_nonneg_right h1 (show 0 ≤ d by omega)
  omega

theorem ratOf_any (a b : Int) (w : World) (hL : Laid w) :
    Calls Tryd.prog 14 #[.int .i64 a, .int .i64 b] w fun e w' => e = .returned (.tuple #[.agg #[.int .i64 (pickU (ofC a b) (fitU a b)), .int .i64 (pickD (ofC a b) (fitD a b))], .bool (ofC a b && fitB a b)]) ∧ Below w.heap.size w w' := by
  by_cases h1 : wi a (-1000000000) 1000000000 = true
  · by_cases h2 : wi b (-1000000000) 1000000000 = true
    · by_cases h3 : b = 0
      · have h4 : (b == 0) = true := by simpa using h3
        clear h3
        obtain ⟨z0, z1⟩ := hL
        have hlt : 0 < w.heap.size := World.block_lt_of_cell? w _ z0
        have hc : ofC a b = false := by simp [ofC, h4]
        go_enter Tryd.func14, Tryd.ntmps14
        go_wp2_with (go_at_call 33; refine (within_any _ _ _ _).mono ?_; rintro e w' ⟨rfl, rfl⟩)
        refine bodyPost_ret (v := .tuple #[.agg #[.int .i64 (pickU (ofC a b) (fitU a b)), .int .i64 (pickD (ofC a b) (fitD a b))], .bool (ofC a b && fitB a b)]) (by simp [results, Tryd.results14, go_sem, pickU, pickD, hc]) rfl ⟨rfl, by (repeat' (first | exact Below.refl _ _ | apply Below.alloc | apply Below.setCell | apply Below.drew | apply below_draws)) <;> (first | omega | (simp <;> omega))⟩
      · have h4 : (b == 0) = false := by simpa using h3
        have hc : ofC a b = true := by simp [ofC, h1, h2, h3]
        obtain ⟨m1, m2⟩ := wi_true.1 h1
        obtain ⟨m3, m4⟩ := wi_true.1 h2
        go_enter Tryd.func14, Tryd.ntmps14
        go_wp2_with (go_at_call 33; refine (within_any _ _ _ _).mono ?_; rintro e w' ⟨rfl, rfl⟩)
        refine (lowest_any a b _ (by omega) (by omega) h3 (hL.below (B := w.heap.size) (by (repeat' (first | exact Below.refl _ _ | apply Below.alloc | apply Below.setCell | apply Below.drew | apply below_draws)) <;> (first | omega | (simp <;> omega))) hL.lt)).mono ?_
        rintro e w1 ⟨rfl, hb1⟩
        obtain ⟨c1, f1⟩ := bcell hb1
        have q0 : w1.cell? ⟨w.heap.size, 0, none⟩ = some (.int .i64 0) := (c1 _ _ (by simp)).trans (by simp [go_sem])
        have q1 : w1.cell? ⟨w.heap.size, 1, none⟩ = some (.int .i64 0) := (c1 _ _ (by simp)).trans (by simp [go_sem])
        have q2 : w1.frozen? ⟨w.heap.size, 0, none⟩ = false := (f1 _ _ (by simp)).trans (by simp [go_sem])
        have q3 : w1.frozen? ⟨w.heap.size, 1, none⟩ = false := (f1 _ _ (by simp)).trans (by simp [go_sem])
        have hz1 : w.heap.size < w1.heap.size := by have := hb1.size; simp at this; omega
        have hB1 : Below w.heap.size w w1 := by
          refine Below.trans ?_ (hb1.mono ?_)
          · exact (by (repeat' (first | exact Below.refl _ _ | apply Below.alloc | apply Below.setCell | apply Below.drew | apply below_draws)) <;> (first | omega | (simp <;> omega)))
          · first | omega | (simp <;> omega)
        clear c1 f1 hb1
        go_wp2
        refine bodyPost_ret (v := .tuple #[.agg #[.int .i64 (pickU (ofC a b) (fitU a b)), .int .i64 (pickD (ofC a b) (fitD a b))], .bool (ofC a b && fitB a b)]) (by simp [results, Tryd.results14, go_sem, pickU, pickD, hc, q0, q1]) rfl ⟨rfl, hB1.trans (by (repeat' (first | exact Below.refl _ _ | apply Below.alloc | apply Below.setCell | apply Below.drew | apply below_draws)) <;> (first | omega | (simp <;> omega)))⟩
    · have h2' : wi b (-1000000000) 1000000000 = false := by simpa using h2
      obtain ⟨z0, z1⟩ := hL
      have hlt : 0 < w.heap.size := World.block_lt_of_cell? w _ z0
      have hc : ofC a b = false := by simp [ofC, h2']
      go_enter Tryd.func14, Tryd.ntmps14
      go_wp2_with (go_at_call 33; refine (within_any _ _ _ _).mono ?_; rintro e w' ⟨rfl, rfl⟩)
      refine bodyPost_ret (v := .tuple #[.agg #[.int .i64 (pickU (ofC a b) (fitU a b)), .int .i64 (pickD (ofC a b) (fitD a b))], .bool (ofC a b && fitB a b)]) (by simp [results, Tryd.results14, go_sem, pickU, pickD, hc]) rfl ⟨rfl, by (repeat' (first | exact Below.refl _ _ | apply Below.alloc | apply Below.setCell | apply Below.drew | apply below_draws)) <;> (first | omega | (simp <;> omega))⟩
  · have h1' : wi a (-1000000000) 1000000000 = false := by simpa using h1
    obtain ⟨z0, z1⟩ := hL
    have hlt : 0 < w.heap.size := World.block_lt_of_cell? w _ z0
    have hc : ofC a b = false := by simp [ofC, h1']
    go_enter Tryd.func14, Tryd.ntmps14
    go_wp2_with (go_at_call 33; refine (within_any _ _ _ _).mono ?_; rintro e w' ⟨rfl, rfl⟩)
    refine bodyPost_ret (v := .tuple #[.agg #[.int .i64 (pickU (ofC a b) (fitU a b)), .int .i64 (pickD (ofC a b) (fitD a b))], .bool (ofC a b && fitB a b)]) (by simp [results, Tryd.results14, go_sem, pickU, pickD, hc]) rfl ⟨rfl, by (repeat' (first | exact Below.refl _ _ | apply Below.alloc | apply Below.setCell | apply Below.drew | apply below_draws)) <;> (first | omega | (simp <;> omega))⟩

theorem specRatOf_any (a b : Int) (w : World) :
    Calls Tryd.prog 13 #[.int .i64 a, .int .i64 b] w fun e w' => e = .returned (.tuple #[.agg #[.int .i64 (pickU (ofC a b) (fitU a b)), .int .i64 (pickD (ofC a b) (fitD a b))], .bool (ofC a b && fitB a b)]) ∧ Below w.heap.size w w' := by
  by_cases h1 : wi a (-1000000000) 1000000000 = true
  · by_cases h2 : wi b (-1000000000) 1000000000 = true
    · by_cases h3 : b = 0
      · have h4 : (b == 0) = true := by simpa using h3
        clear h3
        have hc : ofC a b = false := by simp [ofC, h4]
        go_enter Tryd.func13, Tryd.ntmps13
        go_wp2_with (go_at_call 31; refine (l1In_any _ _ _ _).mono ?_; rintro e w' ⟨rfl, rfl⟩)
        refine bodyPost_ret (v := .tuple #[.agg #[.int .i64 (pickU (ofC a b) (fitU a b)), .int .i64 (pickD (ofC a b) (fitD a b))], .bool (ofC a b && fitB a b)]) (by simp [results, Tryd.results13, go_sem, pickU, pickD, hc]) rfl ⟨rfl, by (repeat' (first | exact Below.refl _ _ | apply Below.alloc | apply Below.setCell | apply Below.drew | apply below_draws)) <;> (first | omega | (simp <;> omega))⟩
      · have h4 : (b == 0) = false := by simpa using h3
        have hc : ofC a b = true := by simp [ofC, h1, h2, h3]
        obtain ⟨m1, m2⟩ := wi_true.1 h1
        obtain ⟨m3, m4⟩ := wi_true.1 h2
        go_enter Tryd.func13, Tryd.ntmps13
        go_wp2_with (go_at_call 31; refine (l1In_any _ _ _ _).mono ?_; rintro e w' ⟨rfl, rfl⟩)
        refine (l10Fit_any a b _ (by omega) (by omega) h3).mono ?_
        rintro e w1 ⟨rfl, hb1⟩
        obtain ⟨c1, f1⟩ := bcell hb1
        have q0 : w1.cell? ⟨w.heap.size, 0, none⟩ = some (.int .i64 0) := (c1 _ _ (by simp)).trans (by simp [go_sem])
        have q1 : w1.cell? ⟨w.heap.size, 1, none⟩ = some (.int .i64 0) := (c1 _ _ (by simp)).trans (by simp [go_sem])
        have q2 : w1.frozen? ⟨w.heap.size, 0, none⟩ = false := (f1 _ _ (by simp)).trans (by simp [go_sem])
        have q3 : w1.frozen? ⟨w.heap.size, 1, none⟩ = false := (f1 _ _ (by simp)).trans (by simp [go_sem])
        have hz1 : w.heap.size < w1.heap.size := by have := hb1.size; simp at this; omega
        have hB1 : Below w.heap.size w w1 := by
          refine Below.trans ?_ (hb1.mono ?_)
          · exact (by (repeat' (first | exact Below.refl _ _ | apply Below.alloc | apply Below.setCell | apply Below.drew | apply below_draws)) <;> (first | omega | (simp <;> omega)))
          · first | omega | (simp <;> omega)
        clear c1 f1 hb1
        go_wp2
        refine bodyPost_ret (v := .tuple #[.agg #[.int .i64 (pickU (ofC a b) (fitU a b)), .int .i64 (pickD (ofC a b) (fitD a b))], .bool (ofC a b && fitB a b)]) (by simp [results, Tryd.results13, go_sem, pickU, pickD, hc, q0, q1]) rfl ⟨rfl, hB1.trans (by (repeat' (first | exact Below.refl _ _ | apply Below.alloc | apply Below.setCell | apply Below.drew | apply below_draws)) <;> (first | omega | (simp <;> omega)))⟩
    · have h2' : wi b (-1000000000) 1000000000 = false := by simpa using h2
      have hc : ofC a b = false := by simp [ofC, h2']
      go_enter Tryd.func13, Tryd.ntmps13
      go_wp2_with (go_at_call 31; refine (l1In_any _ _ _ _).mono ?_; rintro e w' ⟨rfl, rfl⟩)
      refine bodyPost_ret (v := .tuple #[.agg #[.int .i64 (pickU (ofC a b) (fitU a b)), .int .i64 (pickD (ofC a b) (fitD a b))], .bool (ofC a b && fitB a b)]) (by simp [results, Tryd.results13, go_sem, pickU, pickD, hc]) rfl ⟨rfl, by (repeat' (first | exact Below.refl _ _ | apply Below.alloc | apply Below.setCell | apply Below.drew | apply below_draws)) <;> (first | omega | (simp <;> omega))⟩
  · have h1' : wi a (-1000000000) 1000000000 = false := by simpa using h1
    have hc : ofC a b = false := by simp [ofC, h1']
    go_enter Tryd.func13, Tryd.ntmps13
    go_wp2_with (go_at_call 31; refine (l1In_any _ _ _ _).mono ?_; rintro e w' ⟨rfl, rfl⟩)
    refine bodyPost_ret (v := .tuple #[.agg #[.int .i64 (pickU (ofC a b) (fitU a b)), .int .i64 (pickD (ofC a b) (fitD a b))], .bool (ofC a b && fitB a b)]) (by simp [results, Tryd.results13, go_sem, pickU, pickD, hc]) rfl ⟨rfl, by (repeat' (first | exact Below.refl _ _ | apply Below.alloc | apply Below.setCell | apply Below.drew | apply below_draws)) <;> (first | omega | (simp <;> omega))⟩

theorem ratAdd_any (a b c d : Int) (w : World) (hL : Laid w) :
    Calls Tryd.prog 18 #[.agg #[.int .i64 a, .int .i64 b], .agg #[.int .i64 c, .int .i64 d]] w fun e w' => e = .returned (.tuple #[.agg #[.int .i64 (pickU (twoC a b c d) (fitU (a * d + c * b) (b * d))), .int .i64 (pickD (twoC a b c d) (fitD (a * d + c * b) (b * d)))], .bool (twoC a b c d && fitB (a * d + c * b) (b * d))]) ∧ Below w.heap.size w w' := by
  have hlt := hL.lt
  have hb0 : Below w.heap.size w (((w.alloc (.cells #[.int .i64 a, .int .i64 b] 23)).alloc (.cells #[.int .i64 c, .int .i64 d] 23)).alloc (.cells #[.int .i64 0, .int .i64 0] 23)) := by (repeat' (first | exact Below.refl _ _ | apply Below.alloc | apply Below.setCell | apply Below.drew | apply below_draws)) <;> (first | omega | (simp <;> omega))
  have hs0 : (((w.alloc (.cells #[.int .i64 a, .int .i64 b] 23)).alloc (.cells #[.int .i64 c, .int .i64 d] 23)).alloc (.cells #[.int .i64 0, .int .i64 0] 23)).heap.size = w.heap.size + 3 := by simp
  go_enter Tryd.func18, Tryd.ntmps18
  go_wp2_with fail
  generalize hW : (((w.alloc (.cells #[.int .i64 a, .int .i64 b] 23)).alloc (.cells #[.int .i64 c, .int .i64 d] 23)).alloc (.cells #[.int .i64 0, .int .i64 0] 23)) = W0 at hb0 hs0 ⊢
  have W0c00 : W0.cell? ⟨w.heap.size, 0, none⟩ = some (.int .i64 a) := by rw [← hW]; simp [go_sem]
  have W0c01 : W0.cell? ⟨w.heap.size, 1, none⟩ = some (.int .i64 b) := by rw [← hW]; simp [go_sem]
  have W0c10 : W0.cell? ⟨w.heap.size + 1, 0, none⟩ = some (.int .i64 c) := by rw [← hW]; simp [go_sem]
  have W0c11 : W0.cell? ⟨w.heap.size + 1, 1, none⟩ = some (.int .i64 d) := by rw [← hW]; simp [go_sem]
  have W0c20 : W0.cell? ⟨w.heap.size + 2, 0, none⟩ = some (.int .i64 0) := by rw [← hW]; simp [go_sem]
  have W0c21 : W0.cell? ⟨w.heap.size + 2, 1, none⟩ = some (.int .i64 0) := by rw [← hW]; simp [go_sem]
  have W0f0 : W0.frozen? ⟨w.heap.size + 2, 0, none⟩ = false := by rw [← hW]; simp [go_sem]
  have W0f1 : W0.frozen? ⟨w.heap.size + 2, 1, none⟩ = false := by rw [← hW]; simp [go_sem]
  clear hW
  refine (ratOk_any _ _ _).mono ?_
  rintro e w1 ⟨rfl, hb1⟩
  obtain ⟨c1, f1⟩ := bcell hb1
  have hz1 := hb1.size
  have w1c00 : w1.cell? ⟨w.heap.size, 0, none⟩ = some (.int .i64 a) := (c1 _ _ (by omega)).trans W0c00
  have w1c01 : w1.cell? ⟨w.heap.size, 1, none⟩ = some (.int .i64 b) := (c1 _ _ (by omega)).trans W0c01
  have w1c10 : w1.cell? ⟨w.heap.size + 1, 0, none⟩ = some (.int .i64 c) := (c1 _ _ (by omega)).trans W0c10
  have w1c11 : w1.cell? ⟨w.heap.size + 1, 1, none⟩ = some (.int .i64 d) := (c1 _ _ (by omega)).trans W0c11
  have w1c20 : w1.cell? ⟨w.heap.size + 2, 0, none⟩ = some (.int .i64 0) := (c1 _ _ (by omega)).trans W0c20
  have w1c21 : w1.cell? ⟨w.heap.size + 2, 1, none⟩ = some (.int .i64 0) := (c1 _ _ (by omega)).trans W0c21
  have w1f0 : w1.frozen? ⟨w.heap.size + 2, 0, none⟩ = false := (f1 _ _ (by omega)).trans W0f0
  have w1f1 : w1.frozen? ⟨w.heap.size + 2, 1, none⟩ = false := (f1 _ _ (by omega)).trans W0f1
  have hB1 : Below w.heap.size w w1 := hb0.trans (hb1.mono (by omega))
  clear c1 f1
  by_cases h1 : ratOkB a b = true
  · go_wp2_with fail
    refine (ratOk_any _ _ _).mono ?_
    rintro e w2 ⟨rfl, hb2⟩
    obtain ⟨c2, f2⟩ := bcell hb2
    have hz2 := hb2.size
    have w2c00 : w2.cell? ⟨w.heap.size, 0, none⟩ = some (.int .i64 a) := (c2 _ _ (by omega)).trans w1c00
    have w2c01 : w2.cell? ⟨w.heap.size, 1, none⟩ = some (.int .i64 b) := (c2 _ _ (by omega)).trans w1c01
    have w2c10 : w2.cell? ⟨w.heap.size + 1, 0, none⟩ = some (.int .i64 c) := (c2 _ _ (by omega)).trans w1c10
    have w2c11 : w2.cell? ⟨w.heap.size + 1, 1, none⟩ = some (.int .i64 d) := (c2 _ _ (by omega)).trans w1c11
    have w2c20 : w2.cell? ⟨w.heap.size + 2, 0, none⟩ = some (.int .i64 0) := (c2 _ _ (by omega)).trans w1c20
    have w2c21 : w2.cell? ⟨w.heap.size + 2, 1, none⟩ = some (.int .i64 0) := (c2 _ _ (by omega)).trans w1c21
    have w2f0 : w2.frozen? ⟨w.heap.size + 2, 0, none⟩ = false := (f2 _ _ (by omega)).trans w1f0
    have w2f1 : w2.frozen? ⟨w.heap.size + 2, 1, none⟩ = false := (f2 _ _ (by omega)).trans w1f1
    have hB2 : Below w.heap.size w w2 := hB1.trans (hb2.mono (by omega))
    have hn2 : w.heap.size + 3 ≤ w2.heap.size := by omega
    clear c2 f2 hb1 hb2 hb0 hB1
    have hL2 : Laid w2 := hL.below hB2 hlt
    have z0 := hL2.1
    have z1 := hL2.2
    by_cases h2 : ratOkB c d = true
    · obtain ⟨⟨ha1, ha2⟩, ⟨hb1, hb2⟩, _⟩ := ratOkB_iff.1 h1
      obtain ⟨⟨hc1, hc2⟩, ⟨hd1, hd2⟩, _⟩ := ratOkB_iff.1 h2
      obtain ⟨m1, m2⟩ := mul_bound9 ha1 ha2 hd1 hd2
      obtain ⟨m3, m4⟩ := mul_bound9 hc1 hc2 hb1 hb2
      obtain ⟨m5, m6⟩ := mul_bound9 (show -1000000000 ≤ b by omega) hb2 hd1 hd2
      obtain ⟨m7, m8⟩ := mul_bound99 ha1 ha2 hc1 hc2
      have m9 := mul_pos9 hb1 hd1
      have hc : twoC a b c d = true := by simp [twoC, h1, h2]
      clear ha1 ha2 hb1 hb2 hc1 hc2 hd1 hd2 hs0 hz1 hz2
      go_wp2_with fail
      refine (lowest_any _ _ _ (by omega) (by omega) (by omega) hL2).mono ?_
      rintro e w3 ⟨rfl, hb3⟩
      obtain ⟨c3, f3⟩ := bcell hb3
      have hz3 := hb3.size
      have q0 : w3.cell? ⟨w.heap.size + 2, 0, none⟩ = some (.int .i64 0) := (c3 _ _ (by omega)).trans w2c20
      have q1 : w3.cell? ⟨w.heap.size + 2, 1, none⟩ = some (.int .i64 0) := (c3 _ _ (by omega)).trans w2c21
      have q2 : w3.frozen? ⟨w.heap.size + 2, 0, none⟩ = false := (f3 _ _ (by omega)).trans w2f0
      have q3 : w3.frozen? ⟨w.heap.size + 2, 1, none⟩ = false := (f3 _ _ (by omega)).trans w2f1
      have hB3 : Below w.heap.size w w3 := hB2.trans (hb3.mono (by omega))
      clear c3 f3 hb3 m1 m2 m3 m4 m5 m6 m7 m8 m9
      go_wp2
      refine bodyPost_ret (v := .tuple #[.agg #[.int .i64 (pickU (twoC a b c d) (fitU (a * d + c * b) (b * d))), .int .i64 (pickD (twoC a b c d) (fitD (a * d + c * b) (b * d)))], .bool (twoC a b c d && fitB (a * d + c * b) (b * d))]) (by simp [results, Tryd.results18, go_sem, pickU, pickD, hc, q0, q1]) rfl ⟨rfl, hB3.trans (by (repeat' (first | exact Below.refl _ _ | apply Below.alloc | apply Below.setCell | apply Below.drew | apply below_draws)) <;> (first | omega | (simp <;> omega)))⟩
    · have h2' : ratOkB c d = false := by simpa using h2
      have hc : twoC a b c d = false := by simp [twoC, h2']
      go_wp2_with fail
      refine bodyPost_ret (v := .tuple #[.agg #[.int .i64 (pickU (twoC a b c d) (fitU (a * d + c * b) (b * d))), .int .i64 (pickD (twoC a b c d) (fitD (a * d + c * b) (b * d)))], .bool (twoC a b c d && fitB (a * d + c * b) (b * d))]) (by simp [results, Tryd.results18, go_sem, pickU, pickD, hc, w2c20, w2c21]) rfl ⟨rfl, hB2.trans (by (repeat' (first | exact Below.refl _ _ | apply Below.alloc | apply Below.setCell | apply Below.drew | apply below_draws)) <;> (first | omega | (simp <;> omega)))⟩
  · have h1' : ratOkB a b = false := by simpa using h1
    have hc : twoC a b c d = false := by simp [twoC, h1']
    have hL1 : Laid w1 := hL.below hB1 hlt
    have z0 := hL1.1
    have z1 := hL1.2
    go_wp2_with fail
    refine bodyPost_ret (v := .tuple #[.agg #[.int .i64 (pickU (twoC a b c d) (fitU (a * d + c * b) (b * d))), .int .i64 (pickD (twoC a b c d) (fitD (a * d + c * b) (b * d)))], .bool (twoC a b c d && fitB (a * d + c * b) (b * d))]) (by simp [results, Tryd.results18, go_sem, pickU, pickD, hc, w1c20, w1c21]) rfl ⟨rfl, hB1.trans (by (repeat' (first | exact Below.refl _ _ | apply Below.alloc | apply Below.setCell | apply Below.drew | apply below_draws)) <;> (first | omega | (simp <;> omega)))⟩

theorem ratMul_any (a b c d : Int) (w : World) (hL : Laid w) :
    Calls Tryd.prog 20 #[.agg #[.int .i64 a, .int .i64 b], .agg #[.int .i64 c, .int .i64 d]] w fun e w' => e = .returned (.tuple #[.agg #[.int .i64 (pickU (twoC a b c d) (fitU (a * c) (b * d))), .int .i64 (pickD (twoC a b c d) (fitD (a * c) (b * d)))], .bool (twoC a b c d && fitB (a * c) (b * d))]) ∧ Below w.heap.size w w' := by
  have hlt := hL.lt
  have hb0 : Below w.heap.size w (((w.alloc (.cells #[.int .i64 a, .int .i64 b] 23)).alloc (.cells #[.int .i64 c, .int .i64 d] 23)).alloc (.cells #[.int .i64 0, .int .i64 0] 23)) := by (repeat' (first | exact Below.refl _ _ | apply Below.alloc | apply Below.setCell | apply Below.drew | apply below_draws)) <;> (first | omega | (simp <;> omega))
  have hs0 : (((w.alloc (.cells #[.int .i64 a, .int .i64 b] 23)).alloc (.cells #[.int .i64 c, .int .i64 d] 23)).alloc (.cells #[.int .i64 0, .int .i64 0] 23)).heap.size = w.heap.size + 3 := by simp
  go_enter Tryd.func20, Tryd.ntmps20
  go_wp2_with fail
  generalize hW : (((w.alloc (.cells #[.int .i64 a, .int .i64 b] 23)).alloc (.cells #[.int .i64 c, .int .i64 d] 23)).alloc (.cells #[.int .i64 0, .int .i64 0] 23)) = W0 at hb0 hs0 ⊢
  have W0c00 : W0.cell? ⟨w.heap.size, 0, none⟩ = some (.int .i64 a) := by rw [← hW]; simp [go_sem]
  have W0c01 : W0.cell? ⟨w.heap.size, 1, none⟩ = some (.int .i64 b) := by rw [← hW]; simp [go_sem]
  have W0c10 : W0.cell? ⟨w.heap.size + 1, 0, none⟩ = some (.int .i64 c) := by rw [← hW]; simp [go_sem]
  have W0c11 : W0.cell? ⟨w.heap.size + 1, 1, none⟩ = some (.int .i64 d) := by rw [← hW]; simp [go_sem]
  have W0c20 : W0.cell? ⟨w.heap.size + 2, 0, none⟩ = some (.int .i64 0) := by rw [← hW]; simp [go_sem]
  have W0c21 : W0.cell? ⟨w.heap.size + 2, 1, none⟩ = some (.int .i64 0) := by rw [← hW]; simp [go_sem]
  have W0f0 : W0.frozen? ⟨w.heap.size + 2, 0, none⟩ = false := by rw [← hW]; simp [go_sem]
  have W0f1 : W0.frozen? ⟨w.heap.size + 2, 1, none⟩ = false := by rw [← hW]; simp [go_sem]
  clear hW
  refine (ratOk_any _ _ _).mono ?_
  rintro e w1 ⟨rfl, hb1⟩
  obtain ⟨c1, f1⟩ := bcell hb1
  have hz1 := hb1.size
  have w1c00 : w1.cell? ⟨w.heap.size, 0, none⟩ = some (.int .i64 a) := (c1 _ _ (by omega)).trans W0c00
  have w1c01 : w1.cell? ⟨w.heap.size, 1, none⟩ = some (.int .i64 b) := (c1 _ _ (by omega)).trans W0c01
  have w1c10 : w1.cell? ⟨w.heap.size + 1, 0, none⟩ = some (.int .i64 c) := (c1 _ _ (by omega)).trans W0c10
  have w1c11 : w1.cell? ⟨w.heap.size + 1, 1, none⟩ = some (.int .i64 d) := (c1 _ _ (by omega)).trans W0c11
  have w1c20 : w1.cell? ⟨w.heap.size + 2, 0, none⟩ = some (.int .i64 0) := (c1 _ _ (by omega)).trans W0c20
  have w1c21 : w1.cell? ⟨w.heap.size + 2, 1, none⟩ = some (.int .i64 0) := (c1 _ _ (by omega)).trans W0c21
  have w1f0 : w1.frozen? ⟨w.heap.size + 2, 0, none⟩ = false := (f1 _ _ (by omega)).trans W0f0
  have w1f1 : w1.frozen? ⟨w.heap.size + 2, 1, none⟩ = false := (f1 _ _ (by omega)).trans W0f1
  have hB1 : Below w.heap.size w w1 := hb0.trans (hb1.mono (by omega))
  clear c1 f1
  by_cases h1 : ratOkB a b = true
  · go_wp2_with fail
    refine (ratOk_any _ _ _).mono ?_
    rintro e w2 ⟨rfl, hb2⟩
    obtain ⟨c2, f2⟩ := bcell hb2
    have hz2 := hb2.size
    have w2c00 : w2.cell? ⟨w.heap.size, 0, none⟩ = some (.int .i64 a) := (c2 _ _ (by omega)).trans w1c00
    have w2c01 : w2.cell? ⟨w.heap.size, 1, none⟩ = some (.int .i64 b) := (c2 _ _ (by omega)).trans w1c01
    have w2c10 : w2.cell? ⟨w.heap.size + 1, 0, none⟩ = some (.int .i64 c) := (c2 _ _ (by omega)).trans w1c10
    have w2c11 : w2.cell? ⟨w.heap.size + 1, 1, none⟩ = some (.int .i64 d) := (c2 _ _ (by omega)).trans w1c11
    have w2c20 : w2.cell? ⟨w.heap.size + 2, 0, none⟩ = some (.int .i64 0) := (c2 _ _ (by omega)).trans w1c20
    have w2c21 : w2.cell? ⟨w.heap.size + 2, 1, none⟩ = some (.int .i64 0) := (c2 _ _ (by omega)).trans w1c21
    have w2f0 : w2.frozen? ⟨w.heap.size + 2, 0, none⟩ = false := (f2 _ _ (by omega)).trans w1f0
    have w2f1 : w2.frozen? ⟨w.heap.size + 2, 1, none⟩ = false := (f2 _ _ (by omega)).trans w1f1
    have hB2 : Below w.heap.size w w2 := hB1.trans (hb2.mono (by omega))
    have hn2 : w.heap.size + 3 ≤ w2.heap.size := by omega
    clear c2 f2 hb1 hb2 hb0 hB1
    have hL2 : Laid w2 := hL.below hB2 hlt
    have z0 := hL2.1
    have z1 := hL2.2
    by_cases h2 : ratOkB c d = true
    · obtain ⟨⟨ha1, ha2⟩, ⟨hb1, hb2⟩, _⟩ := ratOkB_iff.1 h1
      obtain ⟨⟨hc1, hc2⟩, ⟨hd1, hd2⟩, _⟩ := ratOkB_iff.1 h2
      obtain ⟨m1, m2⟩ := mul_bound9 ha1 ha2 hd1 hd2
      obtain ⟨m3, m4⟩ := mul_bound9 hc1 hc2 hb1 hb2
      obtain ⟨m5, m6⟩ := mul_bound9 (show -1000000000 ≤ b by omega) hb2 hd1 hd2
      obtain ⟨m7, m8⟩ := mul_bound99 ha1 ha2 hc1 hc2
      have m9 := mul_pos9 hb1 hd1
      have hc : twoC a b c d = true := by simp [twoC, h1, h2]
      clear ha1 ha2 hb1 hb2 hc1 hc2 hd1 hd2 hs0 hz1 hz2
      go_wp2_with fail
      refine (lowest_any _ _ _ (by omega) (by omega) (by omega) hL2).mono ?_
      rintro e w3 ⟨rfl, hb3⟩
      obtain ⟨c3, f3⟩ := bcell hb3
      have hz3 := hb3.size
      have q0 : w3.cell? ⟨w.heap.size + 2, 0, none⟩ = some (.int .i64 0) := (c3 _ _ (by omega)).trans w2c20
      have q1 : w3.cell? ⟨w.heap.size + 2, 1, none⟩ = some (.int .i64 0) := (c3 _ _ (by omega)).trans w2c21
      have q2 : w3.frozen? ⟨w.heap.size + 2, 0, none⟩ = false := (f3 _ _ (by omega)).trans w2f0
      have q3 : w3.frozen? ⟨w.heap.size + 2, 1, none⟩ = false := (f3 _ _ (by omega)).trans w2f1
      have hB3 : Below w.heap.size w w3 := hB2.trans (hb3.mono (by omega))
      clear c3 f3 hb3 m1 m2 m3 m4 m5 m6 m7 m8 m9
      go_wp2
      refine bodyPost_ret (v := .tuple #[.agg #[.int .i64 (pickU (twoC a b c d) (fitU (a * c) (b * d))), .int .i64 (pickD (twoC a b c d) (fitD (a * c) (b * d)))], .bool (twoC a b c d && fitB (a * c) (b * d))]) (by simp [results, Tryd.results20, go_sem, pickU, pickD, hc, q0, q1]) rfl ⟨rfl, hB3.trans (by (repeat' (first | exact Below.refl _ _ | apply Below.alloc | apply Below.setCell | apply Below.drew | apply below_draws)) <;> (first | omega | (simp <;> omega)))⟩
    · have h2' : ratOkB c d = false := by simpa using h2
      have hc : twoC a b c d = false := by simp [twoC, h2']
      go_wp2_with fail
      refine bodyPost_ret (v := .tuple #[.agg #[.int .i64 (pickU (twoC a b c d) (fitU (a * c) (b * d))), .int .i64 (pickD (twoC a b c d) (fitD (a * c) (b * d)))], .bool (twoC a b c d && fitB (a * c) (b * d))]) (by simp [results, Tryd.results20, go_sem, pickU, pickD, hc, w2c20, w2c21]) rfl ⟨rfl, hB2.trans (by (repeat' (first | exact Below.refl _ _ | apply Below.alloc | apply Below.setCell | apply Below.drew | apply below_draws)) <;> (first | omega | (simp <;> omega)))⟩
  · have h1' : ratOkB a b = false := by simpa using h1
    have hc : twoC a b c d = false := by simp [twoC, h1']
    have hL1 : Laid w1 := hL.below hB1 hlt
    have z0 := hL1.1
    have z1 := hL1.2
    go_wp2_with fail
    refine bodyPost_ret (v := .tuple #[.agg #[.int .i64 (pickU (twoC a b c d) (fitU (a * c) (b * d))), .int .i64 (pickD (twoC a b c d) (fitD (a * c) (b * d)))], .bool (twoC a b c d && fitB (a * c) (b * d))]) (by simp [results, Tryd.results20, go_sem, pickU, pickD, hc, w1c20, w1c21]) rfl ⟨rfl, hB1.trans (by (repeat' (first | exact Below.refl _ _ | apply Below.alloc | apply Below.setCell | apply Below.drew | apply below_draws)) <;> (first | omega | (simp <;> omega)))⟩

theorem specRatAdd_any (a b c d : Int) (w : World) :
    Calls Tryd.prog 16 #[.agg #[.int .i64 a, .int .i64 b], .agg #[.int .i64 c, .int .i64 d]] w fun e w' => e = .returned (.tuple #[.agg #[.int .i64 (pickU (twoC a b c d) (fitU (a * d + c * b) (b * d))), .int .i64 (pickD (twoC a b c d) (fitD (a * d + c * b) (b * d)))], .bool (twoC a b c d && fitB (a * d + c * b) (b * d))]) ∧ Below w.heap.size w w' := by
  have hb0 : Below w.heap.size w (((w.alloc (.cells #[.int .i64 a, .int .i64 b] 23)).alloc (.cells #[.int .i64 c, .int .i64 d] 23)).alloc (.cells #[.int .i64 0, .int .i64 0] 23)) := by (repeat' (first | exact Below.refl _ _ | apply Below.alloc | apply Below.setCell | apply Below.drew | apply below_draws)) <;> (first | omega | (simp <;> omega))
  have hs0 : (((w.alloc (.cells #[.int .i64 a, .int .i64 b] 23)).alloc (.cells #[.int .i64 c, .int .i64 d] 23)).alloc (.cells #[.int .i64 0, .int .i64 0] 23)).heap.size = w.heap.size + 3 := by simp
  go_enter Tryd.func16, Tryd.ntmps16
  go_wp2_with fail
  generalize hW : (((w.alloc (.cells #[.int .i64 a, .int .i64 b] 23)).alloc (.cells #[.int .i64 c, .int .i64 d] 23)).alloc (.cells #[.int .i64 0, .int .i64 0] 23)) = W0 at hb0 hs0 ⊢
  have W0c00 : W0.cell? ⟨w.heap.size, 0, none⟩ = some (.int .i64 a) := by rw [← hW]; simp [go_sem]
  have W0c01 : W0.cell? ⟨w.heap.size, 1, none⟩ = some (.int .i64 b) := by rw [← hW]; simp [go_sem]
  have W0c10 : W0.cell? ⟨w.heap.size + 1, 0, none⟩ = some (.int .i64 c) := by rw [← hW]; simp [go_sem]
  have W0c11 : W0.cell? ⟨w.heap.size + 1, 1, none⟩ = some (.int .i64 d) := by rw [← hW]; simp [go_sem]
  have W0c20 : W0.cell? ⟨w.heap.size + 2, 0, none⟩ = some (.int .i64 0) := by rw [← hW]; simp [go_sem]
  have W0c21 : W0.cell? ⟨w.heap.size + 2, 1, none⟩ = some (.int .i64 0) := by rw [← hW]; simp [go_sem]
  have W0f0 : W0.frozen? ⟨w.heap.size + 2, 0, none⟩ = false := by rw [← hW]; simp [go_sem]
  have W0f1 : W0.frozen? ⟨w.heap.size + 2, 1, none⟩ = false := by rw [← hW]; simp [go_sem]
  clear hW
  refine (l10Ok_any _ _ _).mono ?_
  rintro e w1 ⟨rfl, hb1⟩
  obtain ⟨c1, f1⟩ := bcell hb1
  have hz1 := hb1.size
  have w1c00 : w1.cell? ⟨w.heap.size, 0, none⟩ = some (.int .i64 a) := (c1 _ _ (by omega)).trans W0c00
  have w1c01 : w1.cell? ⟨w.heap.size, 1, none⟩ = some (.int .i64 b) := (c1 _ _ (by omega)).trans W0c01
  have w1c10 : w1.cell? ⟨w.heap.size + 1, 0, none⟩ = some (.int .i64 c) := (c1 _ _ (by omega)).trans W0c10
  have w1c11 : w1.cell? ⟨w.heap.size + 1, 1, none⟩ = some (.int .i64 d) := (c1 _ _ (by omega)).trans W0c11
  have w1c20 : w1.cell? ⟨w.heap.size + 2, 0, none⟩ = some (.int .i64 0) := (c1 _ _ (by omega)).trans W0c20
  have w1c21 : w1.cell? ⟨w.heap.size + 2, 1, none⟩ = some (.int .i64 0) := (c1 _ _ (by omega)).trans W0c21
  have w1f0 : w1.frozen? ⟨w.heap.size + 2, 0, none⟩ = false := (f1 _ _ (by omega)).trans W0f0
  have w1f1 : w1.frozen? ⟨w.heap.size + 2, 1, none⟩ = false := (f1 _ _ (by omega)).trans W0f1
  have hB1 : Below w.heap.size w w1 := hb0.trans (hb1.mono (by omega))
  clear c1 f1
  by_cases h1 : ratOkB a b = true
  · go_wp2_with fail
    refine (l10Ok_any _ _ _).mono ?_
    rintro e w2 ⟨rfl, hb2⟩
    obtain ⟨c2, f2⟩ := bcell hb2
    have hz2 := hb2.size
    have w2c00 : w2.cell? ⟨w.heap.size, 0, none⟩ = some (.int .i64 a) := (c2 _ _ (by omega)).trans w1c00
    have w2c01 : w2.cell? ⟨w.heap.size, 1, none⟩ = some (.int .i64 b) := (c2 _ _ (by omega)).trans w1c01
    have w2c10 : w2.cell? ⟨w.heap.size + 1, 0, none⟩ = some (.int .i64 c) := (c2 _ _ (by omega)).trans w1c10
    have w2c11 : w2.cell? ⟨w.heap.size + 1, 1, none⟩ = some (.int .i64 d) := (c2 _ _ (by omega)).trans w1c11
    have w2c20 : w2.cell? ⟨w.heap.size + 2, 0, none⟩ = some (.int .i64 0) := (c2 _ _ (by omega)).trans w1c20
    have w2c21 : w2.cell? ⟨w.heap.size + 2, 1, none⟩ = some (.int .i64 0) := (c2 _ _ (by omega)).trans w1c21
    have w2f0 : w2.frozen? ⟨w.heap.size + 2, 0, none⟩ = false := (f2 _ _ (by omega)).trans w1f0
    have w2f1 : w2.frozen? ⟨w.heap.size + 2, 1, none⟩ = false := (f2 _ _ (by omega)).trans w1f1
    have hB2 : Below w.heap.size w w2 := hB1.trans (hb2.mono (by omega))
    have hn2 : w.heap.size + 3 ≤ w2.heap.size := by omega
    clear c2 f2 hb1 hb2 hb0 hB1
    by_cases h2 : ratOkB c d = true
    · obtain ⟨⟨ha1, ha2⟩, ⟨hb1, hb2⟩, _⟩ := ratOkB_iff.1 h1
      obtain ⟨⟨hc1, hc2⟩, ⟨hd1, hd2⟩, _⟩ := ratOkB_iff.1 h2
      obtain ⟨m1, m2⟩ := mul_bound9 ha1 ha2 hd1 hd2
      obtain ⟨m3, m4⟩ := mul_bound9 hc1 hc2 hb1 hb2
      obtain ⟨m5, m6⟩ := mul_bound9 (show -1000000000 ≤ b by omega) hb2 hd1 hd2
      obtain ⟨m7, m8⟩ := mul_bound99 ha1 ha2 hc1 hc2
      have m9 := mul_pos9 hb1 hd1
      have hc : twoC a b c d = true := by simp [twoC, h1, h2]
      clear ha1 ha2 hb1 hb2 hc1 hc2 hd1 hd2 hs0 hz1 hz2
      go_wp2_with fail
      refine (l10Fit_any _ _ _ (by omega) (by omega) (by omega)).mono ?_
      rintro e w3 ⟨rfl, hb3⟩
      obtain ⟨c3, f3⟩ := bcell hb3
      have hz3 := hb3.size
      have q0 : w3.cell? ⟨w.heap.size + 2, 0, none⟩ = some (.int .i64 0) := (c3 _ _ (by omega)).trans w2c20
      have q1 : w3.cell? ⟨w.heap.size + 2, 1, none⟩ = some (.int .i64 0) := (c3 _ _ (by omega)).trans w2c21
      have q2 : w3.frozen? ⟨w.heap.size + 2, 0, none⟩ = false := (f3 _ _ (by omega)).trans w2f0
      have q3 : w3.frozen? ⟨w.heap.size + 2, 1, none⟩ = false := (f3 _ _ (by omega)).trans w2f1
      have hB3 : Below w.heap.size w w3 := hB2.trans (hb3.mono (by omega))
      clear c3 f3 hb3 m1 m2 m3 m4 m5 m6 m7 m8 m9
      go_wp2
      refine bodyPost_ret (v := .tuple #[.agg #[.int .i64 (pickU (twoC a b c d) (fitU (a * d + c * b) (b * d))), .int .i64 (pickD (twoC a b c d) (fitD (a * d + c * b) (b * d)))], .bool (twoC a b c d && fitB (a * d + c * b) (b * d))]) (by simp [results, Tryd.results16, go_sem, pickU, pickD, hc, q0, q1]) rfl ⟨rfl, hB3.trans (by (repeat' (first | exact Below.refl _ _ | apply Below.alloc | apply Below.setCell | apply Below.drew | apply below_draws)) <;> (first | omega | (simp <;> omega)))⟩
    · have h2' : ratOkB c d = false := by simpa using h2
      have hc : twoC a b c d = false := by simp [twoC, h2']
      go_wp2_with fail
      refine bodyPost_ret (v := .tuple #[.agg #[.int .i64 (pickU (twoC a b c d) (fitU (a * d + c * b) (b * d))), .int .i64 (pickD (twoC a b c d) (fitD (a * d + c * b) (b * d)))], .bool (twoC a b c d && fitB (a * d + c * b) (b * d))]) (by simp [results, Tryd.results16, go_sem, pickU, pickD, hc, w2c20, w2c21]) rfl ⟨rfl, hB2.trans (by (repeat' (first | exact Below.refl _ _ | apply Below.alloc | apply Below.setCell | apply Below.drew | apply below_draws)) <;> (first | omega | (simp <;> omega)))⟩
  · have h1' : ratOkB a b = false := by simpa using h1
    have hc : twoC a b c d = false := by simp [twoC, h1']
    go_wp2_with fail
    refine bodyPost_ret (v := .tuple #[.agg #[.int .i64 (pickU (twoC a b c d) (fitU (a * d + c * b) (b * d))), .int .i64 (pickD (twoC a b c d) (fitD (a * d + c * b) (b * d)))], .bool (twoC a b c d && fitB (a * d + c * b) (b * d))]) (by simp [results, Tryd.results16, go_sem, pickU, pickD, hc, w1c20, w1c21]) rfl ⟨rfl, hB1.trans (by (repeat' (first | exact Below.refl _ _ | apply Below.alloc | apply Below.setCell | apply Below.drew | apply below_draws)) <;> (first | omega | (simp <;> omega)))⟩

theorem specRatMul_any (a b c d : Int) (w : World) :
    Calls Tryd.prog 19 #[.agg #[.int .i64 a, .int .i64 b], .agg #[.int .i64 c, .int .i64 d]] w fun e w' => e = .returned (.tuple #[.agg #[.int .i64 (pickU (twoC a b c d) (fitU (a * c) (b * d))), .int .i64 (pickD (twoC a b c d) (fitD (a * c) (b * d)))], .bool (twoC a b c d && fitB (a * c) (b * d))]) ∧ Below w.heap.size w w' := by
  have hb0 : Below w.heap.size w (((w.alloc (.cells #[.int .i64 a, .int .i64 b] 23)).alloc (.cells #[.int .i64 c, .int .i64 d] 23)).alloc (.cells #[.int .i64 0, .int .i64 0] 23)) := by (repeat' (first | exact Below.refl _ _ | apply Below.alloc | apply Below.setCell | apply Below.drew | apply below_draws)) <;> (first | omega | (simp <;> omega))
  have hs0 : (((w.alloc (.cells #[.int .i64 a, .int .i64 b] 23)).alloc (.cells #[.int .i64 c, .int .i64 d] 23)).alloc (.cells #[.int .i64 0, .int .i64 0] 23)).heap.size = w.heap.size + 3 := by simp
  go_enter Tryd.func19, Tryd.ntmps19
  go_wp2_with fail
  generalize hW : (((w.alloc (.cells #[.int .i64 a, .int .i64 b] 23)).alloc (.cells #[.int .i64 c, .int .i64 d] 23)).alloc (.cells #[.int .i64 0, .int .i64 0] 23)) = W0 at hb0 hs0 ⊢
  have W0c00 : W0.cell? ⟨w.heap.size, 0, none⟩ = some (.int .i64 a) := by rw [← hW]; simp [go_sem]
  have W0c01 : W0.cell? ⟨w.heap.size, 1, none⟩ = some (.int .i64 b) := by rw [← hW]; simp [go_sem]
  have W0c10 : W0.cell? ⟨w.heap.size + 1, 0, none⟩ = some (.int .i64 c) := by rw [← hW]; simp [go_sem]
  have W0c11 : W0.cell? ⟨w.heap.size + 1, 1, none⟩ = some (.int .i64 d) := by rw [← hW]; simp [go_sem]
  have W0c20 : W0.cell? ⟨w.heap.size + 2, 0, none⟩ = some (.int .i64 0) := by rw [← hW]; simp [go_sem]
  have W0c21 : W0.cell? ⟨w.heap.size + 2, 1, none⟩ = some (.int .i64 0) := by rw [← hW]; simp [go_sem]
  have W0f0 : W0.frozen? ⟨w.heap.size + 2, 0, none⟩ = false := by rw [← hW]; simp [go_sem]
  have W0f1 : W0.frozen? ⟨w.heap.size + 2, 1, none⟩ = false := by rw [← hW]; simp [go_sem]
  clear hW
  refine (l10Ok_any _ _ _).mono ?_
  rintro e w1 ⟨rfl, hb1⟩
  obtain ⟨c1, f1⟩ := bcell hb1
  have hz1 := hb1.size
  have w1c00 : w1.cell? ⟨w.heap.size, 0, none⟩ = some (.int .i64 a) := (c1 _ _ (by omega)).trans W0c00
  have w1c01 : w1.cell? ⟨w.heap.size, 1, none⟩ = some (.int .i64 b) := (c1 _ _ (by omega)).trans W0c01
  have w1c10 : w1.cell? ⟨w.heap.size + 1, 0, none⟩ = some (.int .i64 c) := (c1 _ _ (by omega)).trans W0c10
  have w1c11 : w1.cell? ⟨w.heap.size + 1, 1, none⟩ = some (.int .i64 d) := (c1 _ _ (by omega)).trans W0c11
  have w1c20 : w1.cell? ⟨w.heap.size + 2, 0, none⟩ = some (.int .i64 0) := (c1 _ _ (by omega)).trans W0c20
  have w1c21 : w1.cell? ⟨w.heap.size + 2, 1, none⟩ = some (.int .i64 0) := (c1 _ _ (by omega)).trans W0c21
  have w1f0 : w1.frozen? ⟨w.heap.size + 2, 0, none⟩ = false := (f1 _ _ (by omega)).trans W0f0
  have w1f1 : w1.frozen? ⟨w.heap.size + 2, 1, none⟩ = false := (f1 _ _ (by omega)).trans W0f1
  have hB1 : Below w.heap.size w w1 := hb0.trans (hb1.mono (by omega))
  clear c1 f1
  by_cases h1 : ratOkB a b = true
  · go_wp2_with fail
    refine (l10Ok_any _ _ _).mono ?_
    rintro e w2 ⟨rfl, hb2⟩
    obtain ⟨c2, f2⟩ := bcell hb2
    have hz2 := hb2.size
    have w2c00 : w2.cell? ⟨w.heap.size, 0, none⟩ = some (.int .i64 a) := (c2 _ _ (by omega)).trans w1c00
    have w2c01 : w2.cell? ⟨w.heap.size, 1, none⟩ = some (.int .i64 b) := (c2 _ _ (by omega)).trans w1c01
    have w2c10 : w2.cell? ⟨w.heap.size + 1, 0, none⟩ = some (.int .i64 c) := (c2 _ _ (by omega)).trans w1c10
    have w2c11 : w2.cell? ⟨w.heap.size + 1, 1, none⟩ = some (.int .i64 d) := (c2 _ _ (by omega)).trans w1c11
    have w2c20 : w2.cell? ⟨w.heap.size + 2, 0, none⟩ = some (.int .i64 0) := (c2 _ _ (by omega)).trans w1c20
    have w2c21 : w2.cell? ⟨w.heap.size + 2, 1, none⟩ = some (.int .i64 0) := (c2 _ _ (by omega)).trans w1c21
    have w2f0 : w2.frozen? ⟨w.heap.size + 2, 0, none⟩ = false := (f2 _ _ (by omega)).trans w1f0
    have w2f1 : w2.frozen? ⟨w.heap.size + 2, 1, none⟩ = false := (f2 _ _ (by omega)).trans w1f1
    have hB2 : Below w.heap.size w w2 := hB1.trans (hb2.mono (by omega))
    have hn2 : w.heap.size + 3 ≤ w2.heap.size := by omega
    clear c2 f2 hb1 hb2 hb0 hB1
    by_cases h2 : ratOkB c d = true
    · obtain ⟨⟨ha1, ha2⟩, ⟨hb1, hb2⟩, _⟩ := ratOkB_iff.1 h1
      obtain ⟨⟨hc1, hc2⟩, ⟨hd1, hd2⟩, _⟩ := ratOkB_iff.1 h2
      obtain ⟨m1, m2⟩ := mul_bound9 ha1 ha2 hd1 hd2
      obtain ⟨m3, m4⟩ := mul_bound9 hc1 hc2 hb1 hb2
      obtain ⟨m5, m6⟩ := mul_bound9 (show -1000000000 ≤ b by omega) hb2 hd1 hd2
      obtain ⟨m7, m8⟩ := mul_bound99 ha1 ha2 hc1 hc2
      have m9 := mul_pos9 hb1 hd1
      have hc : twoC a b c d = true := by simp [twoC, h1, h2]
      clear ha1 ha2 hb1 hb2 hc1 hc2 hd1 hd2 hs0 hz1 hz2
      go_wp2_with fail
      refine (l10Fit_any _ _ _ (by omega) (by omega) (by omega)).mono ?_
      rintro e w3 ⟨rfl, hb3⟩
      obtain ⟨c3, f3⟩ := bcell hb3
      have hz3 := hb3.size
      have q0 : w3.cell? ⟨w.heap.size + 2, 0, none⟩ = some (.int .i64 0) := (c3 _ _ (by omega)).trans w2c20
      have q1 : w3.cell? ⟨w.heap.size + 2, 1, none⟩ = some (.int .i64 0) := (c3 _ _ (by omega)).trans w2c21
      have q2 : w3.frozen? ⟨w.heap.size + 2, 0, none⟩ = false := (f3 _ _ (by omega)).trans w2f0
      have q3 : w3.frozen? ⟨w.heap.size + 2, 1, none⟩ = false := (f3 _ _ (by omega)).trans w2f1
      have hB3 : Below w.heap.size w w3 := hB2.trans (hb3.mono (by omega))
      clear c3 f3 hb3 m1 m2 m3 m4 m5 m6 m7 m8 m9
      go_wp2
      refine bodyPost_ret (v := .tuple #[.agg #[.int .i64 (pickU (twoC a b c d) (fitU (a * c) (b * d))), .int .i64 (pickD (twoC a b c d) (fitD (a * c) (b * d)))], .bool (twoC a b c d && fitB (a * c) (b * d))]) (by simp [results, Tryd.results19, go_sem, pickU, pickD, hc, q0, q1]) rfl ⟨rfl, hB3.trans (by (repeat' (first | exact Below.refl _ _ | apply Below.alloc | apply Below.setCell | apply Below.drew | apply below_draws)) <;> (first | omega | (simp <;> omega)))⟩
    · have h2' : ratOkB c d = false := by simpa using h2
      have hc : twoC a b c d = false := by simp [twoC, h2']
      go_wp2_with fail
      refine bodyPost_ret (v := .tuple #[.agg #[.int .i64 (pickU (twoC a b c d) (fitU (a * c) (b * d))), .int .i64 (pickD (twoC a b c d) (fitD (a * c) (b * d)))], .bool (twoC a b c d && fitB (a * c) (b * d))]) (by simp [results, Tryd.results19, go_sem, pickU, pickD, hc, w2c20, w2c21]) rfl ⟨rfl, hB2.trans (by (repeat' (first | exact Below.refl _ _ | apply Below.alloc | apply Below.setCell | apply Below.drew | apply below_draws)) <;> (first | omega | (simp <;> omega)))⟩
  · have h1' : ratOkB a b = false := by simpa using h1
    have hc : twoC a b c d = false := by simp [twoC, h1']
    go_wp2_with fail
    refine bodyPost_ret (v := .tuple #[.agg #[.int .i64 (pickU (twoC a b c d) (fitU (a * c) (b * d))), .int .i64 (pickD (twoC a b c d) (fitD (a * c) (b * d)))], .bool (twoC a b c d && fitB (a * c) (b * d))]) (by simp [results, Tryd.results19, go_sem, pickU, pickD, hc, w1c20, w1c21]) rfl ⟨rfl, hB1.trans (by (repeat' (first | exact Below.refl _ _ | apply Below.alloc | apply Below.setCell | apply Below.drew | apply below_draws)) <;> (first | omega | (simp <;> omega)))⟩

end Go.Proofs.YtobdkkbackalhaaDoor
