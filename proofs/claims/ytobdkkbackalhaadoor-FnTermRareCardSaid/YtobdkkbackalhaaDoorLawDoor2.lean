/-
  The walks of FnRatOk, FnRatAdd, FnRatMul. Printed by gen_lawdoor2.py.
-/
import Derived.Test.YtobdkkbackalhaaDoorLawDoor
namespace Go.Proofs.YtobdkkbackalhaaDoor
open Go.RowKit
set_option linter.unusedVariables false

/-- block b holds the fraction x/y. -/
def Two (w : World) (b : Nat) (x y : Int) : Prop := b < w.heap.size ∧ w.cell? ⟨b, 0, none⟩ = some (.int .i64 x) ∧ w.cell? ⟨b, 1, none⟩ = some (.int .i64 y)
theorem Two.step {w w' : World} {b : Nat} {x y : Int} (h : Two w b x y) (hb : Below w.heap.size w w') : Two w' b x y :=
  ⟨Nat.lt_of_lt_of_le h.1 hb.size, (hb.cell (p := ⟨b, 0, none⟩) h.1).trans h.2.1, (hb.cell (p := ⟨b, 1, none⟩) h.1).trans h.2.2⟩
theorem Two.alloc {w : World} {b : Nat} {x y : Int} (h : Two w b x y) (o : Obj) : Two (w.alloc o) b x y := h.step ((Below.refl _ _).alloc (Nat.le_refl _) _)
theorem Two.new (w : World) (x y : Int) (t : TypeId) : Two (w.alloc (.cells #[.int .i64 x, .int .i64 y] t)) w.heap.size x y := ⟨by simp, by simp, by simp⟩

theorem walk_FnRatOk (a0 : Option Addr) (len cap : Nat) (zs : List Int) (w : World) (hrow : IsRow .u8 w a0 len cap zs) (hL : Laid w) :
    Calls Tryd.prog 8 #[.slice a0 len cap] w fun e w' => e = .returned (.bool true) ∧ Below w.heap.size w w' := by
  have hlt := hL.lt
  obtain ⟨hc1, hc2, _⟩ := code_of_row hrow
  by_cases hbig : (1048576 : Int) < (len : Int)
  · go_enter Tryd.func8, Tryd.ntmps8
    go_wp2
    go_ret
    exact ⟨rfl, Below.refl _ _⟩
  · go_enter Tryd.func8, Tryd.ntmps8
    go_wp2_with fail
    refine (drawRatOk_any a0 len cap zs _ hrow).mono ?_
    rintro e w1 ⟨a, b, rfl, hb1⟩
    go_wp2_with fail
    have B1 : Below w.heap.size w w1 := hb1
    have B2 := B1.alloc B1.size (.cells #[.int .i64 a, .int .i64 b] 23)
    have T1 := Two.new w1 a b 23
    generalize w1.alloc (.cells #[.int .i64 a, .int .i64 b] 23) = W1 at B2 T1 ⊢
    generalize w1.heap.size = bA at T1 ⊢
    clear hb1 hrow B1
    refine (ratOk_any _ _ _).mono ?_
    rintro e w2 ⟨rfl, hb2⟩
    have T2 := T1.step hb2
    have B3 := B2.trans (hb2.mono B2.size)
    clear hb2 B2 T1
    obtain ⟨y1, y2, y3⟩ := T2
    go_wp2_with fail
    refine (specRatOk_any _ _ _).mono ?_
    rintro e w3 ⟨rfl, hb3⟩
    have T3 := (show Two w2 bA a b from ⟨y1, y2, y3⟩).step hb3
    have B4 := B3.trans (hb3.mono B3.size)
    clear hb3 B3 y1 y2 y3
    have hL4 := hL.below B4 hlt
    by_cases ho : ratOkB a b = true
    · obtain ⟨s1, s2⟩ := made_same ho
      obtain ⟨⟨o1, o2⟩, ⟨o3, o4⟩, o5⟩ := ratOkB_iff.1 ho
      have hf : fitB a b = true := by unfold fitB; rw [s1, s2]; exact ho
      have hof : ofC a b = true := by simp [ofC, wi]; omega
      have h1 := fun w hL => ratOf_any a b w hL
      rw [pickU_yes hof, pickD_yes hof, hof, hf] at h1
      unfold fitU fitD at h1
      rw [if_pos hf, if_pos hf, s1, s2] at h1
      have H1 := Lib.hid h1
      clear h1 s1 s2 hf hof o5
      obtain ⟨y1, y2, y3⟩ := T3
      go_wp2_with fail
      refine (H1.out _ hL4).mono ?_
      rintro e w4 ⟨rfl, hb4⟩
      have T4 := (show Two w3 bA a b from ⟨y1, y2, y3⟩).step hb4
      have B5 := B4.trans (hb4.mono B4.size)
      clear hb4 B4 y1 y2 y3
      obtain ⟨y1, y2, y3⟩ := T4
      go_wp2
      go_ret
      exact ⟨rfl, B5.alloc B5.size _⟩
    · obtain ⟨y1, y2, y3⟩ := T3
      go_wp2_with fail
      refine (specRatOk_any _ _ _).mono ?_
      rintro e w4 ⟨rfl, hb4⟩
      go_wp2
      go_ret
      exact ⟨rfl, B4.trans (hb4.mono B4.size)⟩


theorem fit_of {n m a b : Int} (h : ratOkB a b = true) (hm : 1 ≤ m) (hx : n * b = a * m) : fitU n m = a ∧ fitD n m = b ∧ fitB n m = true := by
  obtain ⟨e1, e2⟩ := made_of h hm hx
  have hf : fitB n m = true := by unfold fitB; rw [e1, e2]; exact h
  unfold fitU fitD
  rw [if_pos hf, if_pos hf]
  exact ⟨e1, e2, hf⟩

/-- what the law of sums needs, of the two fractions a/b, c/d and their sum. -/
theorem ratAdd_law {a b c d : Int} (h : (twoC a b c d && fitB (a * d + c * b) (b * d)) = true) :
    (∀ w, Laid w → Calls Tryd.prog 18 #[.agg #[.int .i64 c, .int .i64 d], .agg #[.int .i64 a, .int .i64 b]] w fun e w' => e = .returned (.tuple #[.agg #[.int .i64 (pickU (twoC a b c d) (fitU (a * d + c * b) (b * d))), .int .i64 (pickD (twoC a b c d) (fitD (a * d + c * b) (b * d)))], .bool true]) ∧ Below w.heap.size w w') ∧
    (∀ w, Laid w → Calls Tryd.prog 18 #[.agg #[.int .i64 (pickU (twoC a b c d) (fitU (a * d + c * b) (b * d))), .int .i64 (pickD (twoC a b c d) (fitD (a * d + c * b) (b * d)))], .agg #[.int .i64 (-c), .int .i64 d]] w fun e w' => e = .returned (.tuple #[.agg #[.int .i64 a, .int .i64 b], .bool true]) ∧ Below w.heap.size w w') ∧
    ratOkB (pickU (twoC a b c d) (fitU (a * d + c * b) (b * d))) (pickD (twoC a b c d) (fitD (a * d + c * b) (b * d))) = true ∧ (-1000000000 ≤ c ∧ c ≤ 1000000000) := by
  simp only [Bool.and_eq_true] at h
  obtain ⟨h1, h2⟩ := h
  have h3 := h1
  simp only [twoC, Bool.and_eq_true] at h3
  obtain ⟨ha, hc⟩ := h3
  obtain ⟨⟨a1, a2⟩, ⟨b1, b2⟩, ag⟩ := ratOkB_iff.1 ha
  obtain ⟨⟨c1, c2⟩, ⟨d1, d2⟩, cg⟩ := ratOkB_iff.1 hc
  have hbd := mul_pos9 b1 d1
  have hU : pickU (twoC a b c d) (fitU (a * d + c * b) (b * d)) = upOf (a * d + c * b) (b * d) := by rw [pickU_yes h1]; unfold fitU; rw [if_pos h2]
  have hV : pickD (twoC a b c d) (fitD (a * d + c * b) (b * d)) = downOf (a * d + c * b) (b * d) := by rw [pickD_yes h1]; unfold fitD; rw [if_pos h2]
  have h4 : twoC c d a b = true := by simp [twoC, ha, hc]
  have e1 : c * b + a * d = a * d + c * b := Int.add_comm _ _
  have e2 : d * b = b * d := Int.mul_comm _ _
  have hok : ratOkB (upOf (a * d + c * b) (b * d)) (downOf (a * d + c * b) (b * d)) = true := h2
  refine ⟨fun w hL => ?_, fun w hL => ?_, by rw [hU, hV]; exact hok, c1, c2⟩
  · have := ratAdd_any c d a b w hL
    rw [pickU_yes h4, pickD_yes h4, h4, e1, e2, h2] at this
    rw [pickU_yes h1, pickD_yes h1]
    exact this
  · have hcn : ratOkB (-c) d = true := by
      rw [ratOkB_iff]
      refine ⟨⟨by omega, by omega⟩, ⟨d1, d2⟩, ?_⟩
      unfold gcdI at cg ⊢
      rw [Int.neg_gcd]; exact cg
    rw [hU, hV]
    have hx := made_cross (a := a * d + c * b) (b := b * d) (by omega)
    obtain ⟨⟨u1, u2⟩, ⟨v1, v2⟩, ug⟩ := ratOkB_iff.1 hok
    generalize upOf (a * d + c * b) (b * d) = u at *
    generalize downOf (a * d + c * b) (b * d) = v at *
    have hm := mul_pos9 v1 d1
    -- (u d - c v) b = a (v d)
    have key : (u * d + -c * v) * b = a * (v * d) := by
      have h5 : u * (b * d) = (a * d + c * b) * v := hx
      have : (u * d + -c * v) * b = u * (b * d) - c * b * v := by
        rw [Int.add_mul, Int.neg_mul, Int.neg_mul]
        rw [Int.mul_assoc u d b, Int.mul_comm d b, Int.mul_right_comm c v b]
        omega
      rw [this, h5, Int.add_mul, Int.mul_assoc a d v, Int.mul_comm d v]
      omega
    obtain ⟨f1, f2, f3⟩ := fit_of ha hm key
    have := ratAdd_any u v (-c) d w hL
    have h6 : twoC u v (-c) d = true := by simp [twoC, hok, hcn]
    rw [pickU_yes h6, pickD_yes h6, h6, f1, f2, f3] at this
    exact this


theorem walk_FnRatAdd (a0 : Option Addr) (len cap : Nat) (zs : List Int) (w : World) (hrow : IsRow .u8 w a0 len cap zs) (hL : Laid w) :
    Calls Tryd.prog 9 #[.slice a0 len cap] w fun e w' => e = .returned (.bool true) ∧ Below w.heap.size w w' := by
  have hlt := hL.lt
  obtain ⟨hc1, hc2, _⟩ := code_of_row hrow
  by_cases hbig : (1048576 : Int) < (len : Int)
  · go_enter Tryd.func9, Tryd.ntmps9
    go_wp2
    go_ret
    exact ⟨rfl, Below.refl _ _⟩
  · go_enter Tryd.func9, Tryd.ntmps9
    go_wp2_with fail
    refine (drawRatAdd_any a0 len cap zs _ hrow).mono ?_
    rintro e w1 ⟨a, b, c, d, rfl, B⟩
    go_wp2_with fail
    clear hrow
    have B := B.alloc B.size (.cells #[.int .i64 a, .int .i64 b] 23)
    have TbA := Two.new w1 a b 23
    have hs : (w1.alloc (.cells #[.int .i64 a, .int .i64 b] 23)).heap.size = w1.heap.size + 1 := by simp
    have TbA := TbA.alloc (.cells #[.int .i64 c, .int .i64 d] 23)
    have TbB := Two.new (w1.alloc (.cells #[.int .i64 a, .int .i64 b] 23)) c d 23
    rw [hs] at TbB
    have B := B.alloc B.size (.cells #[.int .i64 c, .int .i64 d] 23)
    generalize (w1.alloc (.cells #[.int .i64 a, .int .i64 b] 23)).alloc (.cells #[.int .i64 c, .int .i64 d] 23) = W1 at B TbA TbB ⊢
    clear hs
    obtain ⟨bA, hbA⟩ : ∃ n, n = w1.heap.size := ⟨_, rfl⟩
    obtain ⟨bB, hbB⟩ : ∃ n, n = w1.heap.size + 1 := ⟨_, rfl⟩
    rw [← hbB, ← hbA]
    rw [← hbA] at TbA
    rw [← hbB] at TbB
    clear hbA hbB
    have hi := fun w hL => ratAdd_any a b c d w hL
    have hs := fun w => specRatAdd_any a b c d w
    have hlaw := @ratAdd_law a b c d
    generalize (pickU (twoC a b c d) (fitU (a * d + c * b) (b * d))) = U at hi hs hlaw
    generalize (pickD (twoC a b c d) (fitD (a * d + c * b) (b * d))) = V at hi hs hlaw
    generalize (twoC a b c d && fitB (a * d + c * b) (b * d)) = K at hi hs hlaw
    have HI := Lib.hid hi
    have HS := Lib.hid hs
    have HLAW := Lib.hid hlaw
    clear hi hs hlaw
    refine (HI.out _ (hL.below B hlt)).mono ?_
    obtain ⟨bAz, bA0, bA1⟩ := TbA
    obtain ⟨bBz, bB0, bB1⟩ := TbB
    rintro e w2 ⟨rfl, hb⟩
    have TbA := (show Two W1 bA a b from ⟨bAz, bA0, bA1⟩).step hb
    have TbB := (show Two W1 bB c d from ⟨bBz, bB0, bB1⟩).step hb
    have B := B.trans (hb.mono B.size)
    clear hb bAz bA0 bA1 bBz bB0 bB1
    obtain ⟨bAz, bA0, bA1⟩ := TbA
    obtain ⟨bBz, bB0, bB1⟩ := TbB
    go_wp2_with fail
    have TbA := (show Two w2 bA a b from ⟨bAz, bA0, bA1⟩)
    have TbB := (show Two w2 bB c d from ⟨bBz, bB0, bB1⟩)
    clear bAz bA0 bA1 bBz bB0 bB1
    have TbA := TbA.alloc (.cells #[.int .i64 U, .int .i64 V] 23)
    have TbB := TbB.alloc (.cells #[.int .i64 U, .int .i64 V] 23)
    have TbR := Two.new w2 U V 23
    have B := B.alloc B.size (.cells #[.int .i64 U, .int .i64 V] 23)
    generalize w2.alloc (.cells #[.int .i64 U, .int .i64 V] 23) = W2 at TbA TbB TbR B ⊢
    generalize w2.heap.size = bR at TbR ⊢
    obtain ⟨bAz, bA0, bA1⟩ := TbA
    obtain ⟨bBz, bB0, bB1⟩ := TbB
    obtain ⟨bRz, bR0, bR1⟩ := TbR
    refine (HS.out _).mono ?_
    rintro e w3 ⟨rfl, hb⟩
    have TbA := (show Two W2 bA a b from ⟨bAz, bA0, bA1⟩).step hb
    have TbB := (show Two W2 bB c d from ⟨bBz, bB0, bB1⟩).step hb
    have TbR := (show Two W2 bR U V from ⟨bRz, bR0, bR1⟩).step hb
    have B := B.trans (hb.mono B.size)
    clear hb bAz bA0 bA1 bBz bB0 bB1 bRz bR0 bR1
    obtain ⟨bAz, bA0, bA1⟩ := TbA
    obtain ⟨bBz, bB0, bB1⟩ := TbB
    obtain ⟨bRz, bR0, bR1⟩ := TbR
    cases K
    · go_wp2
      go_ret
      exact ⟨rfl, B.alloc B.size _⟩
    · obtain ⟨L1, L2, hok, c1, c2⟩ := HLAW.out rfl
      have L1 := Lib.hid L1
      have L2 := Lib.hid L2
      go_wp2_with fail
      refine (L1.out _ (hL.below (B.alloc B.size _) hlt)).mono ?_
      rintro e w4 ⟨rfl, hb⟩
      have hb := ((Below.refl _ _).alloc (Nat.le_refl w3.heap.size) _).trans (hb.mono (by simp))
      have TbA := (show Two w3 bA a b from ⟨bAz, bA0, bA1⟩).step hb
      have TbB := (show Two w3 bB c d from ⟨bBz, bB0, bB1⟩).step hb
      have TbR := (show Two w3 bR U V from ⟨bRz, bR0, bR1⟩).step hb
      have B := B.trans (hb.mono B.size)
      clear hb bAz bA0 bA1 bBz bB0 bB1 bRz bR0 bR1
      obtain ⟨bAz, bA0, bA1⟩ := TbA
      obtain ⟨bBz, bB0, bB1⟩ := TbB
      obtain ⟨bRz, bR0, bR1⟩ := TbR
      go_wp2_with fail
      have TbA := (show Two w4 bA a b from ⟨bAz, bA0, bA1⟩)
      have TbB := (show Two w4 bB c d from ⟨bBz, bB0, bB1⟩)
      have TbR := (show Two w4 bR U V from ⟨bRz, bR0, bR1⟩)
      clear bAz bA0 bA1 bBz bB0 bB1 bRz bR0 bR1
      have hs : (w4.alloc (.cells #[.int .i64 U, .int .i64 V] 23)).heap.size = w4.heap.size + 1 := by simp
      have TbA := (TbA.alloc (.cells #[.int .i64 U, .int .i64 V] 23)).alloc (.cells #[.int .i64 (-c), .int .i64 d] 23)
      have TbB := (TbB.alloc (.cells #[.int .i64 U, .int .i64 V] 23)).alloc (.cells #[.int .i64 (-c), .int .i64 d] 23)
      have TbR := (TbR.alloc (.cells #[.int .i64 U, .int .i64 V] 23)).alloc (.cells #[.int .i64 (-c), .int .i64 d] 23)
      have TbK := (Two.new w4 U V 23).alloc (.cells #[.int .i64 (-c), .int .i64 d] 23)
      have B := (B.alloc B.size (.cells #[.int .i64 U, .int .i64 V] 23))
      have B := (B.alloc B.size (.cells #[.int .i64 (-c), .int .i64 d] 23))
      generalize (w4.alloc (.cells #[.int .i64 U, .int .i64 V] 23)).alloc (.cells #[.int .i64 (-c), .int .i64 d] 23) = W5 at B TbA TbB TbR TbK ⊢
      clear hs
      generalize w4.heap.size = bK at TbK ⊢
      obtain ⟨bAz, bA0, bA1⟩ := TbA
      obtain ⟨bBz, bB0, bB1⟩ := TbB
      obtain ⟨bRz, bR0, bR1⟩ := TbR
      obtain ⟨bKz, bK0, bK1⟩ := TbK
      refine (L2.out _ (hL.below B hlt)).mono ?_
      rintro e w5 ⟨rfl, hb⟩
      have TbA := (show Two W5 bA a b from ⟨bAz, bA0, bA1⟩).step hb
      have TbB := (show Two W5 bB c d from ⟨bBz, bB0, bB1⟩).step hb
      have TbR := (show Two W5 bR U V from ⟨bRz, bR0, bR1⟩).step hb
      have TbK := (show Two W5 bK U V from ⟨bKz, bK0, bK1⟩).step hb
      have B := B.trans (hb.mono B.size)
      clear hb bAz bA0 bA1 bBz bB0 bB1 bRz bR0 bR1 bKz bK0 bK1
      obtain ⟨bAz, bA0, bA1⟩ := TbA
      obtain ⟨bBz, bB0, bB1⟩ := TbB
      obtain ⟨bRz, bR0, bR1⟩ := TbR
      obtain ⟨bKz, bK0, bK1⟩ := TbK
      go_wp2_with fail
      refine (ratOk_any _ _ _).mono ?_
      rintro e w6 ⟨rfl, hb⟩
      obtain ⟨c6, f6⟩ := bcell hb
      have z6 := blt hb
      go_wp2
      go_ret
      exact ⟨rfl, (B.alloc B.size _).trans (hb.mono (by have := B.size; simp; omega))⟩


/-- what the law of products needs. -/
theorem ratMul_law {a b c d : Int} (h : (twoC a b c d && fitB (a * c) (b * d)) = true) :
    (∀ w, Laid w → Calls Tryd.prog 20 #[.agg #[.int .i64 c, .int .i64 d], .agg #[.int .i64 a, .int .i64 b]] w fun e w' => e = .returned (.tuple #[.agg #[.int .i64 (pickU (twoC a b c d) (fitU (a * c) (b * d))), .int .i64 (pickD (twoC a b c d) (fitD (a * c) (b * d)))], .bool true]) ∧ Below w.heap.size w w') ∧
    (∀ w, Laid w → Calls Tryd.prog 20 #[.agg #[.int .i64 a, .int .i64 b], .agg #[.int .i64 1, .int .i64 1]] w fun e w' => e = .returned (.tuple #[.agg #[.int .i64 a, .int .i64 b], .bool true]) ∧ Below w.heap.size w w') ∧
    ratOkB (pickU (twoC a b c d) (fitU (a * c) (b * d))) (pickD (twoC a b c d) (fitD (a * c) (b * d))) = true ∧ (pickU (twoC a b c d) (fitU (a * c) (b * d)) == 0) = (a == 0 || c == 0) := by
  simp only [Bool.and_eq_true] at h
  obtain ⟨h1, h2⟩ := h
  have h3 := h1
  simp only [twoC, Bool.and_eq_true] at h3
  obtain ⟨ha, hc⟩ := h3
  obtain ⟨⟨a1, a2⟩, ⟨b1, b2⟩, ag⟩ := ratOkB_iff.1 ha
  obtain ⟨⟨c1, c2⟩, ⟨d1, d2⟩, cg⟩ := ratOkB_iff.1 hc
  have hbd := mul_pos9 b1 d1
  have hU : pickU (twoC a b c d) (fitU (a * c) (b * d)) = upOf (a * c) (b * d) := by rw [pickU_yes h1]; unfold fitU; rw [if_pos h2]
  have hV : pickD (twoC a b c d) (fitD (a * c) (b * d)) = downOf (a * c) (b * d) := by rw [pickD_yes h1]; unfold fitD; rw [if_pos h2]
  have h4 : twoC c d a b = true := by simp [twoC, ha, hc]
  have e1 : c * a = a * c := Int.mul_comm _ _
  have e2 : d * b = b * d := Int.mul_comm _ _
  have hok : ratOkB (upOf (a * c) (b * d)) (downOf (a * c) (b * d)) = true := h2
  have h11 : ratOkB 1 1 = true := by rw [ratOkB_iff]; exact ⟨by omega, by omega, by decide⟩
  refine ⟨fun w hL => ?_, fun w hL => ?_, by rw [hU, hV]; exact hok, ?_⟩
  · have := ratMul_any c d a b w hL
    rw [pickU_yes h4, pickD_yes h4, h4, e1, e2, h2] at this
    rw [pickU_yes h1, pickD_yes h1]
    exact this
  · obtain ⟨f1, f2, f3⟩ := fit_of (n := a * 1) (m := b * 1) ha (by omega) (by rw [Int.mul_one, Int.mul_one])
    have := ratMul_any a b 1 1 w hL
    have h6 : twoC a b 1 1 = true := by simp [twoC, ha, h11]
    rw [pickU_yes h6, pickD_yes h6, h6, f1, f2, f3] at this
    exact this
  · rw [hU]
    have hx := made_cross (a := a * c) (b := b * d) (by omega)
    obtain ⟨_, ⟨v1, v2⟩, _⟩ := ratOkB_iff.1 hok
    generalize upOf (a * c) (b * d) = u at *
    generalize downOf (a * c) (b * d) = v at *
    rw [Bool.eq_iff_iff]
    simp only [beq_iff_eq, Bool.or_eq_true]
    rw [← Int.mul_eq_zero (a := a)]
    constructor
    · rintro rfl
      rw [Int.zero_mul] at hx
      rcases Int.mul_eq_zero.1 hx.symm with h | h
      · exact h
      · omega
    · intro h
      rw [h, Int.zero_mul] at hx
      rcases Int.mul_eq_zero.1 hx with h | h
      · exact h
      · omega


theorem walk_FnRatMul (a0 : Option Addr) (len cap : Nat) (zs : List Int) (w : World) (hrow : IsRow .u8 w a0 len cap zs) (hL : Laid w) :
    Calls Tryd.prog 10 #[.slice a0 len cap] w fun e w' => e = .returned (.bool true) ∧ Below w.heap.size w w' := by
  have hlt := hL.lt
  obtain ⟨hc1, hc2, _⟩ := code_of_row hrow
  by_cases hbig : (1048576 : Int) < (len : Int)
  · go_enter Tryd.func10, Tryd.ntmps10
    go_wp2
    go_ret
    exact ⟨rfl, Below.refl _ _⟩
  · go_enter Tryd.func10, Tryd.ntmps10
    go_wp2_with fail
    refine (drawRatMul_any a0 len cap zs _ hrow).mono ?_
    rintro e w1 ⟨a, b, c, d, rfl, B⟩
    go_wp2_with fail
    clear hrow
    have B := B.alloc B.size (.cells #[.int .i64 a, .int .i64 b] 23)
    have TbA := Two.new w1 a b 23
    have hs : (w1.alloc (.cells #[.int .i64 a, .int .i64 b] 23)).heap.size = w1.heap.size + 1 := by simp
    have TbA := TbA.alloc (.cells #[.int .i64 c, .int .i64 d] 23)
    have TbB := Two.new (w1.alloc (.cells #[.int .i64 a, .int .i64 b] 23)) c d 23
    rw [hs] at TbB
    have B := B.alloc B.size (.cells #[.int .i64 c, .int .i64 d] 23)
    generalize (w1.alloc (.cells #[.int .i64 a, .int .i64 b] 23)).alloc (.cells #[.int .i64 c, .int .i64 d] 23) = W1 at B TbA TbB ⊢
    clear hs
    obtain ⟨bA, hbA⟩ : ∃ n, n = w1.heap.size := ⟨_, rfl⟩
    obtain ⟨bB, hbB⟩ : ∃ n, n = w1.heap.size + 1 := ⟨_, rfl⟩
    rw [← hbB, ← hbA]
    rw [← hbA] at TbA
    rw [← hbB] at TbB
    clear hbA hbB
    have hi := fun w hL => ratMul_any a b c d w hL
    have hs := fun w => specRatMul_any a b c d w
    have hlaw := @ratMul_law a b c d
    generalize (pickU (twoC a b c d) (fitU (a * c) (b * d))) = U at hi hs hlaw
    generalize (pickD (twoC a b c d) (fitD (a * c) (b * d))) = V at hi hs hlaw
    generalize (twoC a b c d && fitB (a * c) (b * d)) = K at hi hs hlaw
    have HI := Lib.hid hi
    have HS := Lib.hid hs
    have HLAW := Lib.hid hlaw
    clear hi hs hlaw
    refine (HI.out _ (hL.below B hlt)).mono ?_
    obtain ⟨bAz, bA0, bA1⟩ := TbA
    obtain ⟨bBz, bB0, bB1⟩ := TbB
    rintro e w2 ⟨rfl, hb⟩
    have TbA := (show Two W1 bA a b from ⟨bAz, bA0, bA1⟩).step hb
    have TbB := (show Two W1 bB c d from ⟨bBz, bB0, bB1⟩).step hb
    have B := B.trans (hb.mono B.size)
    clear hb bAz bA0 bA1 bBz bB0 bB1
    obtain ⟨bAz, bA0, bA1⟩ := TbA
    obtain ⟨bBz, bB0, bB1⟩ := TbB
    go_wp2_with fail
    have TbA := (show Two w2 bA a b from ⟨bAz, bA0, bA1⟩)
    have TbB := (show Two w2 bB c d from ⟨bBz, bB0, bB1⟩)
    clear bAz bA0 bA1 bBz bB0 bB1
    have TbA := TbA.alloc (.cells #[.int .i64 U, .int .i64 V] 23)
    have TbB := TbB.alloc (.cells #[.int .i64 U, .int .i64 V] 23)
    have TbR := Two.new w2 U V 23
    have B := B.alloc B.size (.cells #[.int .i64 U, .int .i64 V] 23)
    generalize w2.alloc (.cells #[.int .i64 U, .int .i64 V] 23) = W2 at TbA TbB TbR B ⊢
    generalize w2.heap.size = bR at TbR ⊢
    obtain ⟨bAz, bA0, bA1⟩ := TbA
    obtain ⟨bBz, bB0, bB1⟩ := TbB
    obtain ⟨bRz, bR0, bR1⟩ := TbR
    refine (HS.out _).mono ?_
    rintro e w3 ⟨rfl, hb⟩
    have TbA := (show Two W2 bA a b from ⟨bAz, bA0, bA1⟩).step hb
    have TbB := (show Two W2 bB c d from ⟨bBz, bB0, bB1⟩).step hb
    have TbR := (show Two W2 bR U V from ⟨bRz, bR0, bR1⟩).step hb
    have B := B.trans (hb.mono B.size)
    clear hb bAz bA0 bA1 bBz bB0 bB1 bRz bR0 bR1
    obtain ⟨bAz, bA0, bA1⟩ := TbA
    obtain ⟨bBz, bB0, bB1⟩ := TbB
    obtain ⟨bRz, bR0, bR1⟩ := TbR
    cases K
    · go_wp2
      go_ret
      exact ⟨rfl, B.alloc B.size _⟩
    · obtain ⟨L1, L2, hok, hz⟩ := HLAW.out rfl
      have L1 := Lib.hid L1
      have L2 := Lib.hid L2
      have hz := Lib.hid hz
      go_wp2_with fail
      refine (L1.out _ (hL.below (B.alloc B.size _) hlt)).mono ?_
      rintro e w4 ⟨rfl, hb⟩
      have hb := ((Below.refl _ _).alloc (Nat.le_refl w3.heap.size) _).trans (hb.mono (by simp))
      have TbA := (show Two w3 bA a b from ⟨bAz, bA0, bA1⟩).step hb
      have TbB := (show Two w3 bB c d from ⟨bBz, bB0, bB1⟩).step hb
      have TbR := (show Two w3 bR U V from ⟨bRz, bR0, bR1⟩).step hb
      have B := B.trans (hb.mono B.size)
      clear hb bAz bA0 bA1 bBz bB0 bB1 bRz bR0 bR1
      obtain ⟨bAz, bA0, bA1⟩ := TbA
      obtain ⟨bBz, bB0, bB1⟩ := TbB
      obtain ⟨bRz, bR0, bR1⟩ := TbR
      go_wp2_with fail
      have TbA := (show Two w4 bA a b from ⟨bAz, bA0, bA1⟩)
      have TbB := (show Two w4 bB c d from ⟨bBz, bB0, bB1⟩)
      have TbR := (show Two w4 bR U V from ⟨bRz, bR0, bR1⟩)
      clear bAz bA0 bA1 bBz bB0 bB1 bRz bR0 bR1
      have TbA := TbA.alloc (.cells #[.int .i64 U, .int .i64 V] 23)
      have TbB := TbB.alloc (.cells #[.int .i64 U, .int .i64 V] 23)
      have TbR := TbR.alloc (.cells #[.int .i64 U, .int .i64 V] 23)
      have TbK := Two.new w4 U V 23
      have B := B.alloc B.size (.cells #[.int .i64 U, .int .i64 V] 23)
      generalize w4.alloc (.cells #[.int .i64 U, .int .i64 V] 23) = W5 at TbA TbB TbR TbK B ⊢
      generalize w4.heap.size = bK at TbK ⊢
      obtain ⟨bAz, bA0, bA1⟩ := TbA
      obtain ⟨bBz, bB0, bB1⟩ := TbB
      obtain ⟨bRz, bR0, bR1⟩ := TbR
      obtain ⟨bKz, bK0, bK1⟩ := TbK
      refine (L2.out _ (hL.below B hlt)).mono ?_
      rintro e w5 ⟨rfl, hb⟩
      have TbA := (show Two W5 bA a b from ⟨bAz, bA0, bA1⟩).step hb
      have TbB := (show Two W5 bB c d from ⟨bBz, bB0, bB1⟩).step hb
      have TbR := (show Two W5 bR U V from ⟨bRz, bR0, bR1⟩).step hb
      have TbK := (show Two W5 bK U V from ⟨bKz, bK0, bK1⟩).step hb
      have B := B.trans (hb.mono B.size)
      clear hb bAz bA0 bA1 bBz bB0 bB1 bRz bR0 bR1 bKz bK0 bK1
      obtain ⟨bAz, bA0, bA1⟩ := TbA
      obtain ⟨bBz, bB0, bB1⟩ := TbB
      obtain ⟨bRz, bR0, bR1⟩ := TbR
      obtain ⟨bKz, bK0, bK1⟩ := TbK
      go_wp2_with fail
      refine (ratOk_any _ _ _).mono ?_
      rintro e w6 ⟨rfl, hb⟩
      obtain ⟨c6, f6⟩ := bcell hb
      have z6 := blt hb
      by_cases hza : a = 0
      · have hzu : (U == 0) = true := by have := hz.out; rw [hza] at this; simpa using this
        have hza' : (a == 0) = true := by simpa using hza
        clear hza
        go_wp2
        go_ret
        exact ⟨rfl, (B.alloc B.size _).trans (hb.mono (by have := B.size; simp; omega))⟩
      · have hza' : (a == 0) = false := by simpa using hza
        by_cases hzc : c = 0
        · have hzu : (U == 0) = true := by have := hz.out; rw [hzc] at this; simpa using this
          have hzc' : (c == 0) = true := by simpa using hzc
          clear hza hzc
          go_wp2
          go_ret
          exact ⟨rfl, (B.alloc B.size _).trans (hb.mono (by have := B.size; simp; omega))⟩
        · have hzc' : (c == 0) = false := by simpa using hzc
          have hzu : (U == 0) = false := by rw [hz.out, hza', hzc']; rfl
          clear hza hzc
          go_wp2
          go_ret
          exact ⟨rfl, (B.alloc B.size _).trans (hb.mono (by have := B.size; simp; omega))⟩

end Go.Proofs.YtobdkkbackalhaaDoor