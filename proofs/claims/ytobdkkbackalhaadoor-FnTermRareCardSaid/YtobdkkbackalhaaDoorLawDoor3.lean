/-
  The walks of FnTermScore and FnTermRare. Printed by gen_lawdoor3.py.
-/
import Derived.Test.YtobdkkbackalhaaDoorLawDoor2
import Derived.Test.YtobdkkbackalhaaDoorScoreLaw
namespace Go.Proofs.YtobdkkbackalhaaDoor
open Go.RowKit
set_option linter.unusedVariables false


theorem walk_FnTermScore (a0 : Option Addr) (len cap : Nat) (zs : List Int) (w : World) (hrow : IsRow .u8 w a0 len cap zs) (hL : Laid w) :
    Calls Tryd.prog 12 #[.slice a0 len cap] w fun e w' => e = .returned (.bool true) ∧ Below w.heap.size w w' := by
  have hlt := hL.lt
  obtain ⟨hc1, hc2, _⟩ := code_of_row hrow
  by_cases hbig : (1048576 : Int) < (len : Int)
  · go_enter Tryd.func12, Tryd.ntmps12
    go_wp2
    go_ret
    exact ⟨rfl, Below.refl _ _⟩
  · go_enter Tryd.func12, Tryd.ntmps12
    go_wp2_with fail
    refine (drawTermScore_any a0 len cap zs _ hrow).mono ?_
    rintro e w1 ⟨tf, long, total, docs, df, ⟨rfl, ⟨t1, t2⟩, ⟨l1, l2⟩, ⟨o1, o2⟩, ⟨d1, d2⟩, f1, f2⟩, B⟩
    clear hrow
    have HT := Lib.hid (fun tf long total docs df w hL => show Calls Tryd.prog 22 #[.int .i64 tf, .int .i64 long, .int .i64 total, .int .i64 docs, .int .i64 df] w (fun e w' => e = .returned (.tuple #[.agg #[.int .i64 (sU tf long total docs df), .int .i64 (sD tf long total docs df)], .bool (scC tf long total docs df)]) ∧ Below w.heap.size w w') from termScore_any tf long total docs df w hL)
    have HS := Lib.hid (fun tf long total docs df w => show Calls Tryd.prog 21 #[.int .i64 tf, .int .i64 long, .int .i64 total, .int .i64 docs, .int .i64 df] w (fun e w' => e = .returned (.tuple #[.agg #[.int .i64 (sU tf long total docs df), .int .i64 (sD tf long total docs df)], .bool (scC tf long total docs df)]) ∧ Below w.heap.size w w') from specTermScore_any tf long total docs df w)
    go_wp2_with fail
    refine (HT.out tf long total docs df _ (hL.below B hlt)).mono ?_
    rintro e w2 ⟨rfl, hb⟩
    have B := B.trans (hb.mono B.size)
    clear hb
    go_wp2_with fail
    have TbR := Two.new w2 (sU tf long total docs df) (sD tf long total docs df) 23
    have B := B.alloc B.size (.cells #[.int .i64 (sU tf long total docs df), .int .i64 (sD tf long total docs df)] 23)
    generalize w2.alloc (.cells #[.int .i64 (sU tf long total docs df), .int .i64 (sD tf long total docs df)] 23) = W2 at B TbR ⊢
    generalize w2.heap.size = bR at TbR ⊢
    refine (HS.out tf long total docs df _).mono ?_
    rintro e w3 ⟨rfl, hb⟩
    have B := B.trans (hb.mono B.size)
    have TbR := TbR.step hb
    clear hb
    obtain ⟨bRz, bR0, bR1⟩ := TbR
    by_cases hC : scC tf long total docs df = true
    · obtain ⟨hok, hpos⟩ := s_ok hC
      go_wp2_with fail
      have TbR := (show Two w3 bR (sU tf long total docs df) (sD tf long total docs df) from ⟨bRz, bR0, bR1⟩).alloc (.cells #[.int .i64 (sU tf long total docs df), .int .i64 (sD tf long total docs df)] 23)
      have B := B.alloc B.size (.cells #[.int .i64 (sU tf long total docs df), .int .i64 (sD tf long total docs df)] 23)
      generalize w3.alloc (.cells #[.int .i64 (sU tf long total docs df), .int .i64 (sD tf long total docs df)] 23) = W3 at B TbR ⊢
      clear bRz bR0 bR1
      refine (HT.out (tf + 1) long total docs df _ (hL.below B hlt)).mono ?_
      rintro e w4 ⟨rfl, hb⟩
      have B := B.trans (hb.mono B.size)
      have TbR := TbR.step hb
      clear hb
      go_wp2_with fail
      have TbR := TbR.alloc (.cells #[.int .i64 (sU (tf + 1) long total docs df), .int .i64 (sD (tf + 1) long total docs df)] 23)
      have TbM := Two.new w4 (sU (tf + 1) long total docs df) (sD (tf + 1) long total docs df) 23
      have B := B.alloc B.size (.cells #[.int .i64 (sU (tf + 1) long total docs df), .int .i64 (sD (tf + 1) long total docs df)] 23)
      generalize w4.alloc (.cells #[.int .i64 (sU (tf + 1) long total docs df), .int .i64 (sD (tf + 1) long total docs df)] 23) = W4 at B TbR TbM ⊢
      generalize w4.heap.size = bM at TbM ⊢
      refine (HT.out tf (long + 1) total docs df _ (hL.below B hlt)).mono ?_
      rintro e w5 ⟨rfl, hb⟩
      have B := B.trans (hb.mono B.size)
      have TbR := TbR.step hb
      have TbM := TbM.step hb
      clear hb
      have bRz := TbR.1
      have bR0 := TbR.2.1
      have bR1 := TbR.2.2
      have bMz := TbM.1
      have bM0 := TbM.2.1
      have bM1 := TbM.2.2
      have TbR := TbR.alloc (.cells #[.int .i64 (sU tf (long + 1) total docs df), .int .i64 (sD tf (long + 1) total docs df)] 23)
      have TbM := TbM.alloc (.cells #[.int .i64 (sU tf (long + 1) total docs df), .int .i64 (sD tf (long + 1) total docs df)] 23)
      have TbO := Two.new w5 (sU tf (long + 1) total docs df) (sD tf (long + 1) total docs df) 23
      have hH := B.alloc B.size (.cells #[.int .i64 (sU tf (long + 1) total docs df), .int .i64 (sD tf (long + 1) total docs df)] 23)
      by_cases hC1 : scC (tf + 1) long total docs df = true
      · have K1 := s_more hC hC1
        by_cases hC2 : scC tf (long + 1) total docs df = true
        · have K2 := s_longer hC hC2
          go_wp2_with (first | (go_at_call 24; refine (ratOk_any _ _ _).mono ?_; rintro e w' ⟨rfl, hb⟩; replace TbR := TbR.step hb; replace TbM := TbM.step hb; replace TbO := TbO.step hb; have bRz := TbR.1; have bR0 := TbR.2.1; have bR1 := TbR.2.2; have bMz := TbM.1; have bM0 := TbM.2.1; have bM1 := TbM.2.2; have bOz := TbO.1; have bO0 := TbO.2.1; have bO1 := TbO.2.2; replace hH := hH.trans (hb.mono hH.size); clear hb) | (go_at_call 30; refine (ratCmp_any _ _ _ _ _).mono ?_; rintro e w' ⟨rfl, hb⟩; replace TbR := TbR.step hb; replace TbM := TbM.step hb; replace TbO := TbO.step hb; have bRz := TbR.1; have bR0 := TbR.2.1; have bR1 := TbR.2.2; have bMz := TbM.1; have bM0 := TbM.2.1; have bM1 := TbM.2.2; have bOz := TbO.1; have bO0 := TbO.2.1; have bO1 := TbO.2.2; replace hH := hH.trans (hb.mono hH.size); clear hb))
          go_ret
          exact ⟨rfl, hH⟩
        · go_wp2_with (first | (go_at_call 24; refine (ratOk_any _ _ _).mono ?_; rintro e w' ⟨rfl, hb⟩; replace TbR := TbR.step hb; replace TbM := TbM.step hb; replace TbO := TbO.step hb; have bRz := TbR.1; have bR0 := TbR.2.1; have bR1 := TbR.2.2; have bMz := TbM.1; have bM0 := TbM.2.1; have bM1 := TbM.2.2; have bOz := TbO.1; have bO0 := TbO.2.1; have bO1 := TbO.2.2; replace hH := hH.trans (hb.mono hH.size); clear hb) | (go_at_call 30; refine (ratCmp_any _ _ _ _ _).mono ?_; rintro e w' ⟨rfl, hb⟩; replace TbR := TbR.step hb; replace TbM := TbM.step hb; replace TbO := TbO.step hb; have bRz := TbR.1; have bR0 := TbR.2.1; have bR1 := TbR.2.2; have bMz := TbM.1; have bM0 := TbM.2.1; have bM1 := TbM.2.2; have bOz := TbO.1; have bO0 := TbO.2.1; have bO1 := TbO.2.2; replace hH := hH.trans (hb.mono hH.size); clear hb))
          go_ret
          exact ⟨rfl, hH⟩
      · by_cases hC2 : scC tf (long + 1) total docs df = true
        · have K2 := s_longer hC hC2
          go_wp2_with (first | (go_at_call 24; refine (ratOk_any _ _ _).mono ?_; rintro e w' ⟨rfl, hb⟩; replace TbR := TbR.step hb; replace TbM := TbM.step hb; replace TbO := TbO.step hb; have bRz := TbR.1; have bR0 := TbR.2.1; have bR1 := TbR.2.2; have bMz := TbM.1; have bM0 := TbM.2.1; have bM1 := TbM.2.2; have bOz := TbO.1; have bO0 := TbO.2.1; have bO1 := TbO.2.2; replace hH := hH.trans (hb.mono hH.size); clear hb) | (go_at_call 30; refine (ratCmp_any _ _ _ _ _).mono ?_; rintro e w' ⟨rfl, hb⟩; replace TbR := TbR.step hb; replace TbM := TbM.step hb; replace TbO := TbO.step hb; have bRz := TbR.1; have bR0 := TbR.2.1; have bR1 := TbR.2.2; have bMz := TbM.1; have bM0 := TbM.2.1; have bM1 := TbM.2.2; have bOz := TbO.1; have bO0 := TbO.2.1; have bO1 := TbO.2.2; replace hH := hH.trans (hb.mono hH.size); clear hb))
          go_ret
          exact ⟨rfl, hH⟩
        · go_wp2_with (first | (go_at_call 24; refine (ratOk_any _ _ _).mono ?_; rintro e w' ⟨rfl, hb⟩; replace TbR := TbR.step hb; replace TbM := TbM.step hb; replace TbO := TbO.step hb; have bRz := TbR.1; have bR0 := TbR.2.1; have bR1 := TbR.2.2; have bMz := TbM.1; have bM0 := TbM.2.1; have bM1 := TbM.2.2; have bOz := TbO.1; have bO0 := TbO.2.1; have bO1 := TbO.2.2; replace hH := hH.trans (hb.mono hH.size); clear hb) | (go_at_call 30; refine (ratCmp_any _ _ _ _ _).mono ?_; rintro e w' ⟨rfl, hb⟩; replace TbR := TbR.step hb; replace TbM := TbM.step hb; replace TbO := TbO.step hb; have bRz := TbR.1; have bR0 := TbR.2.1; have bR1 := TbR.2.2; have bMz := TbM.1; have bM0 := TbM.2.1; have bM1 := TbM.2.2; have bOz := TbO.1; have bO0 := TbO.2.1; have bO1 := TbO.2.2; replace hH := hH.trans (hb.mono hH.size); clear hb))
          go_ret
          exact ⟨rfl, hH⟩
    · have hC' : scC tf long total docs df = false := by simpa using hC
      clear hC
      go_wp2
      go_ret
      exact ⟨rfl, B.alloc B.size _⟩


theorem walk_FnTermRare (a0 : Option Addr) (len cap : Nat) (zs : List Int) (w : World) (hrow : IsRow .u8 w a0 len cap zs) (hL : Laid w) :
    Calls Tryd.prog 11 #[.slice a0 len cap] w fun e w' => e = .returned (.bool true) ∧ Below w.heap.size w w' := by
  have hlt := hL.lt
  obtain ⟨hc1, hc2, _⟩ := code_of_row hrow
  by_cases hbig : (1048576 : Int) < (len : Int)
  · go_enter Tryd.func11, Tryd.ntmps11
    go_wp2
    go_ret
    exact ⟨rfl, Below.refl _ _⟩
  · go_enter Tryd.func11, Tryd.ntmps11
    go_wp2_with fail
    refine (drawTermScore_any a0 len cap zs _ hrow).mono ?_
    rintro e w1 ⟨tf, long, total, docs, df, ⟨rfl, ⟨t1, t2⟩, ⟨l1, l2⟩, ⟨o1, o2⟩, ⟨d1, d2⟩, f1, f2⟩, B⟩
    clear hrow
    have HT := Lib.hid (fun tf long total docs df w hL => show Calls Tryd.prog 22 #[.int .i64 tf, .int .i64 long, .int .i64 total, .int .i64 docs, .int .i64 df] w (fun e w' => e = .returned (.tuple #[.agg #[.int .i64 (sU tf long total docs df), .int .i64 (sD tf long total docs df)], .bool (scC tf long total docs df)]) ∧ Below w.heap.size w w') from termScore_any tf long total docs df w hL)
    have HS := Lib.hid (fun tf long total docs df w => show Calls Tryd.prog 21 #[.int .i64 tf, .int .i64 long, .int .i64 total, .int .i64 docs, .int .i64 df] w (fun e w' => e = .returned (.tuple #[.agg #[.int .i64 (sU tf long total docs df), .int .i64 (sD tf long total docs df)], .bool (scC tf long total docs df)]) ∧ Below w.heap.size w w') from specTermScore_any tf long total docs df w)
    go_wp2_with fail
    refine (HT.out tf long total docs df _ (hL.below B hlt)).mono ?_
    rintro e w2 ⟨rfl, hb⟩
    have B := B.trans (hb.mono B.size)
    clear hb
    go_wp2_with fail
    have TbR := Two.new w2 (sU tf long total docs df) (sD tf long total docs df) 23
    have B := B.alloc B.size (.cells #[.int .i64 (sU tf long total docs df), .int .i64 (sD tf long total docs df)] 23)
    generalize w2.alloc (.cells #[.int .i64 (sU tf long total docs df), .int .i64 (sD tf long total docs df)] 23) = W2 at B TbR ⊢
    generalize w2.heap.size = bR at TbR ⊢
    refine (HS.out tf long total docs df _).mono ?_
    rintro e w3 ⟨rfl, hb⟩
    have B := B.trans (hb.mono B.size)
    have TbR := TbR.step hb
    clear hb
    obtain ⟨bRz, bR0, bR1⟩ := TbR
    by_cases hC : scC tf long total docs df = true
    · obtain ⟨hok, hpos⟩ := s_ok hC
      by_cases h1 : df = 1
      · have h1' : (df == 1) = true := by simpa using h1
        clear h1
        go_wp2
        go_ret
        exact ⟨rfl, B.alloc B.size _⟩
      · have h1' : (df == 1) = false := by simpa using h1
        obtain ⟨⟨⟨⟨⟨q1, q2⟩, q3, q4⟩, q5, q6⟩, q7, q8⟩, q9, q10⟩ := scC_iff.1 hC
        have hC1 : scC tf long total docs (df - 1) = true := scC_iff.2 ⟨⟨⟨⟨⟨q1, q2⟩, q3, q4⟩, q5, q6⟩, by omega, by omega⟩, q9, q10⟩
        have hC2 : scC tf long total docs (df / 2) = true := scC_iff.2 ⟨⟨⟨⟨⟨q1, q2⟩, q3, q4⟩, q5, q6⟩, by omega, by omega⟩, q9, q10⟩
        have K1 := s_fewer hC hC1 rare_less
        have K2 := s_half hC hC2 (rare_half (by omega) q8 q6)
        clear h1 q1 q2 q3 q4 q5 q6 q7 q8 q9 q10
        go_wp2_with fail
        have TbR := (show Two w3 bR (sU tf long total docs df) (sD tf long total docs df) from ⟨bRz, bR0, bR1⟩).alloc (.cells #[.int .i64 (sU tf long total docs df), .int .i64 (sD tf long total docs df)] 23)
        have B := B.alloc B.size (.cells #[.int .i64 (sU tf long total docs df), .int .i64 (sD tf long total docs df)] 23)
        generalize w3.alloc (.cells #[.int .i64 (sU tf long total docs df), .int .i64 (sD tf long total docs df)] 23) = W3 at B TbR ⊢
        clear bRz bR0 bR1
        refine (HT.out tf long total docs (df - 1) _ (hL.below B hlt)).mono ?_
        rintro e w4 ⟨rfl, hb⟩
        have B := B.trans (hb.mono B.size)
        have TbR := TbR.step hb
        clear hb
        go_wp2_with fail
        have TbR := TbR.alloc (.cells #[.int .i64 (sU tf long total docs (df - 1)), .int .i64 (sD tf long total docs (df - 1))] 23)
        have TbM := Two.new w4 (sU tf long total docs (df - 1)) (sD tf long total docs (df - 1)) 23
        have B := B.alloc B.size (.cells #[.int .i64 (sU tf long total docs (df - 1)), .int .i64 (sD tf long total docs (df - 1))] 23)
        generalize w4.alloc (.cells #[.int .i64 (sU tf long total docs (df - 1)), .int .i64 (sD tf long total docs (df - 1))] 23) = W4 at B TbR TbM ⊢
        generalize w4.heap.size = bM at TbM ⊢
        refine (HT.out tf long total docs (df / 2) _ (hL.below B hlt)).mono ?_
        rintro e w5 ⟨rfl, hb⟩
        have B := B.trans (hb.mono B.size)
        have TbR := TbR.step hb
        have TbM := TbM.step hb
        clear hb
        have bRz := TbR.1
        have bR0 := TbR.2.1
        have bR1 := TbR.2.2
        have bMz := TbM.1
        have bM0 := TbM.2.1
        have bM1 := TbM.2.2
        have TbR := TbR.alloc (.cells #[.int .i64 (sU tf long total docs (df / 2)), .int .i64 (sD tf long total docs (df / 2))] 23)
        have TbM := TbM.alloc (.cells #[.int .i64 (sU tf long total docs (df / 2)), .int .i64 (sD tf long total docs (df / 2))] 23)
        have TbO := Two.new w5 (sU tf long total docs (df / 2)) (sD tf long total docs (df / 2)) 23
        have hH := B.alloc B.size (.cells #[.int .i64 (sU tf long total docs (df / 2)), .int .i64 (sD tf long total docs (df / 2))] 23)
        go_wp2_with (first | (go_at_call 24; refine (ratOk_any _ _ _).mono ?_; rintro e w' ⟨rfl, hb⟩; replace TbR := TbR.step hb; replace TbM := TbM.step hb; replace TbO := TbO.step hb; have bRz := TbR.1; have bR0 := TbR.2.1; have bR1 := TbR.2.2; have bMz := TbM.1; have bM0 := TbM.2.1; have bM1 := TbM.2.2; have bOz := TbO.1; have bO0 := TbO.2.1; have bO1 := TbO.2.2; replace hH := hH.trans (hb.mono hH.size); clear hb) | (go_at_call 30; refine (ratCmp_any _ _ _ _ _).mono ?_; rintro e w' ⟨rfl, hb⟩; replace TbR := TbR.step hb; replace TbM := TbM.step hb; replace TbO := TbO.step hb; have bRz := TbR.1; have bR0 := TbR.2.1; have bR1 := TbR.2.2; have bMz := TbM.1; have bM0 := TbM.2.1; have bM1 := TbM.2.2; have bOz := TbO.1; have bO0 := TbO.2.1; have bO1 := TbO.2.2; replace hH := hH.trans (hb.mono hH.size); clear hb))
        go_ret
        exact ⟨rfl, hH⟩
    · have hC' : scC tf long total docs df = false := by simpa using hC
      clear hC
      go_wp2
      go_ret
      exact ⟨rfl, B.alloc B.size _⟩

end Go.Proofs.YtobdkkbackalhaaDoor