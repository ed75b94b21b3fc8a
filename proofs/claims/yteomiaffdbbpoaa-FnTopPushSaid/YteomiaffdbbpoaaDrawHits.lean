/-
  What is drawn of hits: contracts of l30Hits, l30AnyHits, DrawTopPush; foHits on equal rows.
-/
import Derived.Test.YteomiaffdbbpoaaDrawInts

import Derived.Test.YteomiaffdbbpoaaPush
import Derived.OwnWalk
import Derived.Test.YteomiaffdbbpoaaQw
import Derived.Deep.RegionLaw
import Derived.Laws.StructEq
namespace Go.Proofs.Yteomiaffdbbpoaa
open Go.RowKit Go.Sort
set_option linter.unusedVariables false

theorem foHits_same (A A' : Option Addr) (c c' : Nat) (L : List (Int × Int)) (w : World) (h : Rds w 2 A L.length (L.flatMap enc2)) (h' : Rds w 2 A' L.length (L.flatMap enc2)) (hn : L.length ≤ 4194304) :
    Calls Try.prog 28 #[.slice A L.length c, .slice A' L.length c'] w fun e w' => e = .returned (.bool true) ∧ Below w.heap.size w w' := by
  go_enter Try.func28, Try.ntmps28
  go_wp2
  go_loopw [5] (fun i wr => ∃ k : Nat, k ≤ L.length ∧ i = .int .i64 k ∧ ∃ q, wr = w.drewN q) (fun i _ => L.length - (intOf i).toNat)
  case atStart => exact ⟨0, Nat.zero_le _, rfl, 0, rfl⟩
  case round =>
    obtain ⟨k, hk, rfl, q, rfl⟩ := hrel
    by_cases hlt : k < L.length
    · obtain ⟨b, off, rfl, hb, x0, x1⟩ := h.at2 hlt
      obtain ⟨b', off', rfl, hb', x0', x1'⟩ := h'.at2 hlt
      have hi0 : (k : Int) < (L.length : Int) := by omega
      generalize L[k].1 = p at x0 x0'
      generalize L[k].2 = q2 at x1 x1'
      go_wp2_with fail
      go_quiet (fail)
      go_wp2
      go_roundw
      case rel => exact ⟨k + 1, by omega, by go_num, _, (by first | rfl | exact World.drewN_drewN _ _ _)⟩
      case measure => simp [intOf]; omega
    · go_wp2
      go_ret
      exact ⟨rfl, below_of_drewN⟩
theorem ownEG {α : Type} {enc : α → List Value} {E F : Nat} {w w' : World} {base g g2 c : Nat} {L : List α} (h : OwnE enc E F w base g2 c L) (hb : g < base) (ho : Outer w.heap.size g w w') : OwnE enc E F w' base g2 c L := own_gen h hb ho
theorem ownEB {α : Type} {enc : α → List Value} {E F : Nat} {w w' : World} {base g2 c : Nat} {L : List α} (h : OwnE enc E F w base g2 c L) (hb : Below w.heap.size w w') : OwnE enc E F w' base g2 c L := own_below h hb
theorem ownEM {α : Type} {enc : α → List Value} {E F : Nat} {w : World} {base base' g2 c : Nat} {L : List α} (h : OwnE enc E F w base g2 c L) (hb : base' ≤ base) : OwnE enc E F w base' g2 c L := own_mono h hb
theorem outer_set (W : World) (R j : Nat) (v : Value) : Outer W.heap.size R W (W.setCell ⟨R, j, none⟩ v) := ⟨⟨rfl, rfl, rfl⟩, by simp [World.setCell], fun k _ hne => Below.heap_setCell W _ v k hne⟩
theorem pushH_le (L : List (Int × Int)) (h : Int × Int) (m : Int) : (pushH L h m).length ≤ L.length + 1 := by
  unfold pushH
  have := insH_len L h
  rw [List.length_take]; omega
set_option maxHeartbeats 800000 in
theorem l30Hits_gen (g p : Nat) (w : World) (hr : Rd w g p) (hp : p + 100 < 1000000) :
    Calls Try.prog 95 #[.pointer (some ⟨g, 0, none⟩)] w fun e w' => ∃ (gO c : Nat) (L : List (Int × Int)), (e = .returned (.slice (some ⟨gO, 0, none⟩) L.length c) ∧ OwnE enc2 49 2 w' w.heap.size gO c L ∧ L.length ≤ 5) ∧ Gen w w' g p 20 := by
  have hg := hr.lt
  go_enter Try.func95, Try.ntmps95
  go_wp2_with fail
  have r0 : Rd (w.alloc (.cells #[] 49)) g p := hr.below (by (repeat' (first | exact Below.refl _ _ | apply Below.alloc | apply Below.setCell | apply Below.drew | apply below_draws)) <;> (first | omega | (simp <;> omega)))
  have own0 := ownE_made (enc := enc2) (F := 2) 49 w w.heap.size (Nat.le_refl _)
  have hs0 : w.heap.size + 1 ≤ (w.alloc (.cells #[] 49)).heap.size := by simp
  have hO0 : Outer w.heap.size g w (w.alloc (.cells #[] 49)) := Outer.of (by (repeat' (first | exact Below.refl _ _ | apply Below.alloc | apply Below.setCell | apply Below.drew | apply below_draws)) <;> (first | omega | (simp <;> omega)))
  generalize (w.alloc (.cells #[] 49)) = W0 at r0 own0 hs0 hO0 ⊢
  refine (pick_gen g p _ (by omega) (by omega) _ r0 (by omega)).mono ?_
  rintro e w1 ⟨v1, ⟨rfl, h1, h2⟩, p1, hp1, r1, o1⟩
  obtain ⟨n, rfl⟩ := Int.eq_ofNat_of_zero_le h1
  have own1 := ownEG own0 hg o1
  have hsz1 := o1.2.1
  have O1 := hO0.trans (o1.mono hO0.2.1)
  clear own0 o1 r0 hr hO0
  go_wp2_with fail
  go_loopw [3, 4, 5, 6, 7] (fun v k hv sv iv wr => ∃ (m q gO c : Nat) (L : List (Int × Int)), k = .int .i64 (m : Int) ∧ v = .slice (some ⟨gO, 0, none⟩) L.length c ∧ L.length + m ≤ 5 ∧ q + 2 * m ≤ p + 11 ∧ OwnE enc2 49 2 wr w.heap.size gO c L ∧ Rd wr g q ∧ w.heap.size + 1 ≤ wr.heap.size ∧ Outer w.heap.size g w wr) (fun _ k _ _ _ _ => (intOf k).toNat)
  case atStart => exact ⟨n, p1, _, _, [], rfl, rfl, by show 0 + n ≤ 5; omega, by omega, own1, r1, by omega, O1⟩
  case round =>
    obtain ⟨m, q, gO, c, L, rfl, rfl, hlm, hq, own, r, hsz, hO⟩ := hrel
    have hrl := r.lt
    rcases Nat.eq_zero_or_pos m with rfl | hm0
    · go_wp2
      go_ret
      exact ⟨gO, c, L, ⟨rfl, own, by omega⟩, q, by omega, r, hO⟩
    · obtain ⟨m, rfl⟩ : ∃ k, m = k + 1 := ⟨m - 1, by omega⟩
      go_wp2_with fail
      refine (pick_gen g q _ (by omega) (by omega) _ r (by omega)).mono ?_
      rintro e w3 ⟨v3, ⟨rfl, h3, h4⟩, p3, hp3, r3, o3⟩
      replace own := ownEG own hg o3
      replace hO := hO.trans (o3.mono (by omega))
      have hsz3 := o3.2.1
      clear o3 r
      go_wp2_with fail
      refine (pick_gen g p3 _ (by omega) (by omega) _ r3 (by omega)).mono ?_
      rintro e w4 ⟨v4, ⟨rfl, h5, h6⟩, p4, hp4, r4, o4⟩
      replace own := ownEG own hg o4
      replace hO := hO.trans (o4.mono (by omega))
      have hsz4 := o4.2.1
      have hlt4 := r4.lt
      clear o4 r3
      have hbA : Below w4.heap.size w4 (w4.alloc (.cells #[.int .i64 (1 + v3), .int .i64 (1 + v4)] 49)) := by (repeat' (first | exact Below.refl _ _ | apply Below.alloc | apply Below.setCell | apply Below.drew | apply below_draws)) <;> (first | omega | (simp <;> omega))
      have f0 : (w4.alloc (.cells #[.int .i64 (1 + v3), .int .i64 (1 + v4)] 49)).cell? ⟨w4.heap.size, 0, none⟩ = some (.int .i64 (1 + v3)) := by simp [go_sem]
      have f1 : (w4.alloc (.cells #[.int .i64 (1 + v3), .int .i64 (1 + v4)] 49)).cell? ⟨w4.heap.size, 1, none⟩ = some (.int .i64 (1 + v4)) := by simp [go_sem]
      replace own := ownEB own hbA
      have r5 := r4.below (hbA.mono hlt4)
      replace hO := hO.trans ((Outer.of hbA).mono (by omega))
      have hsz5 := hbA.size
      clear r4 hbA
      go_wp2_with fail
      generalize (w4.alloc (.cells #[.int .i64 (1 + v3), .int .i64 (1 + v4)] 49)) = W5 at f0 f1 own r5 hO hsz5 ⊢
      have hRL := Rds.own own
      have hlR := r5.lt
      generalize 1 + v3 = hd at f0 ⊢
      generalize 1 + v4 = hq4 at f1 ⊢
      go_loopw [6, 7] (fun sv iv wr => ∃ (i : Nat) (b : Bool), i ≤ L.length ∧ iv = .int .i64 (i : Int) ∧ sv = .bool b ∧ Below W5.heap.size W5 wr) (fun _ iv _ => L.length - (intOf iv).toNat)
      case atStart => exact ⟨0, false, Nat.zero_le _, rfl, rfl, Below.refl _ _⟩
      case round =>
        obtain ⟨i, b, hi, rfl, rfl, hbV⟩ := hrel
        have g0 := (hbV.cell (p := ⟨w4.heap.size, 0, none⟩) (block_lt_of_cell f0)).trans f0
        have g1 := (hbV.cell (p := ⟨w4.heap.size, 1, none⟩) (block_lt_of_cell f1)).trans f1
        by_cases hli : i < L.length
        · have hi0 : (i : Int) < (L.length : Int) := by omega
          obtain ⟨bR, offR, hRe, hbR, r0, r1⟩ := (hRL.below hbV).at2 hli
          have e1 : (⟨gO, 0, none⟩ : Addr) = ⟨bR, offR, none⟩ := by injection hRe
          injection e1 with e1 e2
          subst e1 e2
          rw [Nat.zero_add] at r0 r1
          clear hRe r1 g1 f0 f1 hRL
          generalize L[i].1 = x at r0
          have k0 := cell_regrown r0
          have k1 := cell_regrown g0
          clear r0 g0
          cases b with
          | true =>
            go_wp2_with fail
            refine region_qw (by kernel_rfl) (by kernel_rfl) ?_
            repeat (
              refine qw_step (fun K hK => ?_)
              go_simp
              first
                | (refine hK _ ?_; clear hK K)
                | fail)
            refine qw_nil ?_
            intro _ hw'
            obtain ⟨⟨dq, osq⟩, hw''⟩ := hw'
            subst hw''
            have hb7 := hbV.trans ((below_regrown wr dq osq).mono hbV.size)
            go_wp2
            go_roundw
            case rel => exact ⟨i + 1, _, by omega, by go_num, rfl, hb7⟩
            case measure => simp [intOf]; omega
          | false =>
            cases hxq : (x == hd) with
            | true =>
              go_wp2_with fail
              refine region_qw (by kernel_rfl) (by kernel_rfl) ?_
              repeat (
                refine qw_step (fun K hK => ?_)
                go_simp
                first
                  | (refine hK _ ?_; clear hK K)
                  | fail)
              refine qw_nil ?_
              intro _ hw'
              obtain ⟨⟨dq, osq⟩, hw''⟩ := hw'
              subst hw''
              have hb7 := hbV.trans ((below_regrown wr dq osq).mono hbV.size)
              go_wp2
              go_roundw
              case rel => exact ⟨i + 1, _, by omega, by go_num, rfl, hb7⟩
              case measure => simp [intOf]; omega
            | false =>
              go_wp2_with fail
              refine region_qw (by kernel_rfl) (by kernel_rfl) ?_
              repeat (
                refine qw_step (fun K hK => ?_)
                go_simp
                first
                  | (refine hK _ ?_; clear hK K)
                  | fail)
              refine qw_nil ?_
              intro _ hw'
              obtain ⟨⟨dq, osq⟩, hw''⟩ := hw'
              subst hw''
              have hb7 := hbV.trans ((below_regrown wr dq osq).mono hbV.size)
              go_wp2
              go_roundw
              case rel => exact ⟨i + 1, _, by omega, by go_num, rfl, hb7⟩
              case measure => simp [intOf]; omega
        · have own6 := ownEB own hbV
          have r6 := r5.below (hbV.mono hlR)
          have hO6 := hO.trans ((Outer.of hbV).mono (by omega))
          have hsz6 := hbV.size
          clear own r5 hO hRL f0 f1
          cases b with
          | true =>
            clear g0 g1
            go_wp2
            go_roundw
            case rel => exact ⟨m, p4, gO, c, L, by go_num, rfl, by omega, by omega, own6, r6, by omega, hO6⟩
            case measure => simp [intOf]
          | false =>
            have hcap := own6.capOk
            unfold maxLen at hcap
            go_wp2_with fail
            refine (l13Push_any _ c L hd hq4 16 _ own6.src (by omega) hcap.1 hcap.2.1 (by omega) (by omega)).mono ?_
            rintro e w7 ⟨g7, c7, ⟨rfl, own7⟩, hb7⟩
            have r7 := r6.below (hb7.mono r6.lt)
            have hO7 := hO6.trans ((Outer.of hb7).mono (by omega))
            have hsz7 := hb7.size
            have hpl := pushH_le L (hd, hq4) 16
            replace own7 := ownEM own7 (show w.heap.size ≤ wr.heap.size by omega)
            generalize pushH L (hd, hq4) 16 = L7 at own7 hpl ⊢
            clear own6 r6 hO6 hb7 g0 g1 hcap
            go_wp2
            go_roundw
            case rel => exact ⟨m, p4, g7, c7, L7, by go_num, rfl, by omega, by omega, own7, r7, by omega, hO7⟩
            case measure => simp [intOf]
theorem l30AnyHits_gen (g p : Nat) (w : World) (hr : Rd w g p) (hp : p + 100 < 1000000) :
    Calls Try.prog 66 #[.pointer (some ⟨g, 0, none⟩)] w fun e w' => ∃ (gO c : Nat) (L : List (Int × Int)), (e = .returned (.slice (some ⟨gO, 0, none⟩) L.length c) ∧ OwnE enc2 49 2 w' w.heap.size gO c L ∧ L.length ≤ 6) ∧ Gen w w' g p 30 := by
  have hg := hr.lt
  have own_copy : ∀ (W : World) (gO c q : Nat) (L : List (Int × Int)), OwnE enc2 49 2 W w.heap.size gO c L → Rd W g q → Outer w.heap.size g w W → w.heap.size ≤ W.heap.size → OwnE enc2 49 2 (W.alloc (.cells #[] 49)) w.heap.size W.heap.size 0 [] ∧ SrcE enc2 2 (W.alloc (.cells #[] 49)) (some ⟨gO, 0, none⟩) c L := fun W gO c q L h _ _ hs =>
    ⟨ownEM (ownE_made (enc := enc2) (F := 2) 49 W W.heap.size (Nat.le_refl _)) hs, h.src.below (by (repeat' (first | exact Below.refl _ _ | apply Below.alloc | apply Below.setCell | apply Below.drew | apply below_draws)) <;> (first | omega | (simp <;> omega)))⟩
  go_enter Try.func66, Try.ntmps66
  go_wp2_with fail
  refine (l30Hits_gen g p _ hr (by omega)).mono ?_
  rintro e w1 ⟨gO, c, L, ⟨rfl, own, hl⟩, p1, hp1, r1, o1⟩
  have hsz1 := o1.2.1
  clear hr
  rcases Nat.eq_zero_or_pos L.length with hL0 | hL0
  · obtain rfl : L = [] := List.eq_nil_of_length_eq_zero hL0
    obtain ⟨ownN, srcN⟩ := own_copy w1 gO c p1 [] own r1 o1 hsz1
    have hbN : Below w1.heap.size w1 (w1.alloc (.cells #[] 49)) := by (repeat' (first | exact Below.refl _ _ | apply Below.alloc | apply Below.setCell | apply Below.drew | apply below_draws)) <;> (first | omega | (simp <;> omega))
    have hszN : (w1.alloc (.cells #[] 49)).heap.size = w1.heap.size + 1 := by simp
    clear hL0 own
    go_wp2_with (at_builtin; refine append_rec rowTHit encHit (by decide) rfl _ _ rfl w.heap.size _ _ [] rfl ownN _ _ _ [] rfl rfl srcN (by simp) (by omega) (by omega) ?_)
    intro N hN g7 c7 w7 own7 _ _ hb7
    obtain rfl : N = [] := hN.out
    have hO7 := o1.trans (Outer.of ((hbN.mono hsz1).trans hb7))
    have r7 := r1.below (((hbN.mono hsz1).trans hb7).mono hg)
    go_wp2
    go_ret
    first | exact ⟨g7, c7, [], ⟨rfl, own7, by simp⟩, p1, by omega, r7, hO7⟩ | exact ⟨⟨g7, c7, [], rfl, own7, by simp⟩, p1, by omega, r7, hO7⟩
  · have hLi : 0 < (L.length : Int) := by omega
    go_wp2_with fail
    refine (pick_gen g p1 _ (by omega) (by omega) _ r1 (by omega)).mono ?_
    rintro e w2 ⟨v2, ⟨rfl, h1, h2⟩, p2, hp2, r2, o2⟩
    replace own := ownEG own hg o2
    have hO := o1.trans (o2.mono hsz1)
    have hsz2 := o2.2.1
    clear o1 o2 r1
    by_cases hv : v2 = 0
    · subst hv
      obtain ⟨bR, offR, hRe, hbR, x0, x1⟩ := (Rds.own own).at2 hL0
      have e1 : (⟨gO, 0, none⟩ : Addr) = ⟨bR, offR, none⟩ := by injection hRe
      injection e1 with e1 e2
      subst e1 e2
      simp only [Nat.zero_mul, Nat.zero_add] at x0 x1
      clear hRe
      generalize L[0].1 = a at x0
      generalize L[0].2 = b at x1
      have hbN : Below w2.heap.size w2 (w2.alloc (.cells #[.int .i64 a, .int .i64 b] 49)) := by (repeat' (first | exact Below.refl _ _ | apply Below.alloc | apply Below.setCell | apply Below.drew | apply below_draws)) <;> (first | omega | (simp <;> omega))
      have own2 := ownEB own hbN
      go_wp2_with (at_builtin; refine append_rec rowTHit encHit (by decide) rfl _ _ rfl w.heap.size _ _ L rfl own2 _ _ _ [(a, b)] rfl rfl (SrcE.lit encHit w2 49 #[.int .i64 a, .int .i64 b] [(a, b)] rfl 1) (by simp; omega) (by omega) (by simp; omega) ?_)
      intro N hN g7 c7 w7 own7 _ _ hb7
      have hl7 : N.length ≤ 6 := by rw [hN.out]; simp; omega
      have hO7 := hO.trans (Outer.of ((hbN.mono (by omega)).trans hb7))
      have r7 := r2.below (((hbN.mono (by omega)).trans hb7).mono hg)
      clear hN own own2 x0 x1
      go_wp2
      go_ret
      exact ⟨g7, c7, N, ⟨rfl, own7, hl7⟩, p2, by omega, r7, hO7⟩
    · obtain ⟨ownN, srcN⟩ := own_copy w2 gO c p2 L own r2 hO (by omega)
      have hbN : Below w2.heap.size w2 (w2.alloc (.cells #[] 49)) := by (repeat' (first | exact Below.refl _ _ | apply Below.alloc | apply Below.setCell | apply Below.drew | apply below_draws)) <;> (first | omega | (simp <;> omega))
      have hszN : (w2.alloc (.cells #[] 49)).heap.size = w2.heap.size + 1 := by simp
      clear own
      go_wp2_with (at_builtin; refine append_rec rowTHit encHit (by decide) rfl _ _ rfl w.heap.size _ _ [] rfl ownN _ _ _ L rfl rfl srcN (by show 0 + _ ≤ _; omega) (by omega) (by omega) ?_)
      intro N hN g7 c7 w7 own7 _ _ hb7
      have hl7 : N.length ≤ 6 := by rw [hN.out]; omega
      have hO7 := hO.trans (Outer.of ((hbN.mono (by omega)).trans hb7))
      have r7 := r2.below (((hbN.mono (by omega)).trans hb7).mono hg)
      clear hN
      go_wp2
      go_ret
      exact ⟨g7, c7, N, ⟨rfl, own7, hl7⟩, p2, by omega, r7, hO7⟩
set_option maxRecDepth 8000 in
theorem drawTopPush_any (a0 : Option Addr) (len cap : Nat) (zs : List Int) (w : World) (h : IsRow .u8 w a0 len cap zs) :
    Calls Try.prog 43 #[.slice a0 len cap] w fun e w' => ∃ (I di : Nat) (L : List (Int × Int)) (hd hp most : Int),
      (e = .returned (.tuple #[.slice (some ⟨I, 0, none⟩) L.length di, .agg #[.int .i64 hd, .int .i64 hp], .int .i64 most]) ∧ L.length ≤ 6 ∧ 1 ≤ hd ∧ hd ≤ 10 ∧ 0 ≤ hp ∧ hp ≤ 6 ∧ 0 ≤ most ∧ most ≤ 8 ∧ OwnE enc2 49 2 w' w.heap.size I di L) ∧ Below w.heap.size w w' := by
  go_enter Try.func43, Try.ntmps43
  go_wp2_with fail
  have hbN : Below w.heap.size w (w.alloc (.cells #[.int .i64 0, .int .i64 0] 49)) := by (repeat' (first | exact Below.refl _ _ | apply Below.alloc | apply Below.setCell | apply Below.drew | apply below_draws)) <;> (first | omega | (simp <;> omega))
  have c0 : (w.alloc (.cells #[.int .i64 0, .int .i64 0] 49)).cell? ⟨w.heap.size, 0, none⟩ = some (.int .i64 0) := by simp [go_sem]
  have c1 : (w.alloc (.cells #[.int .i64 0, .int .i64 0] 49)).cell? ⟨w.heap.size, 1, none⟩ = some (.int .i64 0) := by simp [go_sem]
  have z0 : (w.alloc (.cells #[.int .i64 0, .int .i64 0] 49)).frozen? ⟨w.heap.size, 0, none⟩ = false := by simp [go_sem]
  have z1 : (w.alloc (.cells #[.int .i64 0, .int .i64 0] 49)).frozen? ⟨w.heap.size, 1, none⟩ = false := by simp [go_sem]
  have hN : (w.alloc (.cells #[.int .i64 0, .int .i64 0] 49)).heap.size = w.heap.size + 1 := by simp
  refine (open_any a0 len cap zs _ (h.below hbN)).mono ?_
  rintro e w1 ⟨⟨rfl, r1⟩, hb1⟩
  rw [hN] at r1 hb1 ⊢
  replace c0 := (hb1.cell (p := ⟨w.heap.size, 0, none⟩) (by show w.heap.size < _; omega)).trans c0
  replace c1 := (hb1.cell (p := ⟨w.heap.size, 1, none⟩) (by show w.heap.size < _; omega)).trans c1
  replace z0 := (hb1.frozen (p := ⟨w.heap.size, 0, none⟩) (by show w.heap.size < _; omega)).trans z0
  replace z1 := (hb1.frozen (p := ⟨w.heap.size, 1, none⟩) (by show w.heap.size < _; omega)).trans z1
  obtain ⟨g, hg⟩ : ∃ g, g = w.heap.size + 1 := ⟨_, rfl⟩
  have hgw : w.heap.size < g := by omega
  rw [← hg] at r1 ⊢
  have O1 : Outer w.heap.size g w w1 := (Outer.of hbN).trans (Outer.of (hb1.mono (by omega)))
  have hlt1 := r1.lt
  have hs1 := hb1.size
  clear hg hb1 h hbN
  go_wp2_with fail
  refine (l30AnyHits_gen g 0 _ r1 (by omega)).mono ?_
  rintro e w2 ⟨I, di, L, ⟨rfl, own, hL6⟩, p2, hp2, r2, o2⟩
  have hs2 := o2.2.1
  have O2 := O1.trans (o2.mono (by omega))
  obtain ⟨hc, hf⟩ := o2.cells
  replace c0 := (hc _ _ (by omega) (by omega)).trans c0
  replace c1 := (hc _ _ (by omega) (by omega)).trans c1
  replace z0 := (hf _ _ (by omega) (by omega)).trans z0
  replace z1 := (hf _ _ (by omega) (by omega)).trans z1
  clear o2 O1 r1 hc hf
  go_wp2_with fail
  refine (pick_gen g p2 _ (by omega) (by omega) _ r2 (by omega)).mono ?_
  rintro e w3 ⟨v3, ⟨rfl, h3, h4⟩, p3, hp3, r3, o3⟩
  have hs3 := o3.2.1
  have O3 := O2.trans (o3.mono (by omega))
  obtain ⟨hc, hf⟩ := o3.cells
  replace c0 := (hc _ _ (by omega) (by omega)).trans c0
  replace c1 := (hc _ _ (by omega) (by omega)).trans c1
  replace z0 := (hf _ _ (by omega) (by omega)).trans z0
  replace z1 := (hf _ _ (by omega) (by omega)).trans z1
  replace own := ownEG own (by omega) o3
  clear o3 O2 r2 hc hf
  go_wp2_with fail
  refine (pick_gen g p3 _ (by omega) (by omega) _ r3 (by omega)).mono ?_
  rintro e w4 ⟨v4, ⟨rfl, h5, h6⟩, p4, hp4, r4, o4⟩
  have hs4 := o4.2.1
  have O4 := O3.trans (o4.mono (by omega))
  obtain ⟨hc, hf⟩ := o4.cells
  replace c0 := (hc _ _ (by omega) (by omega)).trans c0
  replace c1 := (hc _ _ (by omega) (by omega)).trans c1
  replace z0 := (hf _ _ (by omega) (by omega)).trans z0
  replace z1 := (hf _ _ (by omega) (by omega)).trans z1
  replace own := ownEG own (by omega) o4
  clear o4 O3 r3 hc hf
  have hbA : Below w4.heap.size w4 (w4.alloc (.cells #[.int .i64 (1 + v3), .int .i64 v4] 49)) := by (repeat' (first | exact Below.refl _ _ | apply Below.alloc | apply Below.setCell | apply Below.drew | apply below_draws)) <;> (first | omega | (simp <;> omega))
  have f0 : (w4.alloc (.cells #[.int .i64 (1 + v3), .int .i64 v4] 49)).cell? ⟨w4.heap.size, 0, none⟩ = some (.int .i64 (1 + v3)) := by simp [go_sem]
  have f1 : (w4.alloc (.cells #[.int .i64 (1 + v3), .int .i64 v4] 49)).cell? ⟨w4.heap.size, 1, none⟩ = some (.int .i64 v4) := by simp [go_sem]
  have hNA : (w4.alloc (.cells #[.int .i64 (1 + v3), .int .i64 v4] 49)).heap.size = w4.heap.size + 1 := by simp
  have r5 := r4.below (hbA.mono r4.lt)
  have O5 := O4.trans ((Outer.of hbA).mono (by omega))
  have hlt4 := r4.lt
  replace own := ownEB own hbA
  replace c0 := (hbA.cell (p := ⟨w.heap.size, 0, none⟩) (by show w.heap.size < _; omega)).trans c0
  replace c1 := (hbA.cell (p := ⟨w.heap.size, 1, none⟩) (by show w.heap.size < _; omega)).trans c1
  replace z0 := (hbA.frozen (p := ⟨w.heap.size, 0, none⟩) (by show w.heap.size < _; omega)).trans z0
  replace z1 := (hbA.frozen (p := ⟨w.heap.size, 1, none⟩) (by show w.heap.size < _; omega)).trans z1
  clear r4 O4 hbA
  go_wp2_with fail
  generalize (w4.alloc (.cells #[.int .i64 (1 + v3), .int .i64 v4] 49)) = W5 at f0 f1 own r5 O5 c0 c1 z0 z1 hNA ⊢
  generalize hH : w4.heap.size = H at f0 f1 hNA ⊢
  generalize hRr : w.heap.size = R0 at c0 c1 z0 z1 ⊢
  have hRw : R0 < W5.heap.size := by omega
  have hHw : H < W5.heap.size := by omega
  have hHg : H ≠ g := by omega
  have hRg : R0 ≠ g := by omega
  have hRH : R0 ≠ H := by omega
  go_region_law (first | (go_simp; go_at_call 76; refine (pick_gen g p4 _ (by omega) (by omega) _ (by exact r5) (by omega)).mono ?_; rintro e w6 ⟨v6, ⟨rfl, h7, h8⟩, p6, hp6, r6, o6⟩; have o6b : Outer W5.heap.size g W5 w6 := o6; obtain ⟨hc, hf⟩ := o6b.cells; have d0 := (hc R0 0 hRw hRg).trans c0; have d1 := (hc R0 1 hRw hRg).trans c1; have y0 := (hf R0 0 hRw hRg).trans z0; have y1 := (hf R0 1 hRw hRg).trans z1; have e0 := (hc H 0 hHw hHg).trans f0; have e1 := (hc H 1 hHw hHg).trans f1; clear hc hf))
  all_goals
    have hsz6 := o6b.2.1
    have O6 := O5.trans (o6b.mono (by omega))
    have own6 := ownEG own (by omega) o6b
    have oA := outer_set w6 R0 0 (.int .i64 (1 + v3))
    have oB := outer_set (w6.setCell ⟨R0, 0, none⟩ (.int .i64 (1 + v3))) R0 1 (.int .i64 v4)
    have own7 := ownEM (ownEG (ownEG own6 (by omega) oA) (by omega) oB) (base' := w.heap.size) (by omega)
    have hBf := ((O6.under (Nat.le_refl _) (by omega)).setCell (p := ⟨R0, 0, none⟩) (by show _ ≤ R0; omega) (.int .i64 (1 + v3))).setCell (p := ⟨R0, 1, none⟩) (by show _ ≤ R0; omega) (.int .i64 v4)
    clear own own6 oA oB O6 o6 O5 r6 r5
    have hwr := IntWalk.i64_in ((L.length : Int) + v6) (by omega)
    go_wp2
    exact bodyPost_ret (v := .tuple #[.slice (some ⟨I, 0, none⟩) L.length di, .agg #[.int .i64 (1 + v3), .int .i64 v4], .int .i64 ((L.length : Int) + v6)]) (by simp [results, Try.results43, go_sem, *]) rfl ⟨I, di, L, 1 + v3, v4, (L.length : Int) + v6, ⟨rfl, hL6, by omega, by omega, by omega, by omega, by omega, by omega, own7⟩, hBf⟩
end Go.Proofs.Yteomiaffdbbpoaa
