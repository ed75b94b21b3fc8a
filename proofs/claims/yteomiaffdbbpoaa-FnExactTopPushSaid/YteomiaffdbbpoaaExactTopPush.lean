/-
  FnExactTopPush: the walk.
-/
import Derived.Test.YteomiaffdbbpoaaTopSpec
import Derived.Test.YteomiaffdbbpoaaStructs
import Derived.Deep.RegionHeld3
namespace Go.Proofs.Yteomiaffdbbpoaa
open Go.RowKit
set_option linter.unusedVariables false

theorem topS_len {L : List (Int × Int)} {hd hp most : Int} (h : L.length ≤ 1048576) : (topS L hd hp most).length ≤ 1048577 := by
  unfold topS pushH
  split
  · split
    · have := insH_len L (hd, hp); rw [List.length_take]; omega
    · omega
  · simp
theorem OwnE.bel {w w' : World} {base g c : Nat} {L : List (Int × Int)} (h : OwnE enc2 49 2 w base g c L) (hb : Below w.heap.size w w') : OwnE enc2 49 2 w' base g c L := own_below h hb
set_option maxHeartbeats 1600000 in
theorem walk_FnExactTopPush (A : Option Addr) (len cap : Nat) (z : List (Int × Int)) (hd : Int) (_ : (Lit.int .i64 hd).wf = true) (hp : Int) (_ : (Lit.int .i64 hp).wf = true) (most : Int) (_ : (Lit.int .i64 most).wf = true) (w : World) (hz : z.length = len) (h : Rds w 2 A len (z.flatMap enc2) ∧ len ≤ cap ∧ cap ≤ maxLen) :
    Calls Try.prog 8 #[.slice A len cap, .agg #[.int .i64 hd, .int .i64 hp], .int .i64 most] w fun e w' => e = .returned (.bool true) ∧ Below w.heap.size w w' := by
  subst hz
  obtain ⟨h, hc1, hc2⟩ := h
  have hB0 : Below w.heap.size w (w.alloc (.cells #[.int .i64 hd, .int .i64 hp] 60)) := (Below.refl _ _).alloc (Nat.le_refl _) _
  have f0 : (w.alloc (.cells #[.int .i64 hd, .int .i64 hp] 60)).cell? ⟨w.heap.size, 0, none⟩ = some (.int .i64 hd) := by simp [go_sem]
  have f1 : (w.alloc (.cells #[.int .i64 hd, .int .i64 hp] 60)).cell? ⟨w.heap.size, 1, none⟩ = some (.int .i64 hp) := by simp [go_sem]
  have hs0 : w.heap.size < (w.alloc (.cells #[.int .i64 hd, .int .i64 hp] 60)).heap.size := by simp
  have h0 := h.below hB0
  go_enter Try.func8, Try.ntmps8
  go_wp2_with fail
  generalize (w.alloc (.cells #[.int .i64 hd, .int .i64 hp] 60)) = W0 at hB0 f0 f1 hs0 h0 ⊢
  refine (szHitS_any A z.length cap 1048576 _ (by unfold maxLen at hc2; omega) (by omega) (by omega)).mono ?_
  rintro e w1 ⟨r, ⟨rfl, hr1, hr2, hr3⟩, rfl⟩
  by_cases hr : r < 0
  · go_wp2
    go_ret
    exact ⟨rfl, hB0⟩
  · have hs : z.length ≤ 1048576 := by rcases hr3 with h9 | h9 <;> omega
    clear hr1 hr2 hr3
    obtain ⟨X, hX⟩ : ∃ X, X = topS z hd hp most := ⟨_, rfl⟩
    have hXl : X.length ≤ 1048577 := by rw [hX]; exact topS_len hs
    have cs := fun A c w h hc1 hc2 => specTopPush_any A c z hd hp most w h hs hc1 hc2
    have ci := fun A c w h hc1 hc2 => implTopPush_any A c z hd hp most w h hs hc1 hc2
    rw [topI_topS, ← hX] at ci
    rw [← hX] at cs
    have CS := Lib.hid cs
    have CI := Lib.hid ci
    clear hX cs ci
    have sz := hs0
    obtain ⟨X, hX⟩ : ∃ X, X = topS z hd hp most := ⟨_, rfl⟩
    have hXl : X.length ≤ 1048577 := by rw [hX]; exact topS_len hs
    have cs := fun A c w h hc1 hc2 => specTopPush_any A c z hd hp most w h hs hc1 hc2
    have ci := fun A c w h hc1 hc2 => implTopPush_any A c z hd hp most w h hs hc1 hc2
    rw [topI_topS, ← hX] at ci
    rw [← hX] at cs
    have CS := Lib.hid cs
    have CI := Lib.hid ci
    clear hX cs ci
    have sz := hs0
    have k0 : ∀ w', Below W0.heap.size W0 w' → w'.cell? ⟨w.heap.size, 0, none⟩ = some (.int .i64 hd) := fun w' h => (h.cell (p := ⟨w.heap.size, 0, none⟩) sz).trans f0
    have k1 : ∀ w', Below W0.heap.size W0 w' → w'.cell? ⟨w.heap.size, 1, none⟩ = some (.int .i64 hp) := fun w' h => (h.cell (p := ⟨w.heap.size, 1, none⟩) sz).trans f1
    go_wp2_with fail
    go_region_held3 (fun w' => Below W0.heap.size W0 w')
      ((repeat' (first | exact Below.refl _ _ | assumption | apply Below.alloc | apply Below.setCell | apply Below.drew | apply below_draws | (refine Below.trans ?_ (Below.mono (by assumption) ?_)))) <;> (first | exact Below.size (by assumption) | omega | (simp; done) | (simp; omega) | (refine Nat.le_trans ?_ (Below.size (by assumption)); (first | omega | (simp <;> omega)))))
      (first | (go_at_call 15; refine (toHitS_any A _ z _ (h0.below (by assumption)) hs).mono ?_; rintro e w8 ⟨g8, ⟨rfl, r8⟩, hb8⟩) | (go_at_call 41; refine (toHit_any hd hp _).mono ?_; rintro e w9 ⟨rfl, hb9⟩) | (go_at_call 40; refine (CS.out _ _ _ (by first | exact r8.src | exact (r8.bel hb9).src) (by omega) (by omega)).mono ?_; rintro e w7 ⟨A7, c7, ⟨rfl, s7⟩, hb7⟩))
    all_goals rename_i hH
    all_goals
      replace f0 := k0 _ hH
      replace f1 := k1 _ hH
      replace sz := Nat.lt_of_lt_of_le sz hH.size
      have hBA19 := hB0.trans (hH.mono hB0.size)
      have uA19 := hBA19.size
      have hB719 : Below w7.heap.size w7 w7 := Below.refl _ _
      clear k0 k1 hH
      try clear hb8
      try clear hb9
      try clear r8
      try clear hb7
      go_wp2_with fail
      refine (toHitS_any A _ z _ (h.below hBA19) hs).mono ?_
      rintro e w21 ⟨gA, ⟨rfl, rA⟩, hb⟩
      have tA := rA.lt
      have hBA21 := hBA19.trans (hb.mono hBA19.size)
      have hB721 := hB719.trans (hb.mono hB719.size)
      have uA21 := hBA21.size
      have u721 := hB721.size
      have ub21 := hb.size
      clear hb
      have q0 := (hB721.cell (p := ⟨w.heap.size, 0, none⟩) sz).trans f0
      have q1 := (hB721.cell (p := ⟨w.heap.size, 1, none⟩) sz).trans f1
      go_wp2_with fail
      refine (toHit_any hd hp _).mono ?_
      rintro e w22 ⟨rfl, hb⟩
      clear q0 q1
      replace rA := own_below rA hb
      have hBA22 := hBA21.trans (hb.mono hBA21.size)
      have hB722 := hB721.trans (hb.mono hB721.size)
      have uA22 := hBA22.size
      have u722 := hB722.size
      have ub22 := hb.size
      clear hb
      go_wp2_with fail
      refine (CI.out _ _ _ (OwnE.src (enc := enc2) rA) (by omega) (by omega)).mono ?_
      rintro e w23 ⟨gG, cG, ⟨rfl, rG⟩, hb⟩
      have tG := rG.lt
      replace rA := own_below rA hb
      have hBA23 := hBA22.trans (hb.mono hBA22.size)
      have hB723 := hB722.trans (hb.mono hB722.size)
      have uA23 := hBA23.size
      have u723 := hB723.size
      have ub23 := hb.size
      clear hb
      go_wp2_with fail
      refine (eqHitS_same _ _ _ _ X _ (Rds.own rG) (s7.below hB723).1 (by omega)).mono ?_
      rintro e w24 ⟨rfl, hb⟩
      replace rA := own_below rA hb
      replace rG := own_below rG hb
      have hBA24 := hBA23.trans (hb.mono hBA23.size)
      have hB724 := hB723.trans (hb.mono hB723.size)
      have uA24 := hBA24.size
      have u724 := hB724.size
      have ub24 := hb.size
      clear hb
      go_wp2_with fail
      refine (toHitS_any A _ z _ (h.below hBA24) hs).mono ?_
      rintro e w25 ⟨gE, ⟨rfl, rE⟩, hb⟩
      have tE := rE.lt
      replace rA := own_below rA hb
      replace rG := own_below rG hb
      have hBA25 := hBA24.trans (hb.mono hBA24.size)
      have hB725 := hB724.trans (hb.mono hB724.size)
      have uA25 := hBA25.size
      have u725 := hB725.size
      have ub25 := hb.size
      clear hb
      go_wp2_with fail
      refine (eqHitS_same _ _ _ _ z _ (Rds.own rA) (Rds.own rE) (by omega)).mono ?_
      rintro e w26 ⟨rfl, hb⟩
      replace rA := own_below rA hb
      replace rG := own_below rG hb
      replace rE := own_below rE hb
      have hBA26 := hBA25.trans (hb.mono hBA25.size)
      have hB726 := hB725.trans (hb.mono hB725.size)
      have uA26 := hBA26.size
      have u726 := hB726.size
      have ub26 := hb.size
      clear hb
      clear rE
      go_wp2_with fail
      refine (markHitS_any _ _ _ z 1 _ rA (by omega) (by omega) (by omega)).mono ?_
      rintro e w27 ⟨⟨rfl, rn⟩, hg⟩
      have hb7 : Below w7.heap.size w26 w27 := below_append rA hg (by omega) (by omega)
      have hbw : Below w.heap.size w26 w27 := hb7.mono (by omega)
      replace rG := own_kept rG hg (fun k k2 e1 e2 => by have := tG k e1; have := tA k2 e2; omega)
      replace rA := rn
      clear rn
      have hBA27 := hBA26.trans hbw
      have hB727 := hB726.trans hb7
      have uA27 := hBA27.size
      have u727 := hB727.size
      have ub27 := hg.size
      clear hb7 hbw hg
      go_wp2_with fail
      refine (eqHitS_same _ _ _ _ X _ (Rds.own rG) (s7.below hB727).1 (by omega)).mono ?_
      rintro e w28 ⟨rfl, hb⟩
      replace rA := own_below rA hb
      replace rG := own_below rG hb
      have hBA28 := hBA27.trans (hb.mono hBA27.size)
      have hB728 := hB727.trans (hb.mono hB727.size)
      have uA28 := hBA28.size
      have u728 := hB728.size
      have ub28 := hb.size
      clear hb
      go_wp2_with fail
      refine (markHitS_any _ _ _ X 1 _ rG (by omega) (by omega) (by omega)).mono ?_
      rintro e w29 ⟨⟨rfl, rn⟩, hg⟩
      have hb7 : Below w7.heap.size w28 w29 := below_append rG hg (by omega) (by omega)
      have hbw : Below w.heap.size w28 w29 := hb7.mono (by omega)
      replace rA := own_kept rA hg (fun k k2 e1 e2 => by have := tA k e1; have := tG k2 e2; omega)
      replace rG := rn
      clear rn
      have hBA29 := hBA28.trans hbw
      have hB729 := hB728.trans hb7
      have uA29 := hBA29.size
      have u729 := hB729.size
      have ub29 := hg.size
      clear hb7 hbw hg
      go_wp2_with fail
      refine (heldHitS_any _ _ X.length 1 _ (Rds.own rG) (by omega) (by omega) (by omega)).mono ?_
      rintro e w30 ⟨rfl, hb⟩
      replace rA := own_below rA hb
      replace rG := own_below rG hb
      have hBA30 := hBA29.trans (hb.mono hBA29.size)
      have hB730 := hB729.trans (hb.mono hB729.size)
      have uA30 := hBA30.size
      have u730 := hB730.size
      have ub30 := hb.size
      clear hb
      clear rA tA
      have f0b := (hB730.cell (p := ⟨w.heap.size, 0, none⟩) sz).trans f0
      have f1b := (hB730.cell (p := ⟨w.heap.size, 1, none⟩) sz).trans f1
      have szb : w.heap.size < w30.heap.size := by omega
      have k0 : ∀ w', Below w30.heap.size w30 w' → w'.cell? ⟨w.heap.size, 0, none⟩ = some (.int .i64 hd) := fun w' h => (h.cell (p := ⟨w.heap.size, 0, none⟩) szb).trans f0b
      have k1 : ∀ w', Below w30.heap.size w30 w' → w'.cell? ⟨w.heap.size, 1, none⟩ = some (.int .i64 hp) := fun w' h => (h.cell (p := ⟨w.heap.size, 1, none⟩) szb).trans f1b
      have hz := (h.below hBA30)
      go_wp2_with fail
      go_region_held3 (fun w' => Below w30.heap.size w30 w')
        ((repeat' (first | exact Below.refl _ _ | assumption | apply Below.alloc | apply Below.setCell | apply Below.drew | apply below_draws | (refine Below.trans ?_ (Below.mono (by assumption) ?_)))) <;> (first | exact Below.size (by assumption) | omega | (simp; done) | (simp; omega) | (refine Nat.le_trans ?_ (Below.size (by assumption)); (first | omega | (simp <;> omega)))))
        (first | (go_at_call 15; refine (toHitS_any A _ z _ (hz.below (by assumption)) hs).mono ?_; rintro e v8 ⟨g8, ⟨rfl, r8⟩, hb8⟩) | (go_at_call 41; refine (toHit_any hd hp _).mono ?_; rintro e v9 ⟨rfl, hb9⟩) | (go_at_call 42; refine (CI.out _ _ _ (by first | exact r8.src | exact (r8.bel hb9).src) (by omega) (by omega)).mono ?_; rintro e v7 ⟨gJ, cJ, ⟨rfl, rJ⟩, hb7⟩))
      all_goals rename_i hb
      all_goals try clear hb8
      all_goals try clear hb9
      all_goals try clear r8
      all_goals try clear hb7
      all_goals clear k0 k1 f0b f1b szb hz
      all_goals
        replace rG := own_below rG hb
        have hBA31 := hBA30.trans (hb.mono hBA30.size)
        have hB731 := hB730.trans (hb.mono hB730.size)
        have uA31 := hBA31.size
        have u731 := hB731.size
        have ub31 := hb.size
        clear hb
        go_wp2_with fail
        refine (eqHitS_same _ _ _ _ X _ (Rds.own rJ) (s7.below hB731).1 (by omega)).mono ?_
        rintro e w32 ⟨rfl, hb⟩
        replace rG := own_below rG hb
        replace rJ := own_below rJ hb
        have hBA32 := hBA31.trans (hb.mono hBA31.size)
        have hB732 := hB731.trans (hb.mono hB731.size)
        have uA32 := hBA32.size
        have u732 := hB732.size
        have ub32 := hb.size
        clear hb
        go_wp2_with fail
        refine (heldHitS_any _ _ X.length 1 _ (Rds.own rG) (by omega) (by omega) (by omega)).mono ?_
        rintro e w33 ⟨rfl, hb⟩
        replace rG := own_below rG hb
        replace rJ := own_below rJ hb
        have hBA33 := hBA32.trans (hb.mono hBA32.size)
        have hB733 := hB732.trans (hb.mono hB732.size)
        have uA33 := hBA33.size
        have u733 := hB733.size
        have ub33 := hb.size
        clear hb
        go_wp2
        go_ret
        exact ⟨rfl, hBA33⟩
end Go.Proofs.Yteomiaffdbbpoaa
