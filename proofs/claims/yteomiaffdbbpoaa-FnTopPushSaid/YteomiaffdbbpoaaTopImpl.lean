/-
  Contract of impl.TopPush.
-/
import Derived.Test.YteomiaffdbbpoaaFirst
namespace Go.Proofs.Yteomiaffdbbpoaa
open Go.RowKit Go.Sort
set_option linter.unusedVariables false

def topI (L : List (Int × Int)) (hd hp most : Int) : List (Int × Int) :=
  if hitsB L = true ∧ wi most 1 16 = true ∧ (L.length : Int) ≤ most then
    if anyDoc L hd = false ∧ wi hd 1 9999 = true ∧ 1 ≤ hp then (sortH (L ++ [(hd, hp)])).take most.toNat else L
  else []
theorem cHitsOk (A : Option Addr) (c : Nat) (L : List (Int × Int)) (n : Nat) (hl : L.length = n) (r : Bool) (hr : hitsB L = r) (W : World) (h : Rds W 2 A L.length (L.flatMap enc2)) (hn : L.length ≤ 1048576) (hcap : L.length ≤ c) (hcm : c ≤ 9223372036854775807) (d : Nat) (os : Array Obj) :
    Calls Try.prog 16 #[.slice A n c] (grow (redrawn W d) os) fun e w'' => e = .returned (.bool r) ∧ ∃ p : Regrown, w'' = grow (redrawn W p.d) p.os := by
  subst hl
  subst hr
  exact Calls.regrown_of (implHitsOk_any A c L _ (h.below (below_regrown W d os)) hn hcap hcm)
set_option maxHeartbeats 1600000 in
theorem implTopPush_any (A : Option Addr) (c : Nat) (L : List (Int × Int)) (hd hp most : Int) (w : World) (h : SrcE enc2 2 w A c L) (hn : L.length ≤ 1048576) (hcap : L.length ≤ c) (hcm : c ≤ 9223372036854775807) :
    Calls Try.prog 42 #[.slice A L.length c, .agg #[.int .i64 hd, .int .i64 hp], .int .i64 most] w (MakesH (topI L hd hp most) w) := by
  obtain ⟨R, hR⟩ : ∃ R, R = topI L hd hp most := ⟨_, rfl⟩
  rw [← hR]
  have HR := Lib.hid hR
  clear hR
  have hB0 : Below w.heap.size w (w.alloc (.cells #[.int .i64 hd, .int .i64 hp] 49)) := (Below.refl _ _).alloc (Nat.le_refl _) _
  have f0 : (w.alloc (.cells #[.int .i64 hd, .int .i64 hp] 49)).cell? ⟨w.heap.size, 0, none⟩ = some (.int .i64 hd) := by simp [go_sem]
  have f1 : (w.alloc (.cells #[.int .i64 hd, .int .i64 hp] 49)).cell? ⟨w.heap.size, 1, none⟩ = some (.int .i64 hp) := by simp [go_sem]
  have hs0 : w.heap.size < (w.alloc (.cells #[.int .i64 hd, .int .i64 hp] 49)).heap.size := by simp
  have h0 := h.below hB0
  go_enter Try.func42, Try.ntmps42
  go_wp2_with fail
  generalize (w.alloc (.cells #[.int .i64 hd, .int .i64 hp] 49)) = W0 at hB0 f0 f1 hs0 h0 ⊢
  cases ho : hitsB L with
  | false =>
    have hN : R = [] := by rw [HR.out]; unfold topI; rw [if_neg (fun hh => by rw [ho] at hh; exact absurd hh.1 (by simp))]
    subst hN
    clear HR
    refine (implHitsOk_any A c L _ h0.1 hn hcap hcm).mono ?_
    rintro e Wq ⟨rfl, hBq0⟩
    rw [ho]
    have hBq := hB0.trans (hBq0.mono hB0.size)
    go_wp2
    go_ret
    exact ⟨_, 0, ⟨rfl, own_mono (ownE_made (enc := enc2) (F := 2) 49 Wq Wq.heap.size (Nat.le_refl _)) hBq.size⟩, Below.trans hBq ((Below.refl _ _).alloc hBq.size _)⟩
  | true =>
    cases hw : wi most 1 16 with
    | false =>
      have hN : R = [] := by rw [HR.out]; unfold topI; rw [if_neg (fun hh => by rw [hw] at hh; exact absurd hh.2.1 (by simp))]
      subst hN
      clear HR
      refine (implHitsOk_any A c L _ h0.1 hn hcap hcm).mono ?_
      rintro e Wq ⟨rfl, hBq0⟩
      rw [ho]
      have hBq := hB0.trans (hBq0.mono hB0.size)
      go_wp2_with fail
      refine (within_any most 1 16 _).mono ?_
      rintro e Wr ⟨rfl, rfl⟩
      rw [hw]
      go_wp2
      go_ret
      exact ⟨_, 0, ⟨rfl, own_mono (ownE_made (enc := enc2) (F := 2) 49 Wq Wq.heap.size (Nat.le_refl _)) hBq.size⟩, Below.trans hBq ((Below.refl _ _).alloc hBq.size _)⟩
    | true =>
      by_cases hlm : (L.length : Int) ≤ most
      · have hgt : decide (most < (L.length : Int)) = false := decide_eq_false (by omega)
        obtain ⟨hm0, hm1⟩ := wi_true.1 hw
        have HR2 : Hid (R = if anyDoc L hd = false ∧ wi hd 1 9999 = true ∧ 1 ≤ hp then (sortH (L ++ [(hd, hp)])).take most.toNat else L) := by show _ = _; rw [HR.out]; unfold topI; rw [if_pos ⟨ho, hw, hlm⟩]
        clear HR
        refine (implHitsOk_any A c L _ h0.1 hn hcap hcm).mono ?_
        rintro e Wq ⟨rfl, hBq0⟩
        rw [ho]
        have hBq := hB0.trans (hBq0.mono hB0.size)
        go_wp2_with fail
        refine (within_any most 1 16 _).mono ?_
        rintro e Wr ⟨rfl, rfl⟩
        rw [hw]
        have hsq := Nat.lt_of_lt_of_le hs0 hBq0.size
        have f0q := (hBq0.cell (p := ⟨w.heap.size, 0, none⟩) hs0).trans f0
        have f1q := (hBq0.cell (p := ⟨w.heap.size, 1, none⟩) hs0).trans f1
        have hq := h0.below hBq0
        clear hBq0 f0 f1 hgt hw
        have own0 := ownE_made (enc := enc2) (F := 2) 49 Wq Wq.heap.size (Nat.le_refl _)
        go_wp2_with (at_builtin; refine append_rec rowTHit encHit (by decide) rfl _ _ rfl Wq.heap.size _ _ [] rfl own0 _ _ _ L rfl rfl (hq.below (by (repeat' (first | exact Below.refl _ _ | apply Below.alloc | apply Below.setCell | apply Below.drew | apply below_draws)) <;> (first | omega | (simp <;> omega)))) (by simp; omega) (by omega) (by simp <;> omega) ?_)
        intro L1 hL1 g1 c1 w1 own1 hg1 hat1 hb1
        have e1 : L = L1 := hL1.out.symm
        clear hL1
        subst e1
        have hB1 : Below Wq.heap.size Wq w1 := Below.trans (by (repeat' (first | exact Below.refl _ _ | apply Below.alloc | apply Below.setCell | apply Below.drew | apply below_draws)) <;> (first | omega | (simp <;> omega))) hb1
        clear hb1 hg1 hat1
        have hs1 := hB1.size
        have q0 := (hB1.cell (p := ⟨w.heap.size, 0, none⟩) hsq).trans f0q
        have q1 := (hB1.cell (p := ⟨w.heap.size, 1, none⟩) hsq).trans f1q
        have hq1 := hq.below hB1
        have hBw1 := hBq.trans (hB1.mono hBq.size)
        cases had : anyDoc L hd with
        | true =>
          have hN : L = R := by rw [HR2.out, if_neg (fun hh => by rw [had] at hh; exact absurd hh.1 (by simp))]
          subst hN
          clear HR2
          go_wp2_with fail
          refine (hasDoc_any A c L hd _ hq1.1 hn).mono ?_
          rintro e W2 ⟨rfl, hBq1⟩
          rw [had]
          have own2 := own_below own1 hBq1
          have p0 := (hBq1.cell (p := ⟨w.heap.size, 0, none⟩) (Nat.lt_of_lt_of_le hsq hs1)).trans q0
          have p1 := (hBq1.cell (p := ⟨w.heap.size, 1, none⟩) (Nat.lt_of_lt_of_le hsq hs1)).trans q1
          have hBw2 := hBw1.trans (hBq1.mono hBw1.size)
          have hs2 := hBq1.size
          go_wp2
          go_ret
          exact ⟨g1, c1, ⟨rfl, own_mono own2 hBq.size⟩, hBw2⟩
        | false =>
          cases hwd : wi hd 1 9999 with
          | false =>
            have hN : L = R := by rw [HR2.out, if_neg (fun hh => by rw [hwd] at hh; exact absurd hh.2.1 (by simp))]
            subst hN
            clear HR2
            go_wp2_with fail
            refine (hasDoc_any A c L hd _ hq1.1 hn).mono ?_
            rintro e W2 ⟨rfl, hBq1⟩
            rw [had]
            have own2 := own_below own1 hBq1
            have p0 := (hBq1.cell (p := ⟨w.heap.size, 0, none⟩) (Nat.lt_of_lt_of_le hsq hs1)).trans q0
            have p1 := (hBq1.cell (p := ⟨w.heap.size, 1, none⟩) (Nat.lt_of_lt_of_le hsq hs1)).trans q1
            have hBw2 := hBw1.trans (hBq1.mono hBw1.size)
            have hs2 := hBq1.size
            go_wp2_with fail
            refine (within_any hd 1 9999 _).mono ?_
            rintro e Wr ⟨rfl, rfl⟩
            rw [hwd]
            go_wp2
            go_ret
            exact ⟨g1, c1, ⟨rfl, own_mono own2 hBq.size⟩, hBw2⟩
          | true =>
            by_cases hp1 : hp < 1
            · have hp2 : decide (hp < 1) = true := decide_eq_true hp1
              have hN : L = R := by rw [HR2.out, if_neg (fun hh => absurd hh.2.2 (by omega))]
              subst hN
              clear HR2
              go_wp2_with fail
              refine (hasDoc_any A c L hd _ hq1.1 hn).mono ?_
              rintro e W2 ⟨rfl, hBq1⟩
              rw [had]
              have own2 := own_below own1 hBq1
              have p0 := (hBq1.cell (p := ⟨w.heap.size, 0, none⟩) (Nat.lt_of_lt_of_le hsq hs1)).trans q0
              have p1 := (hBq1.cell (p := ⟨w.heap.size, 1, none⟩) (Nat.lt_of_lt_of_le hsq hs1)).trans q1
              have hBw2 := hBw1.trans (hBq1.mono hBw1.size)
              have hs2 := hBq1.size
              go_wp2_with fail
              refine (within_any hd 1 9999 _).mono ?_
              rintro e Wr ⟨rfl, rfl⟩
              rw [hwd]
              go_wp2
              go_ret
              exact ⟨g1, c1, ⟨rfl, own_mono own2 hBq.size⟩, hBw2⟩
            · have hp2 : decide (hp < 1) = false := decide_eq_false hp1
              have HRT : Hid (R = (sortH (L ++ [(hd, hp)])).take most.toNat) := by show _ = _; rw [HR2.out, if_pos ⟨had, hwd, by omega⟩]
              clear HR2
              obtain ⟨m, rfl⟩ : ∃ m : Nat, most = m := ⟨most.toNat, by omega⟩
              rw [Int.toNat_natCast] at HRT
              go_wp2_with fail
              refine (hasDoc_any A c L hd _ hq1.1 hn).mono ?_
              rintro e W2 ⟨rfl, hBq1⟩
              rw [had]
              have own2 := own_below own1 hBq1
              have p0 := (hBq1.cell (p := ⟨w.heap.size, 0, none⟩) (Nat.lt_of_lt_of_le hsq hs1)).trans q0
              have p1 := (hBq1.cell (p := ⟨w.heap.size, 1, none⟩) (Nat.lt_of_lt_of_le hsq hs1)).trans q1
              have hBw2 := hBw1.trans (hBq1.mono hBw1.size)
              have hs2 := hBq1.size
              go_wp2_with fail
              refine (within_any hd 1 9999 _).mono ?_
              rintro e Wr ⟨rfl, rfl⟩
              rw [hwd]
              clear q0 q1 f0q f1q hBq1
              go_wp2_with (at_builtin; refine append_rec rowTHit encHit (by decide) rfl _ _ rfl Wq.heap.size _ _ L rfl (own2.alloc _) _ _ _ [(hd, hp)] rfl rfl (SrcE.lit encHit _ _ #[.int .i64 hd, .int .i64 hp] [(hd, hp)] rfl 1) (by simp; omega) (by omega) (by simp <;> omega) ?_)
              intro X hX g3 c3 w3 own3 hg3 hat3 hb3
              have hB3 : Below w.heap.size w w3 := hBw2.trans (Below.trans (by (repeat' (first | exact Below.refl _ _ | apply Below.alloc | apply Below.setCell | apply Below.drew | apply below_draws)) <;> (first | omega | (simp <;> omega))) (hb3.mono hBq.size))
              have hXl : Hid (X.length = L.length + 1) := by show _ = _; rw [hX.out]; simp
              clear hb3 hg3 hat3
              go_wp2_with fail
              refine (firstHits_any _ _ X m _ own3.src (by have := hXl.out; omega) (by omega)).mono ?_
              rintro e w4 ⟨g4, c4, ⟨rfl, own4⟩, hb4⟩
              have hRR : Hid ((sortH X).take m = R) := by show _ = _; rw [HRT.out, hX.out]
              rw [hRR.out] at own4 ⊢
              go_wp2
              go_ret
              exact ⟨g4, c4, ⟨rfl, own_mono own4 hB3.size⟩, hB3.trans (hb4.mono hB3.size)⟩
      · have hgt : decide (most < (L.length : Int)) = true := decide_eq_true (by omega)
        have hN : R = [] := by rw [HR.out]; unfold topI; rw [if_neg (fun hh => hlm hh.2.2)]
        subst hN
        clear HR
        refine (implHitsOk_any A c L _ h0.1 hn hcap hcm).mono ?_
        rintro e Wq ⟨rfl, hBq0⟩
        rw [ho]
        have hBq := hB0.trans (hBq0.mono hB0.size)
        go_wp2_with fail
        refine (within_any most 1 16 _).mono ?_
        rintro e Wr ⟨rfl, rfl⟩
        rw [hw]
        go_wp2
        go_ret
        exact ⟨_, 0, ⟨rfl, own_mono (ownE_made (enc := enc2) (F := 2) 49 Wq Wq.heap.size (Nat.le_refl _)) hBq.size⟩, Below.trans hBq ((Below.refl _ _).alloc hBq.size _)⟩
end Go.Proofs.Yteomiaffdbbpoaa
