/-
  Contract of spec.TopPush.
-/
import Derived.Test.YteomiaffdbbpoaaTopLaw
namespace Go.Proofs.Yteomiaffdbbpoaa
open Go.RowKit Go.Sort
set_option linter.unusedVariables false

def ReadsH (L : List (Int × Int)) (w : World) (e : Ending) (w' : World) : Prop :=
  ∃ A c, (e = .returned (.slice A L.length c) ∧ SrcE enc2 2 w' A c L) ∧ Below w.heap.size w w'
theorem MakesH.reads {L : List (Int × Int)} {w w' : World} {e : Ending} (h : MakesH L w e w') : ReadsH L w e w' := by
  obtain ⟨g, c, ⟨h1, h2⟩, h3⟩ := h
  exact ⟨_, _, ⟨h1, h2.src⟩, h3⟩
set_option maxHeartbeats 1600000 in
theorem specTopPush_any (A : Option Addr) (c : Nat) (L : List (Int × Int)) (hd hp most : Int) (w : World) (h : SrcE enc2 2 w A c L) (hn : L.length ≤ 1048576) (hcap : L.length ≤ c) (hcm : c ≤ 9223372036854775807) :
    Calls Try.prog 40 #[.slice A L.length c, .agg #[.int .i64 hd, .int .i64 hp], .int .i64 most] w (ReadsH (topS L hd hp most) w) := by
  obtain ⟨R, hR⟩ : ∃ R, R = topS L hd hp most := ⟨_, rfl⟩
  rw [← hR]
  have HR := Lib.hid hR
  clear hR
  have hB0 : Below w.heap.size w (w.alloc (.cells #[.int .i64 hd, .int .i64 hp] 49)) := (Below.refl _ _).alloc (Nat.le_refl _) _
  have f0 : (w.alloc (.cells #[.int .i64 hd, .int .i64 hp] 49)).cell? ⟨w.heap.size, 0, none⟩ = some (.int .i64 hd) := by simp [go_sem]
  have f1 : (w.alloc (.cells #[.int .i64 hd, .int .i64 hp] 49)).cell? ⟨w.heap.size, 1, none⟩ = some (.int .i64 hp) := by simp [go_sem]
  have hs0 : w.heap.size < (w.alloc (.cells #[.int .i64 hd, .int .i64 hp] 49)).heap.size := by simp
  have h0 := h.below hB0
  go_enter Try.func40, Try.ntmps40
  go_wp2_with fail
  generalize (w.alloc (.cells #[.int .i64 hd, .int .i64 hp] 49)) = W0 at hB0 f0 f1 hs0 h0 ⊢
  cases ho : hitsB L with
  | false =>
    have hN : R = [] := by rw [HR.out]; unfold topS; rw [if_neg (fun hh => by rw [ho] at hh; exact absurd hh.1 (by simp))]
    subst hN
    clear HR
    refine (l13Ok_any A c L _ h0.1 hn).mono ?_
    rintro e Wq ⟨rfl, hBq0⟩
    rw [ho]
    have hBq := hB0.trans (hBq0.mono hB0.size)
    go_wp2
    go_ret
    exact ⟨none, 0, ⟨rfl, SrcE.nil_ _ 0⟩, hBq⟩
  | true =>
    cases hw : wi most 1 16 with
    | false =>
      have hN : R = [] := by rw [HR.out]; unfold topS; rw [if_neg (fun hh => by rw [hw] at hh; exact absurd hh.2.1 (by simp))]
      subst hN
      clear HR
      refine (l13Ok_any A c L _ h0.1 hn).mono ?_
      rintro e Wq ⟨rfl, hBq0⟩
      rw [ho]
      have hBq := hB0.trans (hBq0.mono hB0.size)
      go_wp2_with fail
      refine (l1In_any most 1 16 _).mono ?_
      rintro e Wr ⟨rfl, rfl⟩
      rw [hw]
      go_wp2
      go_ret
      exact ⟨none, 0, ⟨rfl, SrcE.nil_ _ 0⟩, hBq⟩
    | true =>
      by_cases hlm : (L.length : Int) ≤ most
      · have hgt : decide (most < (L.length : Int)) = false := decide_eq_false (by omega)
        obtain ⟨hm0, hm1⟩ := wi_true.1 hw
        have HR2 : Hid (R = if anyDoc L hd = false ∧ wi hd 1 9999 = true ∧ 1 ≤ hp then pushH L (hd, hp) most else L) := by show _ = _; rw [HR.out]; unfold topS; rw [if_pos ⟨ho, hw, hlm⟩]
        clear HR
        refine (l13Ok_any A c L _ h0.1 hn).mono ?_
        rintro e Wq ⟨rfl, hBq0⟩
        rw [ho]
        have hBq := hB0.trans (hBq0.mono hB0.size)
        go_wp2_with fail
        refine (l1In_any most 1 16 _).mono ?_
        rintro e Wr ⟨rfl, rfl⟩
        rw [hw]
        have hsq := Nat.lt_of_lt_of_le hs0 hBq0.size
        have f0q := (hBq0.cell (p := ⟨w.heap.size, 0, none⟩) hs0).trans f0
        have f1q := (hBq0.cell (p := ⟨w.heap.size, 1, none⟩) hs0).trans f1
        have hq := h0.below hBq0
        clear hBq0 f0 f1 hgt hw
        go_wp2_with fail
        go_loopw [7] (fun iv wr => ∃ k : Nat, k ≤ L.length ∧ iv = .int .i64 k ∧ Hid (anyDoc (L.take k) hd = false) ∧ ∃ q, wr = Wq.drewN q) (fun iv _ => L.length - (intOf iv).toNat)
        case atStart => exact ⟨0, Nat.zero_le _, rfl, rfl, 0, rfl⟩
        case round =>
          obtain ⟨k, hk, rfl, hna, q, rfl⟩ := hrel
          by_cases hlt : k < L.length
          · obtain ⟨b, off, rfl, hb, x0, _⟩ := hq.1.at2 hlt
            have hi0 : (k : Int) < (L.length : Int) := by omega
            have had := anyDoc_take (L := L) (j := k) hlt hd
            generalize L[k].1 = r at x0 had
            by_cases hrd : r = hd
            · have hany : anyDoc L hd = true := by
                have h9 : anyDoc (L.take (k + 1)) hd = true := by rw [had, hrd]; simp
                unfold anyDoc at h9 ⊢
                rw [List.any_eq_true] at h9 ⊢
                obtain ⟨x, hx, hx2⟩ := h9
                exact ⟨x, List.mem_of_mem_take hx, hx2⟩
              have hN : L = R := by rw [HR2.out, if_neg (fun hh => by rw [hany] at hh; exact absurd hh.1 (by simp))]
              subst hN
              subst hrd
              clear HR2 had hna hany
              go_wp2_with fail
              go_quiet (fail)
              try rw [World.drewN_drewN]
              have hBn : Below Wq.heap.size Wq (Wq.drewN (q + nq)) := below_of_drewN
              have hBw := hBq.trans (hBn.mono hBq.size)
              have hqn := hq.below hBn
              generalize Wq.drewN (q + nq) = Wn at hBw hqn hBn ⊢
              have own0 := ownE_made (enc := enc2) (F := 2) 49 Wn Wn.heap.size (Nat.le_refl _)
              go_wp2_with (at_builtin; refine append_rec rowTHit encHit (by decide) rfl _ _ rfl Wn.heap.size _ _ [] rfl own0 _ _ _ L rfl rfl (hqn.below (by (repeat' (first | exact Below.refl _ _ | apply Below.alloc | apply Below.setCell | apply Below.drew | apply below_draws)) <;> (first | omega | (simp <;> omega)))) (by simp; omega) (by omega) (by simp <;> omega) ?_)
              intro L1 hL1 g1 c1 w1 own1 hg1 hat1 hb1
              have e1 : L = L1 := hL1.out.symm
              clear hL1
              subst e1
              have hB1 : Below Wn.heap.size Wn w1 := Below.trans (by (repeat' (first | exact Below.refl _ _ | apply Below.alloc | apply Below.setCell | apply Below.drew | apply below_draws)) <;> (first | omega | (simp <;> omega))) hb1
              go_wp2
              go_ret
              exact ⟨_, c1, ⟨rfl, own1.src⟩, hBw.trans (hB1.mono hBw.size)⟩
            · have HA : Hid (anyDoc (L.take (k + 1)) hd = false) := by show _ = _; rw [had, hna.out]; simpa using hrd
              clear had hna
              go_wp2_with fail
              go_quiet (fail)
              go_wp2
              go_roundw
              case rel => exact ⟨k + 1, by omega, by go_num, HA, _, (by first | rfl | exact World.drewN_drewN _ _ _)⟩
              case measure => simp [intOf]; omega
          · obtain rfl : k = L.length := by omega
            have hany : anyDoc L hd = false := by have := hna.out; rwa [List.take_length] at this
            clear hna
            have hBn : Below Wq.heap.size Wq (Wq.drewN q) := below_of_drewN
            have p0 := (hBn.cell (p := ⟨w.heap.size, 0, none⟩) hsq).trans f0q
            have p1 := (hBn.cell (p := ⟨w.heap.size, 1, none⟩) hsq).trans f1q
            have hBw := hBq.trans (hBn.mono hBq.size)
            have hqn := hq.below hBn
            generalize Wq.drewN q = Wn at hBw hqn hBn p0 p1 ⊢
            have hlt9 : ¬ (L.length : Int) < (L.length : Int) := by omega
            cases hwd : wi hd 1 9999 with
            | false =>
              have hN : L = R := by rw [HR2.out, if_neg (fun hh => by rw [hwd] at hh; exact absurd hh.2.1 (by simp))]
              subst hN
              clear HR2
              go_wp2_with fail
              refine (l1In_any hd 1 9999 _).mono ?_
              rintro e Wr ⟨rfl, rfl⟩
              rw [hwd]
              have own0 := ownE_made (enc := enc2) (F := 2) 49 Wn Wn.heap.size (Nat.le_refl _)
              go_wp2_with (at_builtin; refine append_rec rowTHit encHit (by decide) rfl _ _ rfl Wn.heap.size _ _ [] rfl own0 _ _ _ L rfl rfl (hqn.below (by (repeat' (first | exact Below.refl _ _ | apply Below.alloc | apply Below.setCell | apply Below.drew | apply below_draws)) <;> (first | omega | (simp <;> omega)))) (by simp; omega) (by omega) (by simp <;> omega) ?_)
              intro L1 hL1 g1 c1 w1 own1 hg1 hat1 hb1
              have e1 : L = L1 := hL1.out.symm
              clear hL1
              subst e1
              have hB1 : Below Wn.heap.size Wn w1 := Below.trans (by (repeat' (first | exact Below.refl _ _ | apply Below.alloc | apply Below.setCell | apply Below.drew | apply below_draws)) <;> (first | omega | (simp <;> omega))) hb1
              go_wp2
              go_ret
              exact ⟨_, c1, ⟨rfl, own1.src⟩, hBw.trans (hB1.mono hBw.size)⟩
            | true =>
              by_cases hp1 : hp < 1
              · have hN : L = R := by rw [HR2.out, if_neg (fun hh => absurd hh.2.2 (by omega))]
                subst hN
                clear HR2
                go_wp2_with fail
                refine (l1In_any hd 1 9999 _).mono ?_
                rintro e Wr ⟨rfl, rfl⟩
                rw [hwd]
                have own0 := ownE_made (enc := enc2) (F := 2) 49 Wn Wn.heap.size (Nat.le_refl _)
                go_wp2_with (at_builtin; refine append_rec rowTHit encHit (by decide) rfl _ _ rfl Wn.heap.size _ _ [] rfl own0 _ _ _ L rfl rfl (hqn.below (by (repeat' (first | exact Below.refl _ _ | apply Below.alloc | apply Below.setCell | apply Below.drew | apply below_draws)) <;> (first | omega | (simp <;> omega)))) (by simp; omega) (by omega) (by simp <;> omega) ?_)
                intro L1 hL1 g1 c1 w1 own1 hg1 hat1 hb1
                have e1 : L = L1 := hL1.out.symm
                clear hL1
                subst e1
                have hB1 : Below Wn.heap.size Wn w1 := Below.trans (by (repeat' (first | exact Below.refl _ _ | apply Below.alloc | apply Below.setCell | apply Below.drew | apply below_draws)) <;> (first | omega | (simp <;> omega))) hb1
                go_wp2
                go_ret
                exact ⟨_, c1, ⟨rfl, own1.src⟩, hBw.trans (hB1.mono hBw.size)⟩
              · have hRR : R = pushH L (hd, hp) most := by rw [HR2.out, if_pos ⟨hany, hwd, by omega⟩]
                clear HR2
                go_wp2_with fail
                refine (l1In_any hd 1 9999 _).mono ?_
                rintro e Wr ⟨rfl, rfl⟩
                rw [hwd]
                go_wp2_with fail
                refine (l13Push_any A c L hd hp most _ hqn hn hcap hcm hm0 hm1).mono ?_
                rintro e w4 ⟨g4, c4, ⟨rfl, own4⟩, hb4⟩
                rw [← hRR] at own4 ⊢
                clear hRR
                go_wp2
                go_ret
                exact ⟨_, c4, ⟨rfl, own4.src⟩, hBw.trans (hb4.mono hBw.size)⟩
      · have hgt : decide (most < (L.length : Int)) = true := decide_eq_true (by omega)
        have hN : R = [] := by rw [HR.out]; unfold topS; rw [if_neg (fun hh => hlm hh.2.2)]
        subst hN
        clear HR
        refine (l13Ok_any A c L _ h0.1 hn).mono ?_
        rintro e Wq ⟨rfl, hBq0⟩
        rw [ho]
        have hBq := hB0.trans (hBq0.mono hB0.size)
        go_wp2_with fail
        refine (l1In_any most 1 16 _).mono ?_
        rintro e Wr ⟨rfl, rfl⟩
        rw [hw]
        go_wp2
        go_ret
        exact ⟨none, 0, ⟨rfl, SrcE.nil_ _ 0⟩, hBq⟩
end Go.Proofs.Yteomiaffdbbpoaa
