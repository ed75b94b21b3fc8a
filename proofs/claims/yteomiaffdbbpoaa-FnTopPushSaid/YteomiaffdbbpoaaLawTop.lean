/-
  The walk of FnTopPush.
-/
import Derived.Test.YteomiaffdbbpoaaDrawHits
import Derived.Test.YteomiaffdbbpoaaTopSpec
import Derived.Test.YteomiaffdbbpoaaTopPushLaw
import Derived.Deep.RegionLaw
namespace Go.Proofs.Yteomiaffdbbpoaa
open Go.RowKit Go.Sort
set_option linter.unusedVariables false

theorem foAhead_any (a b : Int × Int) (w : World) :
    Calls Try.prog 44 #[.agg #[.int .i64 a.1, .int .i64 a.2], .agg #[.int .i64 b.1, .int .i64 b.2]] w fun e w' => e = .returned (.bool (lessH a b)) ∧ Below w.heap.size w w' := by
  obtain ⟨ad, ap⟩ := a
  obtain ⟨bd, bp⟩ := b
  have HX : Hid (lessH (ad, ap) (bd, bp) = (decide (bp < ap) || (decide (ap = bp) && decide (ad < bd)))) := rfl
  by_cases h1 : bp < ap
  · have h1' : decide (bp < ap) = true := decide_eq_true h1
    go_enter Try.func44, Try.ntmps44
    go_wp2
    go_ret
    exact ⟨ret_bool (by rw [HX.out, h1']; simp), by (repeat' (first | exact Below.refl _ _ | apply Below.alloc | apply Below.setCell | apply Below.drew | apply below_draws)) <;> (first | omega | (simp <;> omega))⟩
  · by_cases h2 : ap = bp
    · subst h2
      by_cases h3 : ad < bd
      · go_enter Try.func44, Try.ntmps44
        go_wp2
        go_ret
        exact ⟨ret_bool (by rw [HX.out]; simp [h3]), by (repeat' (first | exact Below.refl _ _ | apply Below.alloc | apply Below.setCell | apply Below.drew | apply below_draws)) <;> (first | omega | (simp <;> omega))⟩
      · go_enter Try.func44, Try.ntmps44
        go_wp2
        go_ret
        exact ⟨ret_bool (by rw [HX.out]; simp; omega), by (repeat' (first | exact Below.refl _ _ | apply Below.alloc | apply Below.setCell | apply Below.drew | apply below_draws)) <;> (first | omega | (simp <;> omega))⟩
    · have h2' : (ap == bp) = false := beq_eq_false_iff_ne.2 h2
      go_enter Try.func44, Try.ntmps44
      go_wp2
      go_ret
      exact ⟨ret_bool (by rw [HX.out]; simp [h2]; omega), by (repeat' (first | exact Below.refl _ _ | apply Below.alloc | apply Below.setCell | apply Below.drew | apply below_draws)) <;> (first | omega | (simp <;> omega))⟩
theorem cAhead (a0 a1 b0 b1 : Int) (r : Bool) (hr : lessH (a0, a1) (b0, b1) = r) (W : World) (d : Nat) (os : Array Obj) :
    Calls Try.prog 44 #[.agg #[.int .i64 a0, .int .i64 a1], .agg #[.int .i64 b0, .int .i64 b1]] (grow (redrawn W d) os) fun e w'' => e = .returned (.bool r) ∧ ∃ p : Regrown, w'' = grow (redrawn W p.d) p.os := by
  subst hr
  exact Calls.regrown_of ((foAhead_any (a0, a1) (b0, b1) _).mono fun _ _ ⟨h1, h2⟩ => ⟨h1, h2⟩)
/-- p is one of L. -/
def hasP (L : List (Int × Int)) (p q : Int) : Bool := L.any fun x => decide (x.1 = p) && decide (x.2 = q)
theorem hasP_succ {L : List (Int × Int)} {k : Nat} (hk : k < L.length) (p q : Int) : hasP (L.take (k + 1)) p q = (hasP (L.take k) p q || (decide (L[k].1 = p) && decide (L[k].2 = q))) := by
  unfold hasP; rw [← List.take_append_getElem hk, List.any_append]; simp
theorem hasP_iff {L : List (Int × Int)} {p q : Int} : hasP L p q = true ↔ (p, q) ∈ L := by
  unfold hasP
  rw [List.any_eq_true]
  constructor
  · rintro ⟨x, hx, h⟩
    simp only [Bool.and_eq_true, decide_eq_true_eq] at h
    have : x = (p, q) := Prod.ext h.1 h.2
    rw [← this]; exact hx
  · intro h; exact ⟨_, h, by simp⟩
theorem anyDoc_of {L : List (Int × Int)} {d : Int} (h : ∀ j, (hj : j < L.length) → L[j].1 ≠ d) : anyDoc L d = false := by
  unfold anyDoc
  rw [List.any_eq_false]
  intro x hx
  obtain ⟨j, hj, rfl⟩ := List.getElem_of_mem hx
  have := h j hj
  simpa using this
theorem anyDoc_at {L : List (Int × Int)} {j : Nat} (hj : j < L.length) : anyDoc L L[j].1 = true := by
  unfold anyDoc
  rw [List.any_eq_true]
  exact ⟨_, List.getElem_mem hj, by simp⟩
theorem own_empty {enc : Int × Int → List Value} {E F : Nat} {w : World} {base g : Nat} (hb : base ≤ g) (h : w.heap[g]? = some (.cells #[] E (0, 0))) : OwnE enc E F w base g 0 ([] : List (Int × Int)) :=
  ⟨by simp, .inr ⟨g, 0, #[], rfl, hb, h, Nat.zero_le _, by unfold maxLen; omega, by simp, by simp⟩⟩
theorem own_heapEq {enc : Int × Int → List Value} {E F : Nat} {w w' : World} {base g c : Nat} {L : List (Int × Int)} (h : OwnE enc E F w base g c L) (e : w'.heap = w.heap) : OwnE enc E F w' base g c L := by
  unfold OwnE World.ownsRow at h ⊢
  rw [e]; exact h
theorem own_emptyAt {E : TypeId} {V V' : World} {b base : Nat} (h2 : V'.heap = (V.alloc (.cells #[] E)).heap) (h0 : b = V.heap.size) (h1 : base ≤ V.heap.size) : OwnE enc2 E 2 V' base b 0 [] := by subst h0; exact own_empty h1 (by rw [h2]; exact heap_alloc_new _ _)
theorem src_litAt {E : TypeId} {V V' : World} {b : Nat} {p q : Int} (h2 : V'.heap = (V.alloc (.cells #[.int .i64 p, .int .i64 q] E)).heap) (h0 : b = V.heap.size) : SrcE enc2 2 V' (some ⟨b, 0, none⟩) 1 [(p, q)] := by
  subst h0
  exact SrcE.blk (cs := #[.int .i64 p, .int .i64 q]) (E := E) encHit (by rw [h2]; exact heap_alloc_new _ _) rfl
theorem src_litOld {E : TypeId} {V V' : World} {ob : Obj} {b : Nat} {p q : Int} (h2 : V'.heap = ((V.alloc (.cells #[.int .i64 p, .int .i64 q] E)).alloc ob).heap) (h0 : b = V.heap.size) : SrcE enc2 2 V' (some ⟨b, 0, none⟩) 1 [(p, q)] := by
  subst h0
  have h3 := heap_alloc_new V (.cells #[.int .i64 p, .int .i64 q] E)
  exact SrcE.blk (cs := #[.int .i64 p, .int .i64 q]) (E := E) encHit (by rw [h2, heap_alloc_old _ _ (heap_lt h3)]; exact h3) rfl
theorem srcE_heap {w w' : World} {b c : Nat} {L : List (Int × Int)} (h : SrcE enc2 2 w (some ⟨b, 0, none⟩) c L) (e : w'.heap = w.heap) : SrcE enc2 2 w' (some ⟨b, 0, none⟩) c L := by
  refine ⟨⟨h.1.1, fun hn => ?_⟩, h.2⟩
  obtain ⟨b', off, e1, hb, hc⟩ := h.1.2 hn
  refine ⟨b', off, e1, by rw [e]; exact hb, fun j u hu => ?_⟩
  have := hc j u hu
  unfold World.cell? at this ⊢
  rw [e]; exact this
theorem srcE_grown {w w' : World} {b c g : Nat} {L : List (Int × Int)} (hg : w.grownBy w' (some g)) (hl : 0 < L.length) (h : SrcE enc2 2 w (some ⟨b, 0, none⟩) c L) (hne : b ≠ g) : SrcE enc2 2 w' (some ⟨b, 0, none⟩) c L := by
  refine ⟨⟨h.1.1, fun hn => ?_⟩, h.2⟩
  obtain ⟨b', off, e, hb, hc⟩ := h.1.2 hl
  simp only [Option.some.injEq, Addr.mk.injEq, and_true] at e
  obtain ⟨rfl, rfl⟩ := e
  refine ⟨b, 0, rfl, Nat.lt_of_lt_of_le hb hg.size, fun j u hu => ?_⟩
  rw [World.cell?_of_block (w := w) (a := ⟨b, 0 + j, none⟩) (hg.block b hb (fun e => hne (by injection e)))]
  exact hc j u hu
set_option maxHeartbeats 6400000 in
set_option maxRecDepth 8000 in
theorem walk_FnTopPush (a0 : Option Addr) (len cap : Nat) (zs : List Int) (w : World) (hrow : IsRow .u8 w a0 len cap zs) :
    Calls Try.prog 9 #[.slice a0 len cap] w fun e w' => e = .returned (.bool true) ∧ Below w.heap.size w w' := by
  obtain ⟨hc1, hc2, _⟩ := code_of_row hrow
  by_cases hbig : (1048576 : Int) < (len : Int)
  · go_enter Try.func9, Try.ntmps9
    go_wp2
    go_ret
    exact ⟨rfl, Below.refl _ _⟩
  · go_enter Try.func9, Try.ntmps9
    go_wp2_with fail
    refine (drawTopPush_any a0 len cap zs _ hrow).mono ?_
    rintro e w0 ⟨I, di, L, hd, hp, most, ⟨rfl, hL6, hd1, hd2, hp1, hp2, hm1, hm2, own0⟩, hB0⟩
    have hcap := own0.capOk
    unfold maxLen at hcap
    obtain ⟨hcp1, hcp2, _, _⟩ := hcap
    have hbN : Below w0.heap.size w0 (w0.alloc (.cells #[.int .i64 hd, .int .i64 hp] 49)) := by (repeat' (first | exact Below.refl _ _ | apply Below.alloc | apply Below.setCell | apply Below.drew | apply below_draws)) <;> (first | omega | (simp <;> omega))
    have f0 : (w0.alloc (.cells #[.int .i64 hd, .int .i64 hp] 49)).cell? ⟨w0.heap.size, 0, none⟩ = some (.int .i64 hd) := by simp [go_sem]
    have f1 : (w0.alloc (.cells #[.int .i64 hd, .int .i64 hp] 49)).cell? ⟨w0.heap.size, 1, none⟩ = some (.int .i64 hp) := by simp [go_sem]
    have hs1 : w0.heap.size < (w0.alloc (.cells #[.int .i64 hd, .int .i64 hp] 49)).heap.size := by simp
    have hH := (OwnE.src (enc := enc2) own0).below hbN
    have hB1 := hB0.trans (hbN.mono hB0.size)
    clear hrow own0 hbN hB0
    obtain ⟨R, hR⟩ : ∃ R, R = topS L hd hp most := ⟨_, rfl⟩
    have hRl : R.length ≤ 7 := by
      rw [hR]; unfold topS
      split
      · split
        · have := pushH_le L (hd, hp) most; omega
        · omega
      · simp
    have ci := fun A c w h hc1 hc2 => implTopPush_any A c L hd hp most w h (by omega) hc1 hc2
    have cs := fun A c w h hc1 hc2 => specTopPush_any A c L hd hp most w h (by omega) hc1 hc2
    rw [topI_topS, ← hR] at ci
    rw [← hR] at cs
    have CI := Lib.hid ci
    have CS := Lib.hid cs
    have HR := Lib.hid hR
    clear hR ci cs
    go_wp2_with fail
    generalize (w0.alloc (.cells #[.int .i64 hd, .int .i64 hp] 49)) = w1 at f0 f1 hs1 hH hB1 ⊢
    generalize w0.heap.size = Q at f0 f1 hs1 ⊢
    go_wp2_with fail
    refine (CI.out _ _ _ hH (by omega) (by omega)).mono ?_
    rintro e w2 ⟨b1, d1, ⟨rfl, rX⟩, hb⟩
    replace f0 := (hb.cell (p := ⟨Q, 0, none⟩) hs1).trans f0
    replace f1 := (hb.cell (p := ⟨Q, 1, none⟩) hs1).trans f1
    replace hs1 := Nat.lt_of_lt_of_le hs1 hb.size
    replace hH := hH.below hb
    have hB2 := hB1.trans (hb.mono hB1.size)
    clear hb hB1
    have hcapR := rX.capOk
    unfold maxLen at hcapR
    obtain ⟨hR1, hR2, _, _⟩ := hcapR
    have hX : SrcE enc2 2 w2 (some ⟨b1, 0, none⟩) d1 R := rX.src
    clear rX
    go_wp2_with fail
    refine (CS.out _ _ _ hH (by omega) (by omega)).mono ?_
    rintro e w3 ⟨A2, c2, ⟨rfl, rS⟩, hb⟩
    replace f0 := (hb.cell (p := ⟨Q, 0, none⟩) hs1).trans f0
    replace f1 := (hb.cell (p := ⟨Q, 1, none⟩) hs1).trans f1
    replace hs1 := Nat.lt_of_lt_of_le hs1 hb.size
    replace hH := hH.below hb
    replace hX := hX.below hb
    have hB3 := hB2.trans (hb.mono hB2.size)
    clear hb hB2
    go_wp2_with fail
    refine (foHits_same _ _ _ _ R _ hX.1 (rS.1) (by omega)).mono ?_
    rintro e w4 ⟨rfl, hb⟩
    replace f0 := (hb.cell (p := ⟨Q, 0, none⟩) hs1).trans f0
    replace f1 := (hb.cell (p := ⟨Q, 1, none⟩) hs1).trans f1
    replace hs1 := Nat.lt_of_lt_of_le hs1 hb.size
    replace hH := hH.below hb
    replace hX := hX.below hb
    clear rS
    have hB4 := hB3.trans (hb.mono hB3.size)
    clear hb hB3
    go_wp2_with fail
    refine (implHitsOk_any _ _ L _ hH.1 (by omega) (by omega) (by omega)).mono ?_
    rintro e w5 ⟨rfl, hb⟩
    replace f0 := (hb.cell (p := ⟨Q, 0, none⟩) hs1).trans f0
    replace f1 := (hb.cell (p := ⟨Q, 1, none⟩) hs1).trans f1
    replace hs1 := Nat.lt_of_lt_of_le hs1 hb.size
    replace hH := hH.below hb
    replace hX := hX.below hb
    have hB5 := hB4.trans (hb.mono hB4.size)
    clear hb hB4
    go_wp2_with fail
    refine (specHitsOk_any _ _ L _ hH.1 (by omega)).mono ?_
    rintro e w6 ⟨rfl, hb⟩
    replace f0 := (hb.cell (p := ⟨Q, 0, none⟩) hs1).trans f0
    replace f1 := (hb.cell (p := ⟨Q, 1, none⟩) hs1).trans f1
    replace hs1 := Nat.lt_of_lt_of_le hs1 hb.size
    replace hH := hH.below hb
    replace hX := hX.below hb
    have hB6 := hB5.trans (hb.mono hB5.size)
    clear hb hB5
    go_wp2_with fail
    refine (implHitsOk_any _ _ L _ hH.1 (by omega) (by omega) (by omega)).mono ?_
    rintro e w7 ⟨rfl, hb⟩
    replace f0 := (hb.cell (p := ⟨Q, 0, none⟩) hs1).trans f0
    replace f1 := (hb.cell (p := ⟨Q, 1, none⟩) hs1).trans f1
    replace hs1 := Nat.lt_of_lt_of_le hs1 hb.size
    replace hH := hH.below hb
    replace hX := hX.below hb
    have hB7 := hB6.trans (hb.mono hB6.size)
    clear hb hB6
    cases hok : hitsB L with
    | false =>
      go_wp2_with fail
      refine (CS.out _ _ _ hH (by omega) (by omega)).mono ?_
      rintro e w8 ⟨A3, c3, ⟨rfl, rS⟩, hb⟩
      replace f0 := (hb.cell (p := ⟨Q, 0, none⟩) hs1).trans f0
      replace f1 := (hb.cell (p := ⟨Q, 1, none⟩) hs1).trans f1
      replace hs1 := Nat.lt_of_lt_of_le hs1 hb.size
      replace hH := hH.below hb
      replace hX := hX.below hb
      have hB8 := hB7.trans (hb.mono hB7.size)
      clear hb hB7
      go_wp2_with fail
      refine (foHits_same _ _ _ _ R _ hX.1 (rS.1) (by omega)).mono ?_
      rintro e w9 ⟨rfl, hb⟩
      replace f0 := (hb.cell (p := ⟨Q, 0, none⟩) hs1).trans f0
      replace f1 := (hb.cell (p := ⟨Q, 1, none⟩) hs1).trans f1
      replace hs1 := Nat.lt_of_lt_of_le hs1 hb.size
      replace hH := hH.below hb
      replace hX := hX.below hb
      clear rS
      have hB9 := hB8.trans (hb.mono hB8.size)
      clear hb hB8
      go_wp2_with fail
      refine (implHitsOk_any _ _ L _ hH.1 (by omega) (by omega) (by omega)).mono ?_
      rintro e w10 ⟨rfl, hb⟩
      replace f0 := (hb.cell (p := ⟨Q, 0, none⟩) hs1).trans f0
      replace f1 := (hb.cell (p := ⟨Q, 1, none⟩) hs1).trans f1
      replace hs1 := Nat.lt_of_lt_of_le hs1 hb.size
      replace hH := hH.below hb
      replace hX := hX.below hb
      have hB10 := hB9.trans (hb.mono hB9.size)
      clear hb hB9
      go_wp2_with fail
      refine (specHitsOk_any _ _ L _ hH.1 (by omega)).mono ?_
      rintro e w11 ⟨rfl, hb⟩
      replace f0 := (hb.cell (p := ⟨Q, 0, none⟩) hs1).trans f0
      replace f1 := (hb.cell (p := ⟨Q, 1, none⟩) hs1).trans f1
      replace hs1 := Nat.lt_of_lt_of_le hs1 hb.size
      replace hH := hH.below hb
      replace hX := hX.below hb
      have hB11 := hB10.trans (hb.mono hB10.size)
      clear hb hB10
      rw [hok]
      go_wp2
      go_ret
      exact ⟨rfl, hB11⟩
    | true =>
      by_cases hm0 : most < 1
      · skip
        go_wp2_with fail
        refine (CS.out _ _ _ hH (by omega) (by omega)).mono ?_
        rintro e w8 ⟨A3, c3, ⟨rfl, rS⟩, hb⟩
        replace f0 := (hb.cell (p := ⟨Q, 0, none⟩) hs1).trans f0
        replace f1 := (hb.cell (p := ⟨Q, 1, none⟩) hs1).trans f1
        replace hs1 := Nat.lt_of_lt_of_le hs1 hb.size
        replace hH := hH.below hb
        replace hX := hX.below hb
        have hB8 := hB7.trans (hb.mono hB7.size)
        clear hb hB7
        go_wp2_with fail
        refine (foHits_same _ _ _ _ R _ hX.1 (rS.1) (by omega)).mono ?_
        rintro e w9 ⟨rfl, hb⟩
        replace f0 := (hb.cell (p := ⟨Q, 0, none⟩) hs1).trans f0
        replace f1 := (hb.cell (p := ⟨Q, 1, none⟩) hs1).trans f1
        replace hs1 := Nat.lt_of_lt_of_le hs1 hb.size
        replace hH := hH.below hb
        replace hX := hX.below hb
        clear rS
        have hB9 := hB8.trans (hb.mono hB8.size)
        clear hb hB8
        go_wp2_with fail
        refine (implHitsOk_any _ _ L _ hH.1 (by omega) (by omega) (by omega)).mono ?_
        rintro e w10 ⟨rfl, hb⟩
        replace f0 := (hb.cell (p := ⟨Q, 0, none⟩) hs1).trans f0
        replace f1 := (hb.cell (p := ⟨Q, 1, none⟩) hs1).trans f1
        replace hs1 := Nat.lt_of_lt_of_le hs1 hb.size
        replace hH := hH.below hb
        replace hX := hX.below hb
        have hB10 := hB9.trans (hb.mono hB9.size)
        clear hb hB9
        go_wp2_with fail
        refine (specHitsOk_any _ _ L _ hH.1 (by omega)).mono ?_
        rintro e w11 ⟨rfl, hb⟩
        replace f0 := (hb.cell (p := ⟨Q, 0, none⟩) hs1).trans f0
        replace f1 := (hb.cell (p := ⟨Q, 1, none⟩) hs1).trans f1
        replace hs1 := Nat.lt_of_lt_of_le hs1 hb.size
        replace hH := hH.below hb
        replace hX := hX.below hb
        have hB11 := hB10.trans (hb.mono hB10.size)
        clear hb hB10
        rw [hok]
        go_wp2
        go_ret
        exact ⟨rfl, hB11⟩
      · by_cases hlm : most < (L.length : Int)
        · skip
          go_wp2_with fail
          refine (CS.out _ _ _ hH (by omega) (by omega)).mono ?_
          rintro e w8 ⟨A3, c3, ⟨rfl, rS⟩, hb⟩
          replace f0 := (hb.cell (p := ⟨Q, 0, none⟩) hs1).trans f0
          replace f1 := (hb.cell (p := ⟨Q, 1, none⟩) hs1).trans f1
          replace hs1 := Nat.lt_of_lt_of_le hs1 hb.size
          replace hH := hH.below hb
          replace hX := hX.below hb
          have hB8 := hB7.trans (hb.mono hB7.size)
          clear hb hB7
          go_wp2_with fail
          refine (foHits_same _ _ _ _ R _ hX.1 (rS.1) (by omega)).mono ?_
          rintro e w9 ⟨rfl, hb⟩
          replace f0 := (hb.cell (p := ⟨Q, 0, none⟩) hs1).trans f0
          replace f1 := (hb.cell (p := ⟨Q, 1, none⟩) hs1).trans f1
          replace hs1 := Nat.lt_of_lt_of_le hs1 hb.size
          replace hH := hH.below hb
          replace hX := hX.below hb
          clear rS
          have hB9 := hB8.trans (hb.mono hB8.size)
          clear hb hB8
          go_wp2_with fail
          refine (implHitsOk_any _ _ L _ hH.1 (by omega) (by omega) (by omega)).mono ?_
          rintro e w10 ⟨rfl, hb⟩
          replace f0 := (hb.cell (p := ⟨Q, 0, none⟩) hs1).trans f0
          replace f1 := (hb.cell (p := ⟨Q, 1, none⟩) hs1).trans f1
          replace hs1 := Nat.lt_of_lt_of_le hs1 hb.size
          replace hH := hH.below hb
          replace hX := hX.below hb
          have hB10 := hB9.trans (hb.mono hB9.size)
          clear hb hB9
          go_wp2_with fail
          refine (specHitsOk_any _ _ L _ hH.1 (by omega)).mono ?_
          rintro e w11 ⟨rfl, hb⟩
          replace f0 := (hb.cell (p := ⟨Q, 0, none⟩) hs1).trans f0
          replace f1 := (hb.cell (p := ⟨Q, 1, none⟩) hs1).trans f1
          replace hs1 := Nat.lt_of_lt_of_le hs1 hb.size
          replace hH := hH.below hb
          replace hX := hX.below hb
          have hB11 := hB10.trans (hb.mono hB10.size)
          clear hb hB10
          rw [hok]
          go_wp2
          go_ret
          exact ⟨rfl, hB11⟩
        · by_cases hp0 : hp < 1
          · skip
            go_wp2_with fail
            refine (CS.out _ _ _ hH (by omega) (by omega)).mono ?_
            rintro e w8 ⟨A3, c3, ⟨rfl, rS⟩, hb⟩
            replace f0 := (hb.cell (p := ⟨Q, 0, none⟩) hs1).trans f0
            replace f1 := (hb.cell (p := ⟨Q, 1, none⟩) hs1).trans f1
            replace hs1 := Nat.lt_of_lt_of_le hs1 hb.size
            replace hH := hH.below hb
            replace hX := hX.below hb
            have hB8 := hB7.trans (hb.mono hB7.size)
            clear hb hB7
            go_wp2_with fail
            refine (foHits_same _ _ _ _ R _ hX.1 (rS.1) (by omega)).mono ?_
            rintro e w9 ⟨rfl, hb⟩
            replace f0 := (hb.cell (p := ⟨Q, 0, none⟩) hs1).trans f0
            replace f1 := (hb.cell (p := ⟨Q, 1, none⟩) hs1).trans f1
            replace hs1 := Nat.lt_of_lt_of_le hs1 hb.size
            replace hH := hH.below hb
            replace hX := hX.below hb
            clear rS
            have hB9 := hB8.trans (hb.mono hB8.size)
            clear hb hB8
            go_wp2_with fail
            refine (implHitsOk_any _ _ L _ hH.1 (by omega) (by omega) (by omega)).mono ?_
            rintro e w10 ⟨rfl, hb⟩
            replace f0 := (hb.cell (p := ⟨Q, 0, none⟩) hs1).trans f0
            replace f1 := (hb.cell (p := ⟨Q, 1, none⟩) hs1).trans f1
            replace hs1 := Nat.lt_of_lt_of_le hs1 hb.size
            replace hH := hH.below hb
            replace hX := hX.below hb
            have hB10 := hB9.trans (hb.mono hB9.size)
            clear hb hB9
            go_wp2_with fail
            refine (specHitsOk_any _ _ L _ hH.1 (by omega)).mono ?_
            rintro e w11 ⟨rfl, hb⟩
            replace f0 := (hb.cell (p := ⟨Q, 0, none⟩) hs1).trans f0
            replace f1 := (hb.cell (p := ⟨Q, 1, none⟩) hs1).trans f1
            replace hs1 := Nat.lt_of_lt_of_le hs1 hb.size
            replace hH := hH.below hb
            replace hX := hX.below hb
            have hB11 := hB10.trans (hb.mono hB10.size)
            clear hb hB10
            rw [hok]
            go_wp2
            go_ret
            exact ⟨rfl, hB11⟩
          · have hlm2 : (L.length : Int) ≤ most := by omega
            have hwm : wi most 1 16 = true := wi_true.2 ⟨by omega, by omega⟩
            have hwd : wi hd 1 9999 = true := wi_true.2 ⟨by omega, by omega⟩
            have HHAS : Hid (anyDoc L hd = true → R = L) := fun h => by rw [HR.out]; exact topS_has hok hwm hlm2 h
            have HNEW : Hid (anyDoc L hd = false → R = pushH L (hd, hp) most) := fun h => by rw [HR.out]; exact topS_new hok hwm hlm2 h hwd (by omega)
            have HOK := Lib.hid hok
            clear hok hwm hwd HR CI CS
            have hBs := hB7.size
            have hz1 : decide (most < 1) = false := decide_eq_false hm0
            have hz2 : decide (most < (L.length : Int)) = false := decide_eq_false hlm
            have hz3 : decide (hp < 1) = false := decide_eq_false hp0
            have k0 : ∀ w', Below w7.heap.size w7 w' → w'.cell? ⟨Q, 0, none⟩ = some (.int .i64 hd) := fun w' h => (h.cell (p := ⟨Q, 0, none⟩) hs1).trans f0
            have k1 : ∀ w', Below w7.heap.size w7 w' → w'.cell? ⟨Q, 1, none⟩ = some (.int .i64 hp) := fun w' h => (h.cell (p := ⟨Q, 1, none⟩) hs1).trans f1
            go_wp2_with fail
            go_region_held3 (fun w' => Below w7.heap.size w7 w')
              ((repeat' (first | exact Below.refl _ _ | assumption | apply Below.alloc | apply Below.setCell | apply Below.drew | apply below_draws | (refine Below.trans ?_ (Below.mono (by assumption) ?_)))) <;> (first | exact Below.size (by assumption) | omega | (simp; done) | (simp; omega) | (refine Nat.le_trans ?_ (Below.size (by assumption)); (first | omega | (simp <;> omega)))))
              (first | (refine step_append_rec rowTHit encHit (by decide) rfl _ _ rfl w7.heap.size _ _ XA rfl ?_ _ _ _ [(hd, hp)] rfl rfl ?_ (by have hq := hXA.out; rw [List.nil_append] at hq; rw [hq]; show L.length + 1 ≤ _; omega) (by omega) (by first | exact (show Below w7.heap.size w7 _ by assumption).size | exact Nat.le_refl _ | (simp; done) | (simp; omega)) ?_; (first | exact owna | exact owna.alloc _ | exact own_heapEq owna rfl | exact own_heapEq (owna.alloc _) rfl); (first | exact src_litAt (by rfl) (by first | rfl | (simp; done)) | exact srcE_grown hga (Nat.zero_lt_succ _) (src_litAt (by rfl) (by first | rfl | (simp; done))) (by first | omega | (simp; done) | (simp; omega)) | exact srcE_grown hga (Nat.zero_lt_succ _) (src_litOld (by rfl) (by first | rfl | (simp; done))) (by first | omega | (simp; done) | (simp; omega))); intro YA hYA gz cz wz ownz hgz hatz hbz) | (refine step_append_rec rowTHit encHit (by decide) rfl _ _ rfl w7.heap.size _ _ [] rfl ?_ _ _ _ L rfl rfl (hH.below (by assumption)) (by simp; omega) (by omega) (by first | exact (show Below w7.heap.size w7 _ by assumption).size | exact Nat.le_refl _ | (simp; done) | (simp; omega)) ?_; (first | exact own_emptyAt (by rfl) (by first | rfl | (simp; done)) (by first | exact Nat.le_refl _ | exact (show Below w7.heap.size w7 _ by assumption).size | (simp; done) | (simp; omega)) | exact (own_emptyAt (by rfl) (by first | rfl | (simp; done)) (by first | exact Nat.le_refl _ | exact (show Below w7.heap.size w7 _ by assumption).size | (simp; done) | (simp; omega))).alloc _ | exact own_heapEq ((own_emptyAt (by rfl) (by first | rfl | (simp; done)) (by first | exact Nat.le_refl _ | exact (show Below w7.heap.size w7 _ by assumption).size | (simp; done) | (simp; omega))).alloc _) rfl); intro XA hXA ga ca wa owna hga hata hba))
            all_goals rename_i hHH
            all_goals try clear hga hata hba owna
            all_goals try clear hgz hatz hbz
            all_goals clear k0 k1 hz1 hz2 hz3
            all_goals
              have hYe : Hid (YA = L ++ [(hd, hp)]) := by show _ = _; rw [hYA.out, hXA.out]; rfl
              have hYl : YA.length = L.length + 1 := by rw [hYe.out]; simp
              have hbz := hHH
              replace f0 := (hbz.cell (p := ⟨Q, 0, none⟩) hs1).trans f0
              replace hs1 := Nat.lt_of_lt_of_le hs1 hbz.size
              replace hH := hH.below hbz
              replace hX := hX.below hbz
              have hA : SrcE enc2 2 wz (some ⟨gz, 0, none⟩) cz YA := ownz.src
              have hBz := hB7.trans (hbz.mono hB7.size)
              have HYl := Lib.hid hYl
              have hYb : YA.length ≤ 7 := by omega
              clear hbz hHH hYA hXA ownz f1 hYl
              clear hB7
              go_wp2_with fail
              go_loopw [8] (fun iv wr => ∃ i : Nat, i ≤ L.length ∧ iv = .int .i64 i ∧ Hid (∀ j, (hj : j < L.length) → j < i → L[j].1 ≠ hd) ∧ Below wz.heap.size wz wr) (fun iv _ => L.length - (intOf iv).toNat)
              case atStart => exact ⟨0, Nat.zero_le _, rfl, fun j hj hk => by omega, Below.refl _ _⟩
              case round =>
                obtain ⟨i, hi, rfl, hno, hbr⟩ := hrel
                have g0 := (hbr.cell (p := ⟨Q, 0, none⟩) hs1).trans f0
                by_cases hlt : i < L.length
                · obtain ⟨bL, offL, hLe, hbL, x0, x1⟩ := (hH.below hbr).1.at2 hlt
                  have e1 : (⟨I, 0, none⟩ : Addr) = ⟨bL, offL, none⟩ := by injection hLe
                  injection e1 with e1 e2
                  subst e1 e2
                  rw [Nat.zero_add] at x0 x1
                  have hi0 : (i : Int) < (L.length : Int) := by omega
                  have hat := anyDoc_at hlt
                  have hno2 : L[i].1 ≠ hd → Hid (∀ j, (hj : j < L.length) → j < i + 1 → L[j].1 ≠ hd) := fun hne j hj hjk => by
                    rcases Nat.lt_or_eq_of_le (Nat.le_of_lt_succ hjk) with h2 | rfl
                    · exact hno.out j hj h2
                    · exact hne
                  clear hno x1
                  generalize L[i].1 = p at x0 hat hno2
                  by_cases he : p = hd
                  · subst he
                    have hRL : L = R := (HHAS.out hat).symm
                    subst hRL
                    clear hat hno2 HHAS HNEW
                    go_wp2_with fail
                    go_region
                    all_goals (try go_wp2_with fail)
                    all_goals
                      refine (foHits_same _ _ _ _ L _ (hX.below (hbr.trans (below_draws (Below.refl _ _) _))).1 (hH.below (hbr.trans (below_draws (Below.refl _ _) _))).1 (by omega)).mono ?_
                      rintro e w9 ⟨rfl, hb⟩
                      go_wp2
                      go_ret
                      exact ⟨rfl, hBz.trans ((hbr.trans (Below.trans (below_draws (Below.refl _ _) _) (hb.mono (by first | exact hbr.size | (simp; exact hbr.size))))).mono hBz.size)⟩
                  · have HNO := hno2 he
                    have he2 : (p == hd) = false := beq_eq_false_iff_ne.2 he
                    clear hat hno2
                    go_wp2_with fail
                    go_region
                    all_goals (try go_wp2)
                    all_goals go_roundw
                    case rel => exact ⟨i + 1, by omega, by go_num, HNO, below_draws hbr _⟩
                    case measure => simp [intOf]; omega
                · obtain rfl : i = L.length := by omega
                  have hAD : anyDoc L hd = false := anyDoc_of (fun j hj => hno.out j hj hj)
                  have hRP := HNEW.out hAD
                  obtain ⟨mm, rfl⟩ : ∃ mm : Nat, most = (mm : Int) := ⟨most.toNat, by omega⟩
                  have hTL := top_law (h := (hd, hp)) HOK.out hAD ⟨by omega, by omega⟩ (by omega) (m := mm) (by omega) (by omega)
                  rw [← hRP] at hTL
                  obtain ⟨t1, t2, t3, t4⟩ := hTL
                  have T4 := Lib.hid t4
                  clear t4 hRP hAD hno HHAS HNEW HOK g0 f0
                  go_wp2_with fail
                  go_loopw [9, 10, 11] (fun iv _ _ wr => ∃ i : Nat, i ≤ YA.length ∧ iv = .int .i64 i ∧ Below wz.heap.size wz wr) (fun iv _ _ _ => YA.length - (intOf iv).toNat)
                  case atStart => exact ⟨0, Nat.zero_le _, rfl, hbr⟩
                  case round =>
                    clear hbr
                    obtain ⟨i, hi, rfl, hbr⟩ := hrel
                    by_cases hlt : i < YA.length
                    · have hYi := List.getElem_mem hlt
                      have hcl : Hid (∀ w', Below wz.heap.size wz w' → gz < w'.heap.size ∧ w'.cell? ⟨gz, i * 2, none⟩ = some (.int .i64 YA[i].1) ∧ w'.cell? ⟨gz, i * 2 + 1, none⟩ = some (.int .i64 YA[i].2)) := fun w' hw => by
                        have := Rds.all2 (hA.below hw).1 hlt
                        rwa [Nat.zero_add] at this
                      have hT5 : Hid ((YA[i].1, YA[i].2) ∈ R ∨ (R.length = mm ∧ ∀ x ∈ R, lessH (YA[i].1, YA[i].2) x = false)) := T4.out _ (by rw [← hYe.out]; exact hYi)
                      clear hYi
                      generalize YA[i].1 = p at hcl hT5
                      generalize YA[i].2 = q at hcl hT5
                      have hi0 : (i : Int) < (YA.length : Int) := by omega
                      go_wp2_with fail
                      go_loopw [10, 11] (fun bv kv wq => ∃ (k : Nat) (b : Bool), k ≤ R.length ∧ kv = .int .i64 k ∧ bv = .bool b ∧ Hid (b = hasP (R.take k) p q) ∧ Below wz.heap.size wz wq) (fun _ kv _ => R.length - (intOf kv).toNat)
                      case atStart => exact ⟨0, false, Nat.zero_le _, rfl, rfl, rfl, hbr⟩
                      case round =>
                        clear hbr
                        obtain ⟨k, b, hk, rfl, rfl, hb, hbr⟩ := hrel
                        by_cases hkl : k < R.length
                        · obtain ⟨bX, offX, hXe, hbX, y0, y1⟩ := (hX.below hbr).1.at2 hkl
                          have e1 : (⟨b1, 0, none⟩ : Addr) = ⟨bX, offX, none⟩ := by injection hXe
                          injection e1 with e1 e2
                          subst e1 e2
                          rw [Nat.zero_add] at y0 y1
                          obtain ⟨_, x0, x1⟩ := hcl.out _ hbr
                          have hk0 : (k : Int) < (R.length : Int) := by omega
                          have hst := hasP_succ hkl p q
                          have hbs := hbr.size
                          rw [← hb.out] at hst
                          have HST := Lib.hid hst
                          clear hst
                          generalize R[k].1 = u at y0 HST
                          generalize R[k].2 = v at y1 HST
                          have kk0 := cell_regrown x0
                          have kk1 := cell_regrown x1
                          have kk2 := cell_regrown y0
                          have kk3 := cell_regrown y1
                          cases b with
                          | true =>
                            have HB2 : Hid (true = hasP (R.take (k + 1)) p q) := by show _ = _; rw [HST.out]; rfl
                            clear HST
                            go_wp2_with fail
                            refine region_qw (by kernel_rfl) (by kernel_rfl) ?_
                            repeat (
                              refine qw_step (fun K hK => ?_)
                              go_simp
                              first
                                | (refine hK _ ?_; clear hK K)
                                )
                            refine qw_nil ?_
                            intro _ hw'
                            obtain ⟨⟨dq, osq⟩, hw''⟩ := hw'
                            subst hw''
                            have hbq := hbr.trans ((below_regrown wr dq osq).mono hbs)
                            generalize grow (redrawn wr dq) osq = Wq at hbq ⊢
                            try clear kk0 kk1 x0 x1
                            try clear kk2 kk3 y0 y1
                            go_wp2
                            go_roundw
                            case rel => exact ⟨k + 1, true, by omega, by go_num, rfl, HB2, hbq⟩
                            case measure => simp [intOf]; omega
                          | false =>
                            by_cases hu : u = p ∧ v = q
                            · obtain ⟨rfl, rfl⟩ := hu
                              have HB2 : Hid (true = hasP (R.take (k + 1)) u v) := by show _ = _; rw [HST.out]; simp
                              clear HST
                              go_wp2_with fail
                              refine region_qw (by kernel_rfl) (by kernel_rfl) ?_
                              repeat (
                                refine qw_step (fun K hK => ?_)
                                go_simp
                                first
                                  | (refine hK _ ?_; clear hK K)
                                  )
                              refine qw_nil ?_
                              intro _ hw'
                              obtain ⟨⟨dq, osq⟩, hw''⟩ := hw'
                              subst hw''
                              have hbq := hbr.trans ((below_regrown wr dq osq).mono hbs)
                              generalize grow (redrawn wr dq) osq = Wq at hbq ⊢
                              try clear kk0 kk1 x0 x1
                              try clear kk2 kk3 y0 y1
                              go_wp2
                              go_roundw
                              case rel => exact ⟨k + 1, true, by omega, by go_num, rfl, HB2, hbq⟩
                              case measure => simp [intOf]; omega
                            · have HB2 : Hid (false = hasP (R.take (k + 1)) p q) := by show _ = _; rw [HST.out]; simp; intro h1 h2; exact hu ⟨h1, h2⟩
                              have hu2 : ¬ (u = p) ∨ ¬ (v = q) := by omega
                              clear HST hu
                              rcases hu2 with hu2 | hu2
                              all_goals
                                have hu3 : decide _ = false := decide_eq_false hu2
                                go_wp2_with fail
                                refine region_qw (by kernel_rfl) (by kernel_rfl) ?_
                                repeat (
                                  refine qw_step (fun K hK => ?_)
                                  go_simp
                                  first
                                    | (refine hK _ ?_; clear hK K)
                                    )
                                refine qw_nil ?_
                                intro _ hw'
                                obtain ⟨⟨dq, osq⟩, hw''⟩ := hw'
                                subst hw''
                                have hbq := hbr.trans ((below_regrown wr dq osq).mono hbs)
                                generalize grow (redrawn wr dq) osq = Wq at hbq ⊢
                                try clear kk0 kk1 x0 x1
                                try clear kk2 kk3 y0 y1
                                go_wp2
                                go_roundw
                                case rel => exact ⟨k + 1, false, by omega, by go_num, rfl, HB2, hbq⟩
                                case measure => simp [intOf]; omega
                        · obtain rfl : k = R.length := by omega
                          rw [List.take_length] at hb
                          obtain ⟨_, x0, x1⟩ := hcl.out _ hbr
                          have hbs := hbr.size
                          have kk0 := cell_regrown x0
                          have kk1 := cell_regrown x1
                          cases b with
                          | true =>
                            go_wp2_with fail
                            refine region_qw (by kernel_rfl) (by kernel_rfl) ?_
                            repeat (
                              refine qw_step (fun K hK => ?_)
                              go_simp
                              first
                                | (refine hK _ ?_; clear hK K)
                                )
                            refine qw_nil ?_
                            intro _ hw'
                            obtain ⟨⟨dq, osq⟩, hw''⟩ := hw'
                            subst hw''
                            have hbq := hbr.trans ((below_regrown wr dq osq).mono hbs)
                            generalize grow (redrawn wr dq) osq = Wq at hbq ⊢
                            try clear kk0 kk1 x0 x1
                            try clear kk2 kk3 y0 y1
                            go_wp2
                            go_roundw
                            case rel => exact ⟨i + 1, by omega, by go_num, hbq⟩
                            case measure => simp [intOf]; omega
                          | false =>
                            have hnin : ¬ (p, q) ∈ R := fun h => by rw [hasP_iff.2 h] at hb; exact absurd hb.out (by simp)
                            obtain ⟨hRm, hls⟩ := hT5.out.resolve_left hnin
                            obtain ⟨r, hr⟩ : ∃ r, R.length = r + 1 := ⟨R.length - 1, by omega⟩
                            have hrl : r < R.length := by omega
                            have hlast := hls R[r] (List.getElem_mem hrl)
                            obtain ⟨bX, offX, hXe, hbX, y0, y1⟩ := (hX.below hbr).1.at2 hrl
                            have e1 : (⟨b1, 0, none⟩ : Addr) = ⟨bX, offX, none⟩ := by injection hXe
                            injection e1 with e1 e2
                            subst e1 e2
                            rw [Nat.zero_add] at y0 y1
                            have ep : R[r] = (R[r].1, R[r].2) := rfl
                            rw [ep] at hlast
                            clear ep hls hnin
                            generalize R[r].1 = u at y0 hlast
                            generalize R[r].2 = v at y1 hlast
                            have kk2 := cell_regrown y0
                            have kk3 := cell_regrown y1
                            have hsub : (R.length : Int) - 1 = (r : Int) := by omega
                            have hwr : IntKind.i64.wrap ((R.length : Int) - 1) = (r : Int) := by rw [hsub]; exact IntWalk.i64_in _ (by omega)
                            have hwr2 : IntKind.i64.wrap (r : Int) = (r : Int) := IntWalk.i64_in _ (by omega)
                            have hr0 : 0 ≤ (r : Int) := by omega
                            have hr1 : (r : Int) < (R.length : Int) := by omega
                            have hnl : decide ((R.length : Int) < (mm : Int)) = false := decide_eq_false (by omega)
                            have hnl2 : decide (R.length < mm) = false := decide_eq_false (by omega)
                            have hi0 : (i : Int) < (YA.length : Int) := by omega
                            have HRm := Lib.hid hRm
                            have Hr := Lib.hid hr
                            clear hRm hr
                            go_wp2_with fail
                            refine region_qw (by kernel_rfl) (by kernel_rfl) ?_
                            repeat (
                              refine qw_step (fun K hK => ?_)
                              go_simp
                              first
                                | (refine hK _ ?_; clear hK K)
                                | (apply Exists.intro
                                   refine ⟨fun _ => ?_, hK _ ?_⟩
                                   (first | (go_at_call 44; exact cAhead _ _ _ _ _ hlast _ _ _))
                                   clear hK K))
                            refine qw_nil ?_
                            intro _ hw'
                            obtain ⟨⟨dq, osq⟩, hw''⟩ := hw'
                            subst hw''
                            have hbq := hbr.trans ((below_regrown wr dq osq).mono hbs)
                            generalize grow (redrawn wr dq) osq = Wq at hbq ⊢
                            try clear kk0 kk1 x0 x1
                            try clear kk2 kk3 y0 y1
                            go_wp2
                            go_roundw
                            case rel => exact ⟨i + 1, by omega, by go_num, hbq⟩
                            case measure => simp [intOf]; omega
                    · have hcR : R.length ≤ d1 := hR1
                      go_wp2_with fail
                      refine (implHitsOk_any _ _ R _ (hX.below hbr).1 (by omega) (by omega) (by omega)).mono ?_
                      rintro e w9 ⟨rfl, hb⟩
                      rw [t1]
                      have hl1 : (R.length : Int) ≤ (mm : Int) := by omega
                      have hl2 : (L.length : Int) ≤ (R.length : Int) := by omega
                      go_wp2
                      go_ret
                      exact ⟨rfl, hBz.trans ((hbr.trans (hb.mono hbr.size)).mono hBz.size)⟩
end Go.Proofs.Yteomiaffdbbpoaa
