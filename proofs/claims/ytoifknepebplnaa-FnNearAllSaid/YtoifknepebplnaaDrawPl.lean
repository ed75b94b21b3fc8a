/-
  What is drawn of lists of places: contracts of l30Places, DrawPhraseOf, DrawNearAll, DrawNearWidth.
-/
import Derived.Test.YtoifknepebplnaaDrawSS
namespace Go.Proofs.Ytoifknepebplnaa
open Go.RowKit
set_option linter.unusedVariables false

/-- what l30Places hands back. -/
def PlacesOf (w : World) (g p : Nat) (e : Ending) (w' : World) : Prop :=
  ∃ (B d : Nat) (hs : List Hdr) (Ls : List (List Int)), (e = .returned (.slice (some ⟨B, 0, none⟩) Ls.length d) ∧ 1 ≤ Ls.length ∧ Ls.length ≤ 4 ∧ (∀ L ∈ Ls, L.length ≤ 4) ∧ OwnE encH 22 1 w' w.heap.size B d hs ∧ HdO w' w.heap.size hs Ls) ∧ Gen w w' g p 30
set_option maxHeartbeats 800000 in
theorem l30Places_any (g p : Nat) (w : World) (hr : Rd w g p) (hp : p + 100 < 1000000) :
    Calls Try.prog 66 #[.pointer (some ⟨g, 0, none⟩)] w (PlacesOf w g p) := by
  have hg := hr.lt
  go_enter Try.func66, Try.ntmps66
  go_wp2_with fail
  obtain ⟨W2, hW2⟩ : ∃ W2, W2 = w.alloc (.cells #[] 22) := ⟨_, rfl⟩
  have r2 : Rd W2 g p := by rw [hW2]; exact hr.below (by (repeat' (first | exact Below.refl _ _ | apply Below.alloc | apply Below.setCell | apply Below.drew | apply below_draws)) <;> (first | omega | (simp <;> omega)))
  have O2 : Outer w.heap.size g w W2 := by rw [hW2]; exact Outer.of (by (repeat' (first | exact Below.refl _ _ | apply Below.alloc | apply Below.setCell | apply Below.drew | apply below_draws)) <;> (first | omega | (simp <;> omega)))
  have own2 : OwnE encH 22 1 W2 w.heap.size w.heap.size 0 [] := by rw [hW2]; exact ownE_made _ w _ (Nat.le_refl _)
  have hd2 : HdO W2 w.heap.size [] [] := HdO.nil_ _ _
  rw [← hW2]
  have hle2 := O2.2.1
  clear hW2 hr
  refine (pick_gen g p _ (by omega) (by omega) _ r2 (by omega)).mono ?_
  rintro e w3 ⟨n0, ⟨rfl, h1, h2⟩, p3, hp3, r3, o3⟩
  obtain ⟨n, rfl⟩ := Int.eq_ofNat_of_zero_le h1
  have own3 := own2.gen hg (o3.mono (Nat.le_refl _))
  have hd3 := hd2.gen hg o3
  have O3 := O2.trans (o3.mono O2.2.1)
  have e1 : (1 : Int) + (n : Int) = ((n + 1 : Nat) : Int) := by omega
  clear own2 hd2 O2 o3 r2
  go_wp2_with fail
  go_loopw [3, 4, 5, 6, 7] (fun v k _ _ _ wr => ∃ (m q : Nat) (hs : List Hdr) (Ls : List (List Int)) (gO c : Nat), k = .int .i64 (m : Int) ∧ v = .slice (some ⟨gO, 0, none⟩) Ls.length c ∧ 1 ≤ Ls.length + m ∧ Ls.length + m ≤ 3 ∧ q ≤ p + 1 + 6 * Ls.length ∧ Hid (∀ L ∈ Ls, L.length ≤ 4) ∧ OwnE encH 22 1 wr w.heap.size gO c hs ∧ HdO wr w.heap.size hs Ls ∧ Rd wr g q ∧ Outer w.heap.size g w wr) (fun _ k _ _ _ _ => (intOf k).toNat)
  case atStart => exact ⟨n + 1, p3, [], [], _, _, by go_num, rfl, by simp, by simp; omega, by simp; omega, fun L hL => by simp at hL, own3, hd3, r3, O3⟩
  case round =>
    obtain ⟨m, q, hs, Ls, gO, c, rfl, rfl, hlm0, hlm, hq, hLs, own, hd, r, hO⟩ := hrel
    have hgr := r.lt
    have hle := hO.2.1
    clear own3 hd3 r3 O3 e1
    rcases Nat.eq_zero_or_pos m with rfl | hm0
    · go_wp2_with fail
      refine (pick_gen g q _ (by omega) (by omega) _ r (by omega)).mono ?_
      rintro e w5 ⟨v5, ⟨rfl, h5, h6⟩, p5, hp5, r5, o5⟩
      replace own := own.gen hg o5
      replace hd := hd.gen hg o5
      replace hO := hO.trans (o5.mono hO.2.1)
      have hle5 := o5.2.1
      clear o5 r
      by_cases hv0 : v5 = 0
      · subst hv0
        have own6 : OwnI (w5.alloc (.cells #[.int .i64 3, .int .i64 2] 3)) w.heap.size (.slice (some ⟨w5.heap.size, 0, none⟩) [(3 : Int), 2].length 2) [3, 2] := World.ownsRow_lit w5 #[.int .i64 3, .int .i64 2] 2 (by omega) (by unfold maxLen; omega) rfl
        have hb6 : Below w5.heap.size w5 (w5.alloc (.cells #[.int .i64 3, .int .i64 2] 3)) := by (repeat' (first | exact Below.refl _ _ | apply Below.alloc | apply Below.setCell | apply Below.drew | apply below_draws)) <;> (first | omega | (simp <;> omega))
        have own7 : OwnE encH 22 1 (w5.alloc (.cells #[.int .i64 3, .int .i64 2] 3)) w.heap.size gO c hs := own_below own hb6
        have hd7 := hd.below hb6
        go_wp2_with (at_builtin; refine append_hdr rfl _ _ rfl w.heap.size gO c hs Ls (some ⟨w5.heap.size, 0, none⟩) 2 [3, 2] (w5.heap.size + 1) (by simp) rfl rfl own7 hd7 own6 (by omega) (by simp; omega) ?_)
        intro N g7 c7 w7 Ls2 hE own8 hd8 hb7
        have hO7 := hO.trans ((Outer.of (hb6.mono (by omega))).trans (Outer.of hb7))
        have r7 : Rd w7 g p5 := (r5.below (hb6.mono r5.lt)).below (hb7.mono (by omega))
        have hLs7 := all_snoc hLs (show [(3 : Int), 2].length ≤ 4 by decide)
        rw [← hE.out] at hLs7
        have hLl : Ls2.length = Ls.length + 1 := by rw [hE.out]; simp
        clear hE hd own hO hb7 hLs own7 hd7 own6 hb6 r5
        go_wp2
        go_ret
        exact ⟨_, _, N, Ls2, ⟨rfl, by omega, by omega, hLs7.out, own8, hd8⟩, p5, by omega, r7, hO7⟩
      · go_wp2
        go_ret
        exact ⟨_, _, hs, Ls, ⟨rfl, by omega, by omega, hLs.out, own, hd⟩, p5, by omega, r5, hO⟩
    · obtain ⟨m, rfl⟩ : ∃ k, m = k + 1 := ⟨m - 1, by omega⟩
      go_wp2_with fail
      obtain ⟨W6, hW6⟩ : ∃ W6, W6 = wr.alloc (.cells #[] 3) := ⟨_, rfl⟩
      have hb6 : Below wr.heap.size wr W6 := by rw [hW6]; exact (by (repeat' (first | exact Below.refl _ _ | apply Below.alloc | apply Below.setCell | apply Below.drew | apply below_draws)) <;> (first | omega | (simp <;> omega)))
      have r6 : Rd W6 g q := r.below (hb6.mono hgr)
      have ownL6 : OwnI W6 wr.heap.size (.slice (some ⟨wr.heap.size, 0, none⟩) 0 0) [] := by rw [hW6]; exact ownI_made wr _ (Nat.le_refl _)
      rw [← hW6]
      clear hW6
      refine (pick_gen g q _ (by omega) (by omega) _ r6 (by omega)).mono ?_
      rintro e w7 ⟨n1, ⟨rfl, h3, h4⟩, p7, hp7, r7, o7⟩
      obtain ⟨n1, rfl⟩ := Int.eq_ofNat_of_zero_le h3
      have ownL7 := own_gen ownL6 hgr o7
      have O7 : Outer wr.heap.size g wr w7 := (Outer.of hb6).trans (o7.mono hb6.size)
      have e0 : (0 : Int) ≤ 0 := Int.le_refl _
      clear ownL6 o7 hb6 r6 r
      obtain ⟨Wi, rfl⟩ : ∃ Wi : World, Wi = wr := ⟨_, rfl⟩
      go_wp2_with fail
      go_loopw [5, 6, 7] (fun v kv mv wr => ∃ (m1 q1 : Nat) (y : Int) (L : List Int) (gL c1 : Nat), mv = .int .i64 (m1 : Int) ∧ kv = .int .i64 y ∧ v = .slice (some ⟨gL, 0, none⟩) L.length c1 ∧ L.length + m1 ≤ 4 ∧ 0 ≤ y ∧ y ≤ 3 * L.length ∧ q1 ≤ q + 1 + L.length ∧ OwnI wr Wi.heap.size (.slice (some ⟨gL, 0, none⟩) L.length c1) L ∧ Rd wr g q1 ∧ Outer Wi.heap.size g Wi wr) (fun _ _ mv _ => (intOf mv).toNat)
      case atStart => exact ⟨n1, p7, 0, [], _, _, rfl, rfl, rfl, by simp; omega, by omega, by simp, by simp; omega, ownL7, r7, O7⟩
      case round =>
        obtain ⟨m1, q1, y, L, gL, c1, rfl, rfl, rfl, hlm1, hy0, hy1, hq1, ownL, r1, hO1⟩ := hrel
        clear ownL7 r7 O7
        have hle1 := hO1.2.1
        have hlt1 := r1.lt
        rcases Nat.eq_zero_or_pos m1 with rfl | hm1
        · have own8 := own.gen hg (hO1.mono (Nat.le_refl _))
          have hd8 := hd.gen hg hO1
          have ownL8 := own_mono ownL (base' := w.heap.size) hle
          have hO8 := hO.trans (hO1.mono hle)
          clear own hd ownL hO hO1
          go_wp2_with (at_builtin; refine append_hdr rfl _ _ rfl w.heap.size gO c hs Ls (some ⟨gL, 0, none⟩) c1 L _ rfl rfl rfl own8 hd8 ownL8 (by omega) (by omega) ?_)
          intro N g9 c9 w9 Ls2 hE own9 hd9 hb9
          have hO9 := hO8.trans (Outer.of hb9)
          have r9 : Rd w9 g q1 := r1.below (hb9.mono (by omega))
          have hLs9 := all_snoc hLs (show L.length ≤ 4 by omega)
          rw [← hE.out] at hLs9
          have hLl : Ls2.length = Ls.length + 1 := by rw [hE.out]; simp
          have hz0 : 1 ≤ Ls2.length + m := by omega
          have hz1 : Ls2.length + m ≤ 3 := by omega
          have hz2 : q1 ≤ p + 1 + 6 * Ls2.length := by omega
          clear hE hb9 hLs own8 hd8 ownL8 hO8 hLl r1
          go_wp2
          go_roundw
          case rel => exact ⟨m, q1, N, Ls2, g9, c9, by go_num, rfl, hz0, hz1, hz2, hLs9, own9, hd9, r9, hO9⟩
          case measure => simp [intOf]
        · obtain ⟨m1, rfl⟩ : ∃ k, m1 = k + 1 := ⟨m1 - 1, by omega⟩
          go_wp2_with fail
          refine (pick_gen g q1 _ (by omega) (by omega) _ r1 (by omega)).mono ?_
          rintro e w8 ⟨t, ⟨rfl, h5, h6⟩, p8, hp8, r8, o8⟩
          have ownL8 := own_gen ownL (Nat.lt_of_lt_of_le hgr (Nat.le_refl _)) o8
          have O8 := hO1.trans (o8.mono hle1)
          have hle8 := o8.2.1
          clear o8 r1 ownL hO1
          go_wp2_with (at_builtin; refine append_srcN rfl _ _ rfl Wi.heap.size _ _ _ L rfl rfl (ownL8.alloc _) _ _ _ [y + 1 + t] rfl rfl (Src.lit _ _) (by simp; omega) (by simp; omega) ?_)
          intro N hN g9 c9 w9 own9 hb9
          have hb10 : Below Wi.heap.size w8 w9 := Below.trans (by (repeat' (first | exact Below.refl _ _ | apply Below.alloc | apply Below.setCell | apply Below.drew | apply below_draws)) <;> (first | omega | (simp <;> omega))) hb9
          have O9 := O8.trans (Outer.of hb10)
          have r9 : Rd w9 g p8 := r8.below (hb10.mono hgr)
          have hNl : N.length = L.length + 1 := by rw [hN.out]; simp
          have hz1 : N.length + m1 ≤ 4 := by omega
          have hz2 : y + 1 + t ≤ 3 * (N.length : Int) := by omega
          have hz3 : p8 ≤ q + 1 + N.length := by omega
          clear hN hb9 hb10 ownL8 O8 r8 hNl
          go_wp2
          go_roundw
          case rel => exact ⟨m1, p8, y + 1 + t, N, g9, c9, by go_num, rfl, rfl, hz1, by omega, hz2, hz3, own9, r9, O9⟩
          case measure => simp [intOf]
theorem drawPhraseOf_any (a0 : Option Addr) (len cap : Nat) (zs : List Int) (w : World) (h : IsRow .u8 w a0 len cap zs) :
    Calls Try.prog 35 #[.slice a0 len cap] w (DrawnSS 1 4 0 6 w) := by
  go_enter Try.func35, Try.ntmps35
  go_wp2_with fail
  refine (open_any a0 len cap zs _ h).mono ?_
  rintro e w1 ⟨⟨rfl, r1⟩, hb1⟩
  obtain ⟨g, hg⟩ : ∃ g, g = w.heap.size := ⟨_, rfl⟩
  have hgw : w.heap.size ≤ g := by omega
  rw [← hg] at r1 ⊢
  have O1 : Outer w.heap.size g w w1 := Outer.of hb1
  have hlt1 := r1.lt
  have hs1 := hb1.size
  clear hg hb1 h
  go_wp2_with fail
  refine (l30Places_any g 0 _ r1 (by omega)).mono ?_
  rintro e w2 ⟨B, d, hs, Ls, ⟨rfl, hl1, hl4, hL4, own, hd⟩, p2, hp2, r2, o2⟩
  have O2 := O1.trans (o2.mono O1.2.1)
  have hL4' := Lib.hid hL4
  have hlt2 := r2.lt
  clear o2 hL4 O1 r1
  go_wp2_with fail
  refine (one_any g p2 w2.heap.size 6 [0, 0, 1, 2, 5, 6] _ (r2.below (by (repeat' (first | exact Below.refl _ _ | apply Below.alloc | apply Below.setCell | apply Below.drew | apply below_draws)) <;> (first | omega | (simp <;> omega)))) (by omega) rfl (by omega) (by omega) (by omega) (fun i hi => ?_)).mono ?_
  · rcases i with _ | _ | _ | _ | _ | _ | i
    all_goals first | omega | simp
  rintro e w3 ⟨t, ⟨rfl, ht⟩, p3, hp3, r3, o3⟩
  have ht0 : 0 ≤ t ∧ t ≤ 6 := by simp at ht; omega
  obtain ⟨ht0, ht1⟩ := ht0
  clear ht
  have own3 := (own_below (w' := w2.alloc (.cells #[.int .i64 0, .int .i64 0, .int .i64 1, .int .i64 2, .int .i64 5, .int .i64 6] 3)) own (by (repeat' (first | exact Below.refl _ _ | apply Below.alloc | apply Below.setCell | apply Below.drew | apply below_draws)) <;> (first | omega | (simp <;> omega))))
  have own4 := OwnE.gen own3 hlt1 o3
  have hd4 := (hd.below (w' := w2.alloc (.cells #[.int .i64 0, .int .i64 0, .int .i64 1, .int .i64 2, .int .i64 5, .int .i64 6] 3)) (by (repeat' (first | exact Below.refl _ _ | apply Below.alloc | apply Below.setCell | apply Below.drew | apply below_draws)) <;> (first | omega | (simp <;> omega)))).gen hlt1 o3
  have O3 := O2.trans ((Outer.of (B := w.heap.size) (Below.alloc (Below.refl _ _) O2.2.1 _)).trans (o3.mono (by have := O2.2.1; simp; omega)))
  go_wp2
  go_ret2
  exact ⟨B, d, Ls, t, ⟨rfl, hl1, by omega, hL4'.out, ht0, ht1, hd4.rd own4, hd4.cap own4⟩, O3.under (Nat.le_refl _) hgw⟩
/-- a drawn slice of lists. -/
def DrawnS1 (w : World) (e : Ending) (w' : World) : Prop :=
  ∃ (B d : Nat) (Ls : List (List Int)), (e = .returned (.slice (some ⟨B, 0, none⟩) Ls.length d) ∧ 1 ≤ Ls.length ∧ Ls.length ≤ 5 ∧ (∀ L ∈ Ls, L.length ≤ 4) ∧ RdSS w' (some ⟨B, 0, none⟩) Ls ∧ (Ls.length ≤ d ∧ d ≤ 9223372036854775807)) ∧ Below w.heap.size w w'
theorem drawNearAll_any (a0 : Option Addr) (len cap : Nat) (zs : List Int) (w : World) (h : IsRow .u8 w a0 len cap zs) :
    Calls Try.prog 43 #[.slice a0 len cap] w (DrawnS1 w) := by
  go_enter Try.func43, Try.ntmps43
  go_wp2_with fail
  refine (open_any a0 len cap zs _ h).mono ?_
  rintro e w1 ⟨⟨rfl, r1⟩, hb1⟩
  obtain ⟨g, hg⟩ : ∃ g, g = w.heap.size := ⟨_, rfl⟩
  have hgw : w.heap.size ≤ g := by omega
  rw [← hg] at r1 ⊢
  have O1 : Outer w.heap.size g w w1 := Outer.of hb1
  clear hg hb1 h
  go_wp2_with fail
  refine (l30Places_any g 0 _ r1 (by omega)).mono ?_
  rintro e w2 ⟨B, d, hs, Ls, ⟨rfl, hl1, hl4, hL4, own, hd⟩, p2, hp2, r2, o2⟩
  have O2 := O1.trans (o2.mono O1.2.1)
  have hL4' := Lib.hid hL4
  clear o2 hL4 O1 r1
  go_wp2
  go_ret
  exact ⟨B, d, Ls, ⟨rfl, hl1, by omega, hL4'.out, hd.rd own, hd.cap own⟩, O2.under (Nat.le_refl _) hgw⟩
theorem drawNearWidth_any (a0 : Option Addr) (len cap : Nat) (zs : List Int) (w : World) (h : IsRow .u8 w a0 len cap zs) :
    Calls Try.prog 48 #[.slice a0 len cap] w (DrawnS1 w) := by
  go_enter Try.func48, Try.ntmps48
  go_wp2_with fail
  refine (open_any a0 len cap zs _ h).mono ?_
  rintro e w1 ⟨⟨rfl, r1⟩, hb1⟩
  obtain ⟨g, hg⟩ : ∃ g, g = w.heap.size := ⟨_, rfl⟩
  have hgw : w.heap.size ≤ g := by omega
  rw [← hg] at r1 ⊢
  have O1 : Outer w.heap.size g w w1 := Outer.of hb1
  clear hg hb1 h
  go_wp2_with fail
  refine (l30Places_any g 0 _ r1 (by omega)).mono ?_
  rintro e w2 ⟨B, d, hs, Ls, ⟨rfl, hl1, hl4, hL4, own, hd⟩, p2, hp2, r2, o2⟩
  have O2 := O1.trans (o2.mono O1.2.1)
  have hL4' := Lib.hid hL4
  clear o2 hL4 O1 r1
  go_wp2
  go_ret
  exact ⟨B, d, Ls, ⟨rfl, hl1, by omega, hL4'.out, hd.rd own, hd.cap own⟩, O2.under (Nat.le_refl _) hgw⟩
end Go.Proofs.Ytoifknepebplnaa
