/-
  Contracts of DrawFacetOf and DrawFacetBands.
-/
import Derived.Test.YteomiaffdbbpoaaDrawAll
import Derived.Test.YteomiaffdbbpoaaPutI
import Derived.OwnWalk
namespace Go.Proofs.Yteomiaffdbbpoaa
open Go.RowKit
set_option linter.unusedVariables false

theorem DrawnG.reads {most : Nat} {w w' : World} {base gO c : Nat} {Ds : List DocD} (h : DrawnG most w w' base gO c Ds) : RdD w' (some ⟨gO, 0, none⟩) Ds := by
  obtain ⟨hs, own, hd, _⟩ := h
  exact hd.rd own
theorem DrawnG.small {most : Nat} {w w' : World} {base gO c : Nat} {Ds : List DocD} (h : DrawnG most w w' base gO c Ds) (hm : most ≤ 100) : SmDs Ds := by
  obtain ⟨hs, own, hd, hl, hall⟩ := h
  refine ⟨by omega, fun d hd => ?_⟩
  obtain ⟨h1, h2⟩ := hall d hd
  exact sm_doc (n := 3) (m := 3) h1 h2 (by omega) (by omega)
theorem DrawnG.gen {most : Nat} {w w1 w2 : World} {base g gO c : Nat} {Ds : List DocD} (h : DrawnG most w w1 base gO c Ds) (hb : g < base) (ho : Outer w1.heap.size g w1 w2) : DrawnG most w w2 base gO c Ds := by
  obtain ⟨hs, own, hd, hl, hall⟩ := h
  exact ⟨hs, own.gen hb ho, hd.gen hb ho, hl, hall⟩
set_option maxHeartbeats 800000 in
theorem drawFacetOf_any (a0 : Option Addr) (len cap : Nat) (zs : List Int) (w : World) (h : IsRow .u8 w a0 len cap zs) :
    Calls Try.prog 45 #[.slice a0 len cap] w fun e w' => ∃ (B d : Nat) (Ds : List DocD) (I di : Nat) (L : List Int) (s : ByteArray),
      (e = .returned (.tuple #[.slice (some ⟨B, 0, none⟩) Ds.length d, .slice (some ⟨I, 0, none⟩) L.length di, .string s]) ∧ Ds.length ≤ 6 ∧ L.length ≤ 6 ∧ RdD w' (some ⟨B, 0, none⟩) Ds ∧ SmDs Ds ∧ OwnI w' w.heap.size (.slice (some ⟨I, 0, none⟩) L.length di) L) ∧ Below w.heap.size w w' := by
  go_enter Try.func45, Try.ntmps45
  go_wp2_with fail
  refine (open_any a0 len cap zs _ h).mono ?_
  rintro e w1 ⟨⟨rfl, r1⟩, hb1⟩
  obtain ⟨g, hg⟩ : ∃ g, g = w.heap.size := ⟨_, rfl⟩
  have hgw : w.heap.size ≤ g := by omega
  rw [← hg] at r1 ⊢
  have O1 : Outer w.heap.size g w w1 := Outer.of hb1
  have hlt1 := r1.lt
  have hs1 := hb1.size
  clear hg hb1 h
  go_wp2_with fail
  refine (l30AnyDocs_gen g 0 _ r1 (by omega)).mono ?_
  rintro e w2 ⟨B, d, Ds, ⟨rfl, hD⟩, p2, hp2, r2, o2⟩
  have hs2 := o2.2.1
  have O2 := O1.trans (o2.mono hs1)
  have hsm := hD.small (by omega)
  have hl6 : Ds.length ≤ 6 := by obtain ⟨_, _, _, hl, _⟩ := hD; exact hl
  clear o2 O1 r1
  go_wp2_with fail
  obtain ⟨W3, hW3⟩ : ∃ W3, W3 = w2.alloc (.cells #[] 3) := ⟨_, rfl⟩
  have r3 : Rd W3 g p2 := by rw [hW3]; exact r2.below ((Below.refl (g + 1) w2).alloc (by have := r2.lt; omega) _)
  have own3 := ownI_made w2 w2.heap.size (Nat.le_refl _)
  rw [← hW3] at own3
  have hs3 : W3.heap.size = w2.heap.size + 1 := by rw [hW3]; simp
  have o3 : Outer w2.heap.size g w2 W3 := by rw [hW3]; exact Outer.of (by (repeat' (first | exact Below.refl _ _ | apply Below.alloc | apply Below.setCell | apply Below.drew | apply below_draws)) <;> (first | omega | (simp <;> omega)))
  have O3 := O2.trans (o3.mono (by omega))
  rw [← hW3]
  have hs3' : w2.heap.size ≤ W3.heap.size := by omega
  clear hW3 hs3 r2 O2
  go_loopw [7, 8] (fun v i wr => ∃ (k q gI cI : Nat) (L : List Int), i = .int .i64 (k : Int) ∧ v = .slice (some ⟨gI, 0, none⟩) L.length cI ∧ k ≤ Ds.length ∧ L.length ≤ k ∧ q ≤ 600 + k ∧ OwnI wr w2.heap.size (.slice (some ⟨gI, 0, none⟩) L.length cI) L ∧ Rd wr g q ∧ w2.heap.size ≤ wr.heap.size ∧ Outer w2.heap.size g w2 wr ∧ Outer w.heap.size g w wr) (fun _ i _ => Ds.length - (intOf i).toNat)
  case atStart => exact ⟨0, p2, _, 0, [], rfl, rfl, Nat.zero_le _, Nat.le_refl _, by omega, own3, r3, hs3', o3, O3⟩
  case round =>
    obtain ⟨k, q, gI, cI, L, rfl, rfl, hk, hL, hq, own, r, hsz, ho, hO⟩ := hrel
    have hDr := hD.gen hlt1 ho
    by_cases hlt : k < Ds.length
    · go_wp2_with fail
      refine (pick_gen g q _ (by omega) (by omega) _ r (by omega)).mono ?_
      rintro e w4 ⟨v4, ⟨rfl, h3, h4⟩, p4, hp4, r4, o4⟩
      have own4 := own_gen own (by omega) o4
      have ho4 := ho.trans (o4.mono hsz)
      have hO4 := hO.trans (o4.mono (by omega))
      have hsz4 := o4.2.1
      have hD4 := (hD.gen hlt1 ho4).reads
      clear hDr own ho hO o4 r
      by_cases hv : 0 < v4
      · obtain ⟨b, off, A1, c1, A2, c2, hBe, hb, x0, x1, x2, _⟩ := hD4 k hlt
        have e1 : (⟨B, 0, none⟩ : Addr) = ⟨b, off, none⟩ := by injection hBe
        injection e1 with e1 e2
        subst e1 e2
        rw [Nat.zero_add] at x0
        clear hD4 x1 x2 hBe
        generalize Ds[k].id = n at x0
        go_wp2_with fail
        refine (l8Put_any gI cI w2.heap.size L n _ own4 (by omega) (by omega)).mono ?_
        rintro e w5 ⟨g5, c5, ⟨rfl, own5⟩, hb5⟩
        have r5 := r4.below (hb5.mono (by have := hs2; omega))
        have ho5 := ho4.trans (Outer.of hb5)
        have hO5 := hO4.trans (Outer.of (hb5.mono (by omega)))
        have hsz5 := hb5.size
        have hpl := putI_len L n
        generalize putI L n = L5 at own5 hpl ⊢
        clear own4 ho4 hO4 hb5 r4
        go_wp2
        go_roundw
        case rel => exact ⟨k + 1, p4, g5, c5, L5, by go_num, rfl, by omega, by omega, by omega, own5, r5, by omega, ho5, hO5⟩
        case measure => simp [intOf]; omega
      · clear hD4
        go_wp2
        go_roundw
        case rel => exact ⟨k + 1, p4, gI, cI, L, by go_num, rfl, by omega, by omega, by omega, own4, r4, by omega, ho4, hO4⟩
        case measure => simp [intOf]; omega
    · obtain rfl : k = Ds.length := by omega
      have hrl := r.lt
      clear hDr
      go_wp2_with fail
      refine (of_gen g q wr.heap.size 3 _ (r.below (by (repeat' (first | exact Below.refl _ _ | apply Below.alloc | apply Below.setCell | apply Below.drew | apply below_draws)) <;> (first | omega | (simp <;> omega)))) (by omega) (by omega) (by omega) (by omega) (by refine strs_of _ _ _ _ ?_ ?_; (rfl); (kernel_rfl))).mono ?_
      rintro e w6 ⟨s, ⟨rfl, hs⟩, p6, hp6, r6, o6⟩
      have ob : Outer wr.heap.size g wr w6 := (Outer.of (B := wr.heap.size) (by (repeat' (first | exact Below.refl _ _ | apply Below.alloc | apply Below.setCell | apply Below.drew | apply below_draws)) <;> (first | omega | (simp <;> omega)))).trans (o6.mono (by simp))
      have own6 := own_mono (own_gen own (by omega) ob) (base' := w.heap.size) (by omega)
      have hD6 := (hD.gen hlt1 (ho.trans (ob.mono hsz))).reads
      have hO6 := (hO.trans (ob.mono (by omega))).under (Nat.le_refl _) hgw
      clear own ho hO o6 ob r hD
      go_wp2
      go_ret3
      exact ⟨B, d, Ds, gI, cI, L, s, ⟨rfl, hl6, by omega, hD6, hsm, own6⟩, hO6⟩
theorem rd_at {w : World} {g p : Nat} (hr : Rd w g p) (q : Nat) (hq : q ≤ 1000000) : Rd (w.setCell ⟨g, 1, none⟩ (.int .i64 (q : Int))) g q := by
  obtain ⟨a, len, cap, zs, hb, ⟨hl, hc⟩, _⟩ := hr
  refine ⟨a, len, cap, zs, ?_, ⟨hl, fun h => ?_⟩, hq⟩
  · show (w.setCell ⟨g, 1, none⟩ (.int .i64 (q : Int))).heap[g]? = _
    simp [World.setCell, Array.getElem?_modify, hb]
  · obtain ⟨b, off, e, hbg, hcell, hrange⟩ := hc h
    refine ⟨b, off, e, hbg, fun i hi => ?_, hrange⟩
    rw [World.cell?_setCell_other _ _ _ _ (by intro h; injection h; omega)]
    exact hcell i hi
theorem results_tmp4 {fn : Func} {t u v x : Tmp} (h : fn.results = #[.tmp t, .tmp u, .tmp v, .tmp x]) (tmps : Array Value) (P : Program) (w : World) :
    (results fn tmps).run P w = .ok (.tuple #[tmps.getD t undef, tmps.getD u undef, tmps.getD v undef, tmps.getD x undef]) w := by
  simp [results, h, go_sem]
theorem drawFacetBands_any (a0 : Option Addr) (len cap : Nat) (zs : List Int) (w : World) (h : IsRow .u8 w a0 len cap zs) :
    Calls Try.prog 18 #[.slice a0 len cap] w fun e w' => ∃ (B d : Nat) (Ds : List DocD) (I di : Nat) (L : List Int) (s : ByteArray) (E : Option Addr) (de : Nat) (M : List Int),
      (e = .returned (.tuple #[.slice (some ⟨B, 0, none⟩) Ds.length d, .slice (some ⟨I, 0, none⟩) L.length di, .string s, .slice E M.length de]) ∧ Ds.length ≤ 6 ∧ L.length ≤ 6 ∧ M.length ≤ 61 ∧ RdD w' (some ⟨B, 0, none⟩) Ds ∧ SmDs Ds ∧ RdI w' (some ⟨I, 0, none⟩) L ∧ RdI w' E M) ∧ Below w.heap.size w w' := by
  go_enter Try.func18, Try.ntmps18
  go_wp2_with fail
  refine (drawFacetOf_any a0 len cap zs _ h).mono ?_
  rintro e w1 ⟨B, d, Ds, I, di, L, s, ⟨rfl, hl6, hL6, hD, hsm, own⟩, hb1⟩
  have hI : RdI w1 (some ⟨I, 0, none⟩) L := Rds.own own
  have h1 := h.below hb1
  have hs1 := hb1.size
  clear own h
  go_wp2_with fail
  refine (open_any a0 len cap zs _ h1).mono ?_
  rintro e w2 ⟨⟨rfl, r2⟩, hb2⟩
  have hr60 := rd_at r2 60 (by omega)
  have hb3 : Below w1.heap.size w1 (w2.setCell ⟨w1.heap.size, 1, none⟩ (.int .i64 60)) := hb2.setCell (p := ⟨w1.heap.size, 1, none⟩) (Nat.le_refl _) _
  obtain ⟨v, len', cap', zs', hbk, _⟩ := r2
  have c1 : w2.cell? ⟨w1.heap.size, 1, none⟩ = some (.int .i64 0) := by rw [cell_of_row _ _ 1 _ _ (0, 0) hbk]; rfl
  have z1 : w2.frozen? ⟨w1.heap.size, 1, none⟩ = false := by simp [World.frozen?, hbk]
  clear hbk hb2 h1
  go_wp2_with fail
  refine (l30AnyUp_any w1.heap.size 60 _ (by exact hr60) (by omega)).mono ?_
  rintro e w4 ⟨E, de, M, ⟨rfl, hM, own4⟩, p4, hp4, r4, o4⟩
  have hb4 : Below w1.heap.size w1 w4 := ((Outer.of (g := w1.heap.size) hb3).trans (o4.mono hb3.size)).under (Nat.le_refl _) (Nat.le_refl _)
  have hD4 := hD.below hb4
  have hI4 := hI.below hb4
  have hB4 := hb1.trans (hb4.mono hs1)
  have hE : RdI w4 E M := Rds.own own4
  clear hD hI hb1 hb3 hb4 o4 own4 r4 hr60 c1 z1
  go_wp2
  refine bodyPost_ret (results_tmp4 rfl _ _ _) rfl ?_
  exact ⟨B, d, Ds, I, di, L, s, E, de, M, ⟨rfl, hl6, hL6, by omega, hD4, hsm, hI4, hE⟩, hB4⟩
end Go.Proofs.Yteomiaffdbbpoaa
