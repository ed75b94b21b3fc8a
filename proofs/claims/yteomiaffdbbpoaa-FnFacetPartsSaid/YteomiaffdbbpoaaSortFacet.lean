/-
  slices.SortFunc by FacetOf's order on a row of facets of the call's own.
-/
import Derived.Test.YteomiaffdbbpoaaSortHit
import Derived.Test.YteomiaffdbbpoaaExactFacets
import Derived.Test.YteomiaffdbbpoaaTopLaw
namespace Go.Proofs.Yteomiaffdbbpoaa
open Go.RowKit Go.Sort Go.Shelf
set_option linter.unusedVariables false

theorem facetOrder_exact (a b : Int × Int) (w : World) :
    Calls Try.prog 79 #[.agg #[.int .i64 a.1, .int .i64 a.2], .agg #[.int .i64 b.1, .int .i64 b.2]] w fun e w' => e = .returned (.int .i64 (hcmpL a b)) ∧ ∃ q os', w' = Go.Sort.grow (w.drewN q) os' := by
  obtain ⟨ad, ap⟩ := a
  obtain ⟨bd, bp⟩ := b
  have HX : Hid (hcmpL (ad, ap) (bd, bp) = orI [Lib.compareInt bp ap, Lib.compareInt ad bd]) := rfl
  go_enter Try.func79, Try.ntmps79
  go_wp2_with fail
  go_region_held3 (fun w' => w'.cell? ⟨w.heap.size, 0, none⟩ = some (.int .i64 ad) ∧ w'.cell? ⟨w.heap.size, 1, none⟩ = some (.int .i64 ap) ∧ w'.cell? ⟨w.heap.size + 1, 0, none⟩ = some (.int .i64 bd) ∧ w'.cell? ⟨w.heap.size + 1, 1, none⟩ = some (.int .i64 bp))
    (first | go_keep | (go_split_ands; refine ⟨?_, ?_, ?_, ?_⟩ <;> (simp [go_sem]; done)))
    (first | (go_at_call 81; refine (cmp_any _ _ _).mono ?_; rintro e w' ⟨rfl, rfl⟩) | (go_at_call 80; refine (or_any _ _ [Lib.compareInt bp ap, Lib.compareInt ad bd] _ (by have hh : RdI (((w.alloc (.cells #[.int .i64 ad, .int .i64 ap] 73)).alloc (.cells #[.int .i64 bd, .int .i64 bp] 73)).alloc (.cells #[.int .i64 (Lib.compareInt bp ap), .int .i64 (Lib.compareInt ad bd)] 3)) (some ⟨w.heap.size + 1 + 1, 0, none⟩) [Lib.compareInt bp ap, Lib.compareInt ad bd] := rdI_heap (by have := heap_alloc_new ((w.alloc (.cells #[.int .i64 ad, .int .i64 ap] 73)).alloc (.cells #[.int .i64 bd, .int .i64 bp] 73)) (.cells #[.int .i64 (Lib.compareInt bp ap), .int .i64 (Lib.compareInt ad bd)] 3); simpa using this) rfl; exact hh) (by simp)).mono ?_; rintro e w' ⟨rfl, rfl⟩))
  all_goals go_wp2
  all_goals go_ret
  all_goals exact ⟨ret_int HX.out.symm, 1, _, by rw [Go.Sort.alloc_eq_grow, Go.Sort.alloc_eq_grow, Go.Sort.alloc_eq_grow, Go.Sort.grow_grow, Go.Sort.grow_grow]; rfl⟩
theorem holdsKF_own {w : World} {base g c : Nat} {L : List (Int × Int)} (h : OwnE enc2 73 2 w base g c L) : HoldsK enc2 2 w g 0 L.toArray := by
  intro j hj
  rcases h.2 with ⟨h', _⟩ | ⟨g', cap, cur, hv, hb, hh, hnc, hcm, hcs, htake⟩
  · simp at h'
  · simp only [Value.slice.injEq, Option.some.injEq, Addr.mk.injEq, and_true, true_and] at hv
    obtain ⟨rfl, rfl⟩ := hv
    refine ⟨?_, by simp [World.frozen?, hh]⟩
    have hj' : j < L.length * 2 := by simpa using hj
    have h1 : (cur.toList.take (L.length * 2))[j]? = (L.flatMap enc2)[j]? := by rw [htake]
    rw [List.getElem?_take_of_lt hj', ← flatK_enc2 L, Array.getElem?_toList, Array.getElem?_toList, Array.getElem?_eq_getElem hj] at h1
    rw [cell_of_row w g _ cur 73 (0, 0) hh, Nat.zero_add, h1, getElem!_pos (flatK enc2 2 L.toArray) j hj]
    rfl
theorem own_sortKF {w : World} {base g cap n : Nat} {os : Array Obj} {cur : Array Value} {L N : List (Int × Int)} (hl : N.length = L.length) (hbase : base ≤ g) (hb : w.heap[g]? = some (.cells cur 73 (0, 0)))
    (h1 : L.length ≤ cap) (h2 : cap ≤ maxLen) (h3 : cur.size = cap * 2) : OwnE enc2 73 2 (sortWorldK enc2 2 w g 0 n N.toArray os) base g cap N := by
  have hg : g < w.heap.size := (Array.getElem?_eq_some_iff.1 hb).1
  have hh : (sortWorldK enc2 2 w g 0 n N.toArray os).heap[g]? = some (.cells (putCells id 0 (flatK enc2 2 N.toArray) cur) 73 (0, 0)) := by
    unfold sortWorldK putRowK
    rw [heap_grow_old _ _ (by simpa using hg)]
    simp [putRow, mapBlock, Sort.ahead, Array.getElem?_modify, hb, onCells]
  exact ⟨flat_len enc2_len _, .inr ⟨g, cap, _, rfl, hbase, hh, by omega, h2, by simp [putCells, h3], take_putK cur N (by omega)⟩⟩
theorem sortFacet_own (g c base : Nat) (L : List (Int × Int)) (w : World) (h : OwnE enc2 73 2 w base g c L) (hn : L.length ≤ 16777216) :
    Calls Try.prog 78 #[.slice (some ⟨g, 0, none⟩) L.length c, .func (.func 79) #[] #[]] w fun e w' => ∃ N, (e = .returned (.tuple #[]) ∧ Hid (N = sortH L) ∧ N.length = L.length ∧ OwnE enc2 73 2 w' base g c N ∧ w.grownBy w' (some g)) ∧ Below base w w' := by
  have hk := holdsKF_own h
  rcases h.2 with ⟨h', _⟩ | ⟨g', cap, cur, hv, hb, hh, hnc, hcm, hcs, htake⟩
  · simp at h'
  · simp only [Value.slice.injEq, Option.some.injEq, Addr.mk.injEq, and_true, true_and] at hv
    obtain ⟨rfl, rfl⟩ := hv
    have hlt := (h.lt g rfl).2
    have eg : ∀ args w, (callFunc 79 args).run Try.prog w = .ok (.enter 79 args) w := enters_of Try.func79 (by kernel_rfl) rfl
    have hcon := AnyQ.slices_SortFunc_total Try.sortFacet 2 Try.isAgg73 Try.sizeOf73 enc2 enc2_len encHit.one hcmpL swoH 79 #[] g 0 c L.toArray w eg
      (fun m os dk hs x y => facetOrder_exact x y _) hk hlt (by simpa using (by omega : L.length < 4611686018427387904)) (fun x y h1 h2 => lessH_total (by rw [lt_hcmpL] at h1; exact h1) (by rw [lt_hcmpL] at h2; exact h2))
    refine (show Calls Try.prog 78 _ _ _ from hcon).mono ?_
    rintro e w' ⟨rfl, n, os, rfl⟩
    have e1 : (L.toArray.toList.mergeSort fun x y => !(ltOf hcmpL) y x) = sortH L := by
      unfold sortH
      simp only [lt_hcmpL]
    rw [e1]
    exact ⟨sortH L, ⟨rfl, rfl, sortH_len L, own_sortKF (sortH_len L) hb hh hnc hcm hcs, grown_sortK⟩, (Below.refl _ _).grown grown_sortK (by omega) (fun k hk => by cases hk; exact hb)⟩
end Go.Proofs.Yteomiaffdbbpoaa
