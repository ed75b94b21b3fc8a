/-
  slices.SortFunc by hitOrder on a row of hits of the call's own; firstHits.
-/
import Derived.Test.YteomiaffdbbpoaaImplHits
import Derived.Test.YteomiaffdbbpoaaExactHits
import Derived.Shelf.SlSortCmp.NoneTotal
namespace Go.Proofs.Yteomiaffdbbpoaa
open Go.RowKit Go.Sort Go.Shelf
set_option linter.unusedVariables false

theorem encHit : Enc enc2 2 := ⟨enc2_len, by intro x u hu; simp [enc2] at hu; rcases hu with rfl | rfl <;> rfl⟩
theorem flatK_enc2 (L : List (Int × Int)) : (flatK enc2 2 L.toArray).toList = L.flatMap enc2 := by
  apply List.ext_getElem?
  intro t
  by_cases ht : t < L.length * 2
  · have h1 : t < (flatK enc2 2 L.toArray).size := by simpa using ht
    have hi : t / 2 < L.length := by omega
    have h2 := flat_get (zs := L) (i := t / 2) (j := t % 2) enc2_len (List.getElem?_eq_getElem hi) (by omega)
    rw [show t / 2 * 2 + t % 2 = t by omega] at h2
    have h3 := get_flatK enc2 2 L.toArray t (by simpa using ht)
    rw [getElem!_pos _ t h1] at h3
    rw [Array.getElem?_toList, Array.getElem?_eq_getElem h1, h3, h2, getElem!_pos L.toArray (t / 2) (by simpa using hi)]
    have h4 : t % 2 < (enc2 L[t / 2]).length := by rw [enc2_len]; omega
    simp only [List.getElem_toArray]
    rw [getElem!_pos (enc2 L[t / 2]) (t % 2) h4, List.getElem?_eq_getElem h4]
  · rw [List.getElem?_eq_none (by simp; omega), List.getElem?_eq_none (by rw [flat_len enc2_len]; omega)]
theorem holdsK_own {w : World} {base g c : Nat} {L : List (Int × Int)} (h : OwnE enc2 49 2 w base g c L) : HoldsK enc2 2 w g 0 L.toArray := by
  intro j hj
  rcases h.2 with ⟨h', _⟩ | ⟨g', cap, cur, hv, hb, hh, hnc, hcm, hcs, htake⟩
  · simp at h'
  · simp only [Value.slice.injEq, Option.some.injEq, Addr.mk.injEq, and_true, true_and] at hv
    obtain ⟨rfl, rfl⟩ := hv
    refine ⟨?_, by simp [World.frozen?, hh]⟩
    have hj' : j < L.length * 2 := by simpa using hj
    have h1 : (cur.toList.take (L.length * 2))[j]? = (L.flatMap enc2)[j]? := by rw [htake]
    rw [List.getElem?_take_of_lt hj', ← flatK_enc2 L, Array.getElem?_toList, Array.getElem?_toList, Array.getElem?_eq_getElem hj] at h1
    rw [cell_of_row w g _ cur 49 (0, 0) hh, Nat.zero_add, h1, getElem!_pos (flatK enc2 2 L.toArray) j hj]
    rfl
theorem take_putK (cur : Array Value) (N : List (Int × Int)) (h : N.length * 2 ≤ cur.size) : (putCells id 0 (flatK enc2 2 N.toArray) cur).toList.take (N.length * 2) = N.flatMap enc2 := by
  rw [← flatK_enc2 N]
  apply List.ext_getElem?
  intro j
  by_cases hj : j < N.length * 2
  · have hj2 : j < (flatK enc2 2 N.toArray).size := by simpa using hj
    rw [List.getElem?_take_of_lt hj, Array.getElem?_toList, Array.getElem?_toList, Array.getElem?_eq_getElem hj2]
    simp [putCells, hj, show j < cur.size by omega]
  · rw [List.getElem?_take_eq_none (by omega), List.getElem?_eq_none (by simp; omega)]
theorem own_sortK {w : World} {base g cap n : Nat} {os : Array Obj} {cur : Array Value} {L N : List (Int × Int)} (hl : N.length = L.length) (hbase : base ≤ g) (hb : w.heap[g]? = some (.cells cur 49 (0, 0)))
    (h1 : L.length ≤ cap) (h2 : cap ≤ maxLen) (h3 : cur.size = cap * 2) : OwnE enc2 49 2 (sortWorldK enc2 2 w g 0 n N.toArray os) base g cap N := by
  have hg : g < w.heap.size := (Array.getElem?_eq_some_iff.1 hb).1
  have hh : (sortWorldK enc2 2 w g 0 n N.toArray os).heap[g]? = some (.cells (putCells id 0 (flatK enc2 2 N.toArray) cur) 49 (0, 0)) := by
    unfold sortWorldK putRowK
    rw [heap_grow_old _ _ (by simpa using hg)]
    simp [putRow, mapBlock, Sort.ahead, Array.getElem?_modify, hb, onCells]
  exact ⟨flat_len enc2_len _, .inr ⟨g, cap, _, rfl, hbase, hh, by omega, h2, by simp [putCells, h3], take_putK cur N (by omega)⟩⟩
theorem grown_sortK {w : World} {g n : Nat} {os : Array Obj} {N : List (Int × Int)} : w.grownBy (sortWorldK enc2 2 w g 0 n N.toArray os) (some g) := by
  refine ⟨rfl, rfl, rfl, by simp [sortWorldK, putRowK], fun k hk hne => ?_⟩
  unfold sortWorldK putRowK
  rw [heap_grow_old _ _ (by simpa using hk)]
  have : g ≠ k := fun e => hne (by rw [e])
  simp [putRow, mapBlock, Sort.ahead, Array.getElem?_modify, this]
theorem lt_hcmpL (x y : Int × Int) : ltOf hcmpL x y = lessH x y := hcmpL_less x y
theorem lessH_iff {a b : Int × Int} : lessH a b = true ↔ b.2 < a.2 ∨ a.2 = b.2 ∧ a.1 < b.1 := by unfold lessH; simp
theorem lessH_irr (a : Int × Int) : lessH a a = false := by rw [← Bool.not_eq_true, lessH_iff]; omega
theorem lessH_trans {a b c : Int × Int} (h1 : lessH a b = true) (h2 : lessH b c = true) : lessH a c = true := by rw [lessH_iff] at *; omega
theorem lessH_total {a b : Int × Int} (h1 : lessH a b = false) (h2 : lessH b a = false) : a = b := by
  rw [← Bool.not_eq_true, lessH_iff] at h1 h2
  exact Prod.ext (by omega) (by omega)
theorem swoH : SWO (ltOf hcmpL) where
  irrefl x := by rw [lt_hcmpL]; exact lessH_irr x
  trans x y z h1 h2 := by rw [lt_hcmpL] at *; exact lessH_trans h1 h2
  ntrans x y z h1 h2 := by
    rw [lt_hcmpL] at *
    rw [← Bool.not_eq_true, lessH_iff] at *
    omega
def sortH (L : List (Int × Int)) : List (Int × Int) := L.mergeSort fun x y => !(lessH y x)
theorem sortH_len (L : List (Int × Int)) : (sortH L).length = L.length := List.length_mergeSort ..
theorem sortHit_own (g c base : Nat) (L : List (Int × Int)) (w : World) (h : OwnE enc2 49 2 w base g c L) (hn : L.length ≤ 16777216) :
    Calls Try.prog 103 #[.slice (some ⟨g, 0, none⟩) L.length c, .func (.func 55) #[] #[]] w fun e w' => ∃ N, (e = .returned (.tuple #[]) ∧ Hid (N = sortH L) ∧ N.length = L.length ∧ OwnE enc2 49 2 w' base g c N ∧ w.grownBy w' (some g)) ∧ Below base w w' := by
  have hk := holdsK_own h
  rcases h.2 with ⟨h', _⟩ | ⟨g', cap, cur, hv, hb, hh, hnc, hcm, hcs, htake⟩
  · simp at h'
  · simp only [Value.slice.injEq, Option.some.injEq, Addr.mk.injEq, and_true, true_and] at hv
    obtain ⟨rfl, rfl⟩ := hv
    have hlt := (h.lt g rfl).2
    have eg : ∀ args w, (callFunc 55 args).run Try.prog w = .ok (.enter 55 args) w := enters_of Try.func55 (by kernel_rfl) rfl
    have hcon := AnyQ.slices_SortFunc_total Try.sortHit 2 Try.isAgg49 Try.sizeOf49 enc2 enc2_len encHit.one hcmpL swoH 55 #[] g 0 c L.toArray w eg
      (fun m os dk hs x y => hitOrder_exact x y _) hk hlt (by simpa using (by omega : L.length < 4611686018427387904)) (fun x y h1 h2 => lessH_total (by rw [lt_hcmpL] at h1; exact h1) (by rw [lt_hcmpL] at h2; exact h2))
    refine (show Calls Try.prog 103 _ _ _ from hcon).mono ?_
    rintro e w' ⟨rfl, n, os, rfl⟩
    have e1 : (L.toArray.toList.mergeSort fun x y => !(ltOf hcmpL) y x) = sortH L := by
      unfold sortH
      simp only [lt_hcmpL]
    rw [e1]
    exact ⟨sortH L, ⟨rfl, rfl, sortH_len L, own_sortK (sortH_len L) hb hh hnc hcm hcs, grown_sortK⟩, (Below.refl _ _).grown grown_sortK (by omega) (fun k hk => by cases hk; exact hb)⟩
end Go.Proofs.Yteomiaffdbbpoaa
