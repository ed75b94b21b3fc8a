/-
  What is drawn of texts: contracts of of, l30Raw, l30Text, l30AnyText.
-/
import Derived.Test.YtlgomipfhbkklaaRd2
import Derived.Test.YtlgomipfhbkklaaDocs
import Derived.Laws.Concat
namespace Go.Proofs.Ytlgomipfhbkklaa
open Go.RowKit
set_option linter.unusedVariables false

def isStr (v : Value) : Bool := match v with | .string s => decide (s.size ≤ 200) | _ => false
theorem isStr_of {v : Value} (h : isStr v = true) : ∃ s : ByteArray, v = .string s ∧ s.size ≤ 200 := by
  cases v <;> simp [isStr] at h
  exact ⟨_, rfl, h⟩
theorem strs_of (w : World) (cs : Array Value) (T : TypeId) (n : Nat) (hn : n = cs.size) (h : cs.toList.all isStr = true) : ∀ i, i < n → ∃ s : ByteArray, (w.alloc (.cells cs T)).cell? ⟨w.heap.size, i, none⟩ = some (.string s) ∧ s.size ≤ 200 := fun i hi => by
  subst hn
  rw [List.all_eq_true] at h
  obtain ⟨s, e, hs⟩ := isStr_of (h cs[i] (by rw [← Array.getElem_toList hi]; exact List.getElem_mem _))
  exact ⟨s, by rw [cell_of_row _ _ i cs T (0, 0) (heap_alloc_new w _), Array.getElem?_eq_getElem hi, e], hs⟩
theorem of_gen (g p b n : Nat) (w : World) (hr : Rd w g p) (hp : p < 1000000) (hl : 1 ≤ n) (hl2 : n ≤ 1000) (hbg : b ≠ g)
    (hcell : ∀ i, i < n → ∃ s : ByteArray, w.cell? ⟨b, i, none⟩ = some (.string s) ∧ s.size ≤ 200) :
    Calls Try.prog 35 #[.pointer (some ⟨g, 0, none⟩), .slice (some ⟨b, 0, none⟩) n n] w fun e w' => ∃ s : ByteArray, (e = .returned (.string s) ∧ s.size ≤ 200) ∧ Gen w w' g p 1 := by
  go_enter Try.func35, Try.ntmps35
  go_wp2_with fail
  refine (pick_any g p _ (by omega) (by omega) _ hr hp).mono ?_
  rintro e w1 ⟨v, ⟨rfl, hv0, hv1⟩, q, rfl⟩
  obtain ⟨i, rfl⟩ := Int.eq_ofNat_of_zero_le hv0
  obtain ⟨s, hs, hsz⟩ := hcell i (by omega)
  have hc : (w.setCell ⟨g, 1, none⟩ (.int .i64 ((p : Int) + 1))).cell? ⟨b, i, none⟩ = some (.string s) := by
    rw [World.cell?_setCell_other _ _ _ _ (by intro h; injection h; omega)]; exact hs
  go_wp2
  go_ret
  exact ⟨s, ⟨rfl, hsz⟩, gen_of_set hr hp q⟩
theorem l30Raw_gen (g p : Nat) (w : World) (hr : Rd w g p) (hp : p < 1000000) :
    Calls Try.prog 92 #[.pointer (some ⟨g, 0, none⟩)] w fun e w' => ∃ s : ByteArray, (e = .returned (.string s) ∧ s.size ≤ 200) ∧ Gen w w' g p 1 := by
  have hg := hr.lt
  go_enter Try.func92, Try.ntmps92
  go_wp2_with fail
  refine (of_gen g p w.heap.size 16 _ (hr.below (by (repeat' (first | exact Below.refl _ _ | apply Below.alloc | apply Below.setCell | apply Below.drew | apply below_draws)) <;> (first | omega | (simp <;> omega)))) hp (by omega) (by omega) (by omega) (by refine strs_of _ _ _ _ ?_ ?_; (rfl); (kernel_rfl))).mono ?_
  rintro e w1 ⟨s, ⟨rfl, hs⟩, p1, hp1, r1, o1⟩
  go_wp2
  go_ret
  exact ⟨s, ⟨rfl, hs⟩, p1, hp1, r1, (Outer.of (B := w.heap.size) (by (repeat' (first | exact Below.refl _ _ | apply Below.alloc | apply Below.setCell | apply Below.drew | apply below_draws)) <;> (first | omega | (simp <;> omega)))).trans (o1.mono (by simp))⟩
theorem l30Text_gen (g p : Nat) (w : World) (hr : Rd w g p) (hp : p + 20 < 1000000) :
    Calls Try.prog 67 #[.pointer (some ⟨g, 0, none⟩)] w fun e w' => ∃ s : ByteArray, (e = .returned (.string s) ∧ s.size ≤ 4000) ∧ Gen w w' g p 17 := by
  have hg := hr.lt
  go_enter Try.func67, Try.ntmps67
  go_wp2_with fail
  refine (pick_gen g p _ (by omega) (by omega) _ hr (by omega)).mono ?_
  rintro e w1 ⟨n0, ⟨rfl, h3, h4⟩, p1, hp1, r1, O1⟩
  obtain ⟨n, rfl⟩ := Int.eq_ofNat_of_zero_le h3
  go_wp2_with fail
  go_loopw [3, 4] (fun sv nv wr => ∃ (m q : Nat) (s : ByteArray), nv = .int .i64 (m : Int) ∧ sv = .string s ∧ m ≤ 8 ∧ s.size + m * 400 ≤ 3200 ∧ q + 2 * m ≤ p + 17 ∧ Rd wr g q ∧ Outer w.heap.size g w wr) (fun _ nv _ => (intOf nv).toNat)
  case atStart => exact ⟨n, p1, ⟨#[]⟩, rfl, rfl, by omega, by show (0 : Nat) + _ ≤ _; omega, by omega, r1, O1⟩
  case round =>
    obtain ⟨m, q, s, rfl, rfl, hm, hsz, hq, hr', hO⟩ := hrel
    rcases Nat.eq_zero_or_pos m with rfl | hm0
    · go_wp2
      go_ret
      exact ⟨s, ⟨rfl, by omega⟩, q, by omega, hr', hO⟩
    · obtain ⟨m, rfl⟩ : ∃ k, m = k + 1 := ⟨m - 1, by omega⟩
      have hlt := hr'.lt
      have hOs := hO.2.1
      go_wp2_with fail
      refine (l30Raw_gen g q _ hr' (by omega)).mono ?_
      rintro e w2 ⟨s2, ⟨rfl, hs2⟩, p2, hp2, r2, O2⟩
      have O2' := hO.trans (O2.mono hOs)
      have hz1 : ¬ 9223372036854775807 < s.size + s2.size := by omega
      have hlt2 := r2.lt
      have hO2s := O2'.2.1
      clear hr' hO O2
      go_wp2_with fail
      refine (of_gen g p2 w2.heap.size 5 _ (r2.below (by (repeat' (first | exact Below.refl _ _ | apply Below.alloc | apply Below.setCell | apply Below.drew | apply below_draws)) <;> (first | omega | (simp <;> omega)))) (by omega) (by omega) (by omega) (by omega) (by refine strs_of _ _ _ _ ?_ ?_; (rfl); (kernel_rfl))).mono ?_
      rintro e w3 ⟨s3, ⟨rfl, hs3⟩, p3, hp3, r3, O3⟩
      have O3' : Outer w.heap.size g w w3 := O2'.trans ((Outer.of (B := w.heap.size) (by (repeat' (first | exact Below.refl _ _ | apply Below.alloc | apply Below.setCell | apply Below.drew | apply below_draws)) <;> (first | omega | (simp <;> omega)))).trans (O3.mono (by simp; omega)))
      have hz2 : ¬ 9223372036854775807 < (s ++ s2).size + s3.size := by rw [ByteArray.size_append]; omega
      have hz3 : ¬ 9223372036854775807 < s.size + s2.size + s3.size := by omega
      have hfin : (s ++ s2 ++ s3).size + m * 400 ≤ 3200 := by rw [ByteArray.size_append, ByteArray.size_append]; omega
      clear O3 r2 O2'
      go_wp2
      go_roundw
      case rel => exact ⟨m, p3, s ++ s2 ++ s3, by go_num, rfl, by omega, hfin, by omega, r3, O3'⟩
      case measure => simp [intOf]
theorem l30AnyText_gen (g p : Nat) (w : World) (hr : Rd w g p) (hp : p + 30 < 1000000) :
    Calls Try.prog 33 #[.pointer (some ⟨g, 0, none⟩)] w fun e w' => ∃ s : ByteArray, (e = .returned (.string s) ∧ s.size ≤ 5000) ∧ Gen w w' g p 19 := by
  have hg := hr.lt
  go_enter Try.func33, Try.ntmps33
  go_wp2_with fail
  refine (l30Text_gen g p _ hr (by omega)).mono ?_
  rintro e w1 ⟨s, ⟨rfl, hs⟩, p1, hp1, r1, O1⟩
  go_wp2_with fail
  refine (pick_gen g p1 _ (by omega) (by omega) _ r1 (by omega)).mono ?_
  rintro e w2 ⟨v, ⟨rfl, h3, h4⟩, p2, hp2, r2, O2⟩
  have O2' := O1.trans (O2.mono O1.2.1)
  have hlt2 := r2.lt
  have hO2s := O2'.2.1
  by_cases hv : v = 0
  · subst hv
    go_wp2_with fail
    refine (of_gen g p2 w2.heap.size 3 _ (r2.below (by (repeat' (first | exact Below.refl _ _ | apply Below.alloc | apply Below.setCell | apply Below.drew | apply below_draws)) <;> (first | omega | (simp <;> omega)))) (by omega) (by omega) (by omega) (by omega) (by refine strs_of _ _ _ _ ?_ ?_; (rfl); (kernel_rfl))).mono ?_
    rintro e w3 ⟨s3, ⟨rfl, hs3⟩, p3, hp3, r3, O3⟩
    have O3' : Outer w.heap.size g w w3 := O2'.trans ((Outer.of (B := w.heap.size) (by (repeat' (first | exact Below.refl _ _ | apply Below.alloc | apply Below.setCell | apply Below.drew | apply below_draws)) <;> (first | omega | (simp <;> omega)))).trans (O3.mono (by simp; omega)))
    have hz1 : ¬ 9223372036854775807 < s.size + s3.size := by omega
    go_wp2
    go_ret
    exact ⟨_, ⟨rfl, by rw [ByteArray.size_append]; omega⟩, p3, by omega, r3, O3'⟩
  · go_wp2
    go_ret
    exact ⟨s, ⟨rfl, by omega⟩, p2, by omega, r2, O2'⟩
end Go.Proofs.Ytlgomipfhbkklaa
