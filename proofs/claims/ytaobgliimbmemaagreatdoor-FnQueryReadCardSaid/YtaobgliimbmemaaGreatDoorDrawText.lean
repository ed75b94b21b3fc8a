/-
  What is drawn of texts: contracts of of, l30Raw, l30Text, l30AnyText.
-/
import Derived.Test.YtaobgliimbmemaaGreatDoorRd2
import Derived.Test.YtaobgliimbmemaaGreatDoorDocs
import Derived.Laws.Concat
namespace Go.Proofs.YtaobgliimbmemaaGreatDoor
open Go.RowKit
set_option linter.unusedVariables false

def isStr (v : Value) : Bool := match v with | .string s => decide (s.size ≤ 200) | _ => false
theorem isStr_of {v : Value} (h : isStr v = true) : ∃ s : ByteArray, v = .string s ∧ s.size ≤ 200 := by
  cases v <;> simp [isStr] at h
  exact ⟨_, rfl, h⟩
theorem strs_of (w : World) (cs : Array Value) (T : TypeId) (n : Nat) (hn : n = cs.size) (h : cs.toList.all isStr = true) : ∀ i, i < n → ∃ s : ByteArray, (w.alloc (.cells cs T)).cell? ⟨w.heap.size, i, none⟩ = some (.string s) ∧ s.size ≤ 200 := fun i hi => by
  subst hn
  rw [List.all_eq_true] at h
  obtain ⟨s, e, hs⟩ := isStr_of (h cs[i] (by rw [← Array.getElem_toList hi]; exact List.getElem_mem _))
  exact ⟨s, by rw [cell_of_row _ _ i cs T (0, 0) (heap_alloc_new w _), Array.getElem?_eq_getElem hi, e], hs⟩
theorem of_gen (g p b n : Nat) (w : World) (hr : Rd w g p) (hp : p < 1000000) (hl : 1 ≤ n) (hl2 : n ≤ 1000) (hbg : b ≠ g)
    (hcell : ∀ i, i < n → ∃ s : ByteArray, w.cell? ⟨b, i, none⟩ = some (.string s) ∧ s.size ≤ 200) :
    Calls Tryz.prog 22 #[.pointer (some ⟨g, 0, none⟩), .slice (some ⟨b, 0, none⟩) n n] w fun e w' => ∃ s : ByteArray, (e = .returned (.string s) ∧ s.size ≤ 200) ∧ Gen w w' g p 1 := by
  go_enter Tryz.func22, Tryz.ntmps22
  go_wp2_with fail
  refine (pick_any g p _ (by omega) (by omega) _ hr hp).mono ?_
  rintro e w1 ⟨v, ⟨rfl, hv0, hv1⟩, q, rfl⟩
  obtain ⟨i, rfl⟩ := Int.eq_ofNat_of_zero_le hv0
  obtain ⟨s, hs, hsz⟩ := hcell i (by omega)
  have hc : (w.setCell ⟨g, 1, none⟩ (.int .i64 ((p : Int) + 1))).cell? ⟨b, i, none⟩ = some (.string s) := by
    rw [World.cell?_setCell_other _ _ _ _ (by intro h; injection h; omega)]; exact hs
  go_wp2
  go_ret
  exact ⟨s, ⟨rfl, hsz⟩, gen_of_set hr hp q⟩
end Go.Proofs.YtaobgliimbmemaaGreatDoor
