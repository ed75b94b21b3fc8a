/-
  toQuery: the question itself.
-/
import Derived.Test.YtaobgliimbmemaaGreatDoorQdTo
namespace Go.Proofs.YtaobgliimbmemaaGreatDoor
open Go.RowKit Go.Sort
set_option linter.unusedVariables false

theorem cells_blk {W : World} {b : Nat} {cs : Array Value} {t : TypeId} {r : Nat × Nat} (h : W.heap[b]? = some (.cells cs t r)) {j : Nat} {u : Value} (hu : cs[j]? = some u) : W.cell? ⟨b, j, none⟩ = some u := by simp [World.cell?, h, hu]
theorem blk6 {W : World} {b : Nat} {u0 u1 u2 u3 u4 u5 : Value} {t : TypeId} {r : Nat × Nat} (h : W.heap[b]? = some (.cells #[u0, u1, u2, u3, u4, u5] t r)) :
    W.cell? ⟨b, 0, none⟩ = some u0 ∧ W.cell? ⟨b, 1, none⟩ = some u1 ∧ W.cell? ⟨b, 2, none⟩ = some u2 ∧ W.cell? ⟨b, 3, none⟩ = some u3 ∧ W.cell? ⟨b, 4, none⟩ = some u4 ∧ W.cell? ⟨b, 5, none⟩ = some u5 :=
  ⟨cells_blk h rfl, cells_blk h rfl, cells_blk h rfl, cells_blk h rfl, cells_blk h rfl, cells_blk h rfl⟩
theorem frozen_blk {W : World} {b : Nat} {cs : Array Value} {t : TypeId} (h : W.heap[b]? = some (.cells cs t (0, 0))) (j : Nat) : W.frozen? ⟨b, j, none⟩ = false := by simp [World.frozen?, h]
theorem alloc_new (w : World) (o : Obj) : (w.alloc o).heap[w.heap.size]? = some o := heap_alloc_new w o
theorem alloc_elder {w : World} {b : Nat} {o o' : Obj} (h : w.heap[b]? = some o) : (w.alloc o').heap[b]? = some o := by
  have hb : b < w.heap.size := by
    rcases Nat.lt_or_ge b w.heap.size with hl | hl
    · exact hl
    · rw [Array.getElem?_eq_none hl] at h; cases h
  exact (((Below.refl _ w).alloc (Nat.le_refl _) o').block b hb).trans h
theorem box3 (w : World) (o1 o2 o3 : Obj) : ∀ W : World, W = ((w.alloc o1).alloc o2).alloc o3 → W.heap[w.heap.size]? = some o1 ∧ W.heap[w.heap.size + 1]? = some o2 ∧ W.heap[w.heap.size + 1 + 1]? = some o3 ∧ Below w.heap.size w W ∧ w.heap.size + 1 + 1 < W.heap.size := by
  rintro W rfl
  have e1 : (w.alloc o1).heap.size = w.heap.size + 1 := by simp
  have e2 : ((w.alloc o1).alloc o2).heap.size = w.heap.size + 1 + 1 := by simp
  refine ⟨alloc_elder (alloc_elder (alloc_new w o1)), ?_, ?_, ((((Below.refl _ w).alloc (Nat.le_refl _) o1).alloc (by omega) o2).alloc (by omega) o3), by simp⟩
  · have := alloc_new (w.alloc o1) o2; rw [e1] at this; exact alloc_elder this
  · have := alloc_new ((w.alloc o1).alloc o2) o3; rw [e2] at this; exact this
end Go.Proofs.YtaobgliimbmemaaGreatDoor
