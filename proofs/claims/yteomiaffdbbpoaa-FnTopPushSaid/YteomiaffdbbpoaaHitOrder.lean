/-
  Contract of hitOrder, to the block.
-/
import Derived.Test.YteomiaffdbbpoaaHits
import Derived.Test.YteomiaffdbbpoaaShelf
import Derived.Shelf.SlSortCmp.QuietGrown
namespace Go.Proofs.Yteomiaffdbbpoaa
open Go.RowKit
set_option linter.unusedVariables false

def hcmpL (a b : Int × Int) : Int := orI [Lib.compareInt b.2 a.2, Lib.compareInt a.1 b.1]
theorem hcmpL_less (a b : Int × Int) : decide (hcmpL a b < 0) = lessH a b := by
  rw [← hcmp_less]
  unfold hcmpL hcmp cmp3 orI orI orI Lib.compareInt
  rw [Bool.eq_iff_iff]
  simp only [decide_eq_true_eq, gt_iff_lt]
  split <;> split at * <;> (try split at *) <;> (try split) <;> (try omega)
theorem cmp_any (x y : Int) (w : World) : Calls Try.prog 81 #[.int .i64 x, .int .i64 y] w fun e w' => e = .returned (.int .i64 (Lib.compareInt x y)) ∧ w = w' :=
  (Try.cmp_Compare_int x y w).mono fun _ _ ⟨h1, h2⟩ => ⟨h1, h2.symm⟩
theorem rdI_heap {w : World} {g : Nat} {cs : Array Value} {L : List Int} (h : w.heap[g]? = some (.cells cs 3 (0, 0))) (hcs : cs.toList = ints L) : RdI w (some ⟨g, 0, none⟩) L := by
  refine ⟨by rw [ints_len, Nat.mul_one], fun _ => ⟨g, 0, rfl, heap_lt h, fun j u hu => ?_⟩⟩
  rw [Nat.zero_add, cell_of_row w g j cs 3 (0, 0) h, ← Array.getElem?_toList, hcs]
  exact hu
theorem hitOrder_exact (a b : Int × Int) (w : World) :
    Calls Try.prog 55 #[.agg #[.int .i64 a.1, .int .i64 a.2], .agg #[.int .i64 b.1, .int .i64 b.2]] w fun e w' => e = .returned (.int .i64 (hcmpL a b)) ∧ ∃ q os', w' = Go.Sort.grow (w.drewN q) os' := by
  obtain ⟨ad, ap⟩ := a
  obtain ⟨bd, bp⟩ := b
  have HX : Hid (hcmpL (ad, ap) (bd, bp) = orI [Lib.compareInt bp ap, Lib.compareInt ad bd]) := rfl
  go_enter Try.func55, Try.ntmps55
  go_wp2_with fail
  go_region_held3 (fun w' => w'.cell? ⟨w.heap.size, 0, none⟩ = some (.int .i64 ad) ∧ w'.cell? ⟨w.heap.size, 1, none⟩ = some (.int .i64 ap) ∧ w'.cell? ⟨w.heap.size + 1, 0, none⟩ = some (.int .i64 bd) ∧ w'.cell? ⟨w.heap.size + 1, 1, none⟩ = some (.int .i64 bp))
    (first | go_keep | (go_split_ands; refine ⟨?_, ?_, ?_, ?_⟩ <;> (simp [go_sem]; done)))
    (first | (go_at_call 81; refine (cmp_any _ _ _).mono ?_; rintro e w' ⟨rfl, rfl⟩) | (go_at_call 80; refine (or_any _ _ [Lib.compareInt bp ap, Lib.compareInt ad bd] _ (by have hh : RdI (((w.alloc (.cells #[.int .i64 ad, .int .i64 ap] 49)).alloc (.cells #[.int .i64 bd, .int .i64 bp] 49)).alloc (.cells #[.int .i64 (Lib.compareInt bp ap), .int .i64 (Lib.compareInt ad bd)] 3)) (some ⟨w.heap.size + 1 + 1, 0, none⟩) [Lib.compareInt bp ap, Lib.compareInt ad bd] := rdI_heap (by have := heap_alloc_new ((w.alloc (.cells #[.int .i64 ad, .int .i64 ap] 49)).alloc (.cells #[.int .i64 bd, .int .i64 bp] 49)) (.cells #[.int .i64 (Lib.compareInt bp ap), .int .i64 (Lib.compareInt ad bd)] 3); simpa using this) rfl; exact hh) (by simp)).mono ?_; rintro e w' ⟨rfl, rfl⟩))
  all_goals go_wp2
  all_goals go_ret
  all_goals exact ⟨ret_int HX.out.symm, 1, _, by rw [Go.Sort.alloc_eq_grow, Go.Sort.alloc_eq_grow, Go.Sort.alloc_eq_grow, Go.Sort.grow_grow, Go.Sort.grow_grow]; rfl⟩
end Go.Proofs.Yteomiaffdbbpoaa
