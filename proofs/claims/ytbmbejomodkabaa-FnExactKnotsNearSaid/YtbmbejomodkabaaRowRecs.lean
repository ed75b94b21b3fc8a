/-
  Slices of points and of knots that came in, as the walks take them.
-/
import Derived.Test.YtbmbejomodkabaaPtKn
import Derived.Test.YtbmbejomodkabaaStructsN
namespace Go.Proofs.Ytbmbejomodkabaa
open Go.RowKit Go.ChangeShapes Go.WideShapes Go.Deep
set_option linter.unusedVariables false

def intsB (P : Program) : Nat → TypeId → Bool
  | 0, _ => false
  | n + 1, t => match P.underlying t with
    | some (.int .i64) => true
    | some (.struct fs) => (List.range (P.cellsOf t)).all fun j => fs.toList.any fun f => decide (f.offset ≤ j) && decide (j < f.offset + P.cellsOf f.type) && intsB P n f.type
    | _ => false
theorem intsT_of {H : Type} {enc : TypeId × Value → H} {P : Program} {w : World} {base : Nat} {spare : Nat → Bool} {held : Bool} : ∀ (n : Nat) (t : TypeId), intsB P n t = true → IntsT enc P w base spare held t
  | 0, t, h => by cases h
  | n + 1, t, h => by
    unfold intsB at h
    split at h
    · rename_i e; exact intsT_int e
    · rename_i fs e
      refine intsT_struct e fun j hj => ?_
      rw [List.all_eq_true] at h
      have h1 := h j (List.mem_range.2 hj)
      rw [List.any_eq_true] at h1
      obtain ⟨f, hf, h2⟩ := h1
      simp only [Bool.and_eq_true, decide_eq_true_eq] at h2
      obtain ⟨i, hi, rfl⟩ := List.getElem_of_mem hf
      refine ⟨i, fs.toList[i], ?_, h2.1.1, h2.1.2, intsT_of n _ h2.2⟩
      have : fs.toList[i]? = some fs.toList[i] := List.getElem?_eq_getElem hi
      rwa [Array.getElem?_toList] at this
    · cases h
def mkPt (X : List Int) : Pt := ⟨X.getD 0 0, X.getD 1 0, X.getD 2 0⟩
theorem mkPt_ok : ∀ X : List Int, X.length = 3 → flPt (mkPt X) = X
  | [a, b, c], _ => rfl
def mkKn (X : List Int) : Kn := ⟨X.getD 0 0, X.getD 1 0, X.getD 2 0, X.getD 3 0, X.getD 4 0, X.getD 5 0, X.getD 6 0, X.getD 7 0⟩
theorem mkKn_ok : ∀ X : List Int, X.length = 8 → flKn (mkKn X) = X
  | [a, b, c, d, e, f, g, h], _ => rfl
end Go.Proofs.Ytbmbejomodkabaa
