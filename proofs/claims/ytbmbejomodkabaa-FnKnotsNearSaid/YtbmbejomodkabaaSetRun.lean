/-
  Contracts of SetAnd and SetLess and of what they call.
-/
import Derived.Test.YtbmbejomodkabaaOwn
namespace Go.Proofs.Ytbmbejomodkabaa
open Go.RowKit
set_option linter.unusedVariables false

def outB (M : List Int) (x : Int) : Bool := !inB M x
def andL (L M : List Int) : List Int := if upB L && upB M then L.filter (inB M) else []
def lessL (L M : List Int) : List Int := if upB L && upB M then L.filter (outB M) else []
theorem len_andL (L M : List Int) (h : L.length ≤ 1048576) (h' : M.length ≤ 1048576) : (andL L M).length ≤ 4194304 := by
  unfold andL; split
  · have := List.length_filter_le (inB M) L; omega
  · simp
theorem len_lessL (L M : List Int) (h : L.length ≤ 1048576) (h' : M.length ≤ 1048576) : (lessL L M).length ≤ 4194304 := by
  unfold lessL; split
  · have := List.length_filter_le (outB M) L; omega
  · simp





end Go.Proofs.Ytbmbejomodkabaa
