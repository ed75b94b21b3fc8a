/-
  NARROWER THAN 'FOR EVERY INPUT', by the rows' own cells (each row's printed sentence says how): FnExactRatOf: laid · FnExactRatAdd: laid · FnExactRatMul: laid · FnExactTermScore: laid · FnRatOf: laid · FnRatOk: laid · FnRatAdd: laid · FnRatMul: laid · FnTermRare: laid · FnTermScore: laid.
  DERIVED. THE GIVEN ROWS OF THIS SEAT. 10 by the template 'for every input the law returns true; each argument reads behind the call as it read before'; 0 by the template 'total and deterministic' (their statements: YtobdkkbackalhaaDoorTotals.lean).
  GIVEN WITH THE SEED: the statements are not yours to turn. If you find one false, say at which input.
  Laid BY PROGRAM, IN A SANDBOX (cutbox-rows.mjs): the forced cells as the released guide's own fill.sh prints them over the translation 644e05080c212345… (all of the seat's roots in one cut). By AI agents, Wed Nov 11 2026. No macro, syntax, notation, axiom, sorry.
-/
import Derived.Test.YtobdkkbackalhaaDoorChecked
import GoSem.Claim
import GoSem.ClaimJoined
import GoSem.ClaimMapViews
import Derived.JoinedTies
import Derived.KernelRfl
namespace Go.Proofs.YtobdkkbackalhaaDoor
/- THE CELL 'sum', in the pinned program and in every row, IS THE sha256 OF THE DUMP (.gsa) THAT YtobdkkbackalhaaDoorProg.lean LOADS. Nothing in Lean hashes anything: it is a label: what it is worth is what the hold of that sum in a sandbox is worth. -/
noncomputable def Tryd.pinned : Pinned := { name := "ytobdkkbackalhaadoor", sum := "644e05080c21234538f5ddb63a35b3b343bf238af9fbcbebe5d081a4f005113f", checked := Tryd.checked }
namespace Rows
def none {H : Type} : Left H := { results := [], args := [] }

/- WHAT THE LISTED PACKAGE-LEVEL VARIABLES READ AS WHEN THE CALL BEGINS. Each datum BY PROGRAM (the guide's laid-datum.mjs) off the statement by which the dump's own 'gosem.cut.vars' lays the variable. In a bare row this is a premise. The card (YtobdkkbackalhaaDoorCards.lean) ties it to the program's text. -/
def laid_loop_example_fossick_impl_none {H : Type} : DataW H := .agg [.lit (.int .i64 0), .lit (.int .i64 1)]

/-- 'laws.FnExactRatOf': WHATEVER THE INPUT: true; the input reads as it did. -/
def fnExactRatOfSpec : ChangeSpec := { name := "fnExactRatOf", vars := ["loop.example/fossick/impl.none"], fn := fun _ => fun
  | [d1, d2, g1] => { results := [.lit (.bool true)], args := [d1, d2], vars := [g1] }
  | _ => none }
def fnExactRatOfRow : OpenClaim := { program := "ytobdkkbackalhaadoor", sum := "644e05080c21234538f5ddb63a35b3b343bf238af9fbcbebe5d081a4f005113f", func := "loop.example/fossick/laws.FnExactRatOf", spec := "fnExactRatOf", recurses := true, named := ["loop.example/fossick/impl.none"], apart := false, laid := [("loop.example/fossick/impl.none", laid_loop_example_fossick_impl_none)] }
def FnExactRatOfSaid : Prop := fnExactRatOfRow.holds Tryd.pinned (OpenSpec.ofChange fnExactRatOfSpec)

/-- ITS FALSE NEIGHBOUR: 'it returns false'. Refute it at one input. -/
def fnExactRatOfWrong : ChangeSpec := { name := "fnExactRatOf", vars := ["loop.example/fossick/impl.none"], fn := fun _ => fun
  | [d1, d2, g1] => { results := [.lit (.bool false)], args := [d1, d2], vars := [g1] }
  | _ => none }
def FnExactRatOfWrongFalsely : Prop := fnExactRatOfRow.holds Tryd.pinned (OpenSpec.ofChange fnExactRatOfWrong)

/-- 'laws.FnExactRatAdd': WHATEVER THE INPUT: true; the input reads as it did. -/
def fnExactRatAddSpec : ChangeSpec := { name := "fnExactRatAdd", vars := ["loop.example/fossick/impl.none"], fn := fun _ => fun
  | [d1, d2, g1] => { results := [.lit (.bool true)], args := [d1, d2], vars := [g1] }
  | _ => none }
def fnExactRatAddRow : OpenClaim := { program := "ytobdkkbackalhaadoor", sum := "644e05080c21234538f5ddb63a35b3b343bf238af9fbcbebe5d081a4f005113f", func := "loop.example/fossick/laws.FnExactRatAdd", spec := "fnExactRatAdd", recurses := true, named := ["loop.example/fossick/impl.none"], apart := false, laid := [("loop.example/fossick/impl.none", laid_loop_example_fossick_impl_none)] }
def FnExactRatAddSaid : Prop := fnExactRatAddRow.holds Tryd.pinned (OpenSpec.ofChange fnExactRatAddSpec)

/-- ITS FALSE NEIGHBOUR: 'it returns false'. Refute it at one input. -/
def fnExactRatAddWrong : ChangeSpec := { name := "fnExactRatAdd", vars := ["loop.example/fossick/impl.none"], fn := fun _ => fun
  | [d1, d2, g1] => { results := [.lit (.bool false)], args := [d1, d2], vars := [g1] }
  | _ => none }
def FnExactRatAddWrongFalsely : Prop := fnExactRatAddRow.holds Tryd.pinned (OpenSpec.ofChange fnExactRatAddWrong)

/-- 'laws.FnExactRatMul': WHATEVER THE INPUT: true; the input reads as it did. -/
def fnExactRatMulSpec : ChangeSpec := { name := "fnExactRatMul", vars := ["loop.example/fossick/impl.none"], fn := fun _ => fun
  | [d1, d2, g1] => { results := [.lit (.bool true)], args := [d1, d2], vars := [g1] }
  | _ => none }
def fnExactRatMulRow : OpenClaim := { program := "ytobdkkbackalhaadoor", sum := "644e05080c21234538f5ddb63a35b3b343bf238af9fbcbebe5d081a4f005113f", func := "loop.example/fossick/laws.FnExactRatMul", spec := "fnExactRatMul", recurses := true, named := ["loop.example/fossick/impl.none"], apart := false, laid := [("loop.example/fossick/impl.none", laid_loop_example_fossick_impl_none)] }
def FnExactRatMulSaid : Prop := fnExactRatMulRow.holds Tryd.pinned (OpenSpec.ofChange fnExactRatMulSpec)

/-- ITS FALSE NEIGHBOUR: 'it returns false'. Refute it at one input. -/
def fnExactRatMulWrong : ChangeSpec := { name := "fnExactRatMul", vars := ["loop.example/fossick/impl.none"], fn := fun _ => fun
  | [d1, d2, g1] => { results := [.lit (.bool false)], args := [d1, d2], vars := [g1] }
  | _ => none }
def FnExactRatMulWrongFalsely : Prop := fnExactRatMulRow.holds Tryd.pinned (OpenSpec.ofChange fnExactRatMulWrong)

/-- 'laws.FnExactTermScore': WHATEVER THE INPUT: true; the input reads as it did. -/
def fnExactTermScoreSpec : ChangeSpec := { name := "fnExactTermScore", vars := ["loop.example/fossick/impl.none"], fn := fun _ => fun
  | [d1, d2, d3, d4, d5, g1] => { results := [.lit (.bool true)], args := [d1, d2, d3, d4, d5], vars := [g1] }
  | _ => none }
def fnExactTermScoreRow : OpenClaim := { program := "ytobdkkbackalhaadoor", sum := "644e05080c21234538f5ddb63a35b3b343bf238af9fbcbebe5d081a4f005113f", func := "loop.example/fossick/laws.FnExactTermScore", spec := "fnExactTermScore", recurses := true, named := ["loop.example/fossick/impl.none"], apart := false, laid := [("loop.example/fossick/impl.none", laid_loop_example_fossick_impl_none)] }
def FnExactTermScoreSaid : Prop := fnExactTermScoreRow.holds Tryd.pinned (OpenSpec.ofChange fnExactTermScoreSpec)

/-- ITS FALSE NEIGHBOUR: 'it returns false'. Refute it at one input. -/
def fnExactTermScoreWrong : ChangeSpec := { name := "fnExactTermScore", vars := ["loop.example/fossick/impl.none"], fn := fun _ => fun
  | [d1, d2, d3, d4, d5, g1] => { results := [.lit (.bool false)], args := [d1, d2, d3, d4, d5], vars := [g1] }
  | _ => none }
def FnExactTermScoreWrongFalsely : Prop := fnExactTermScoreRow.holds Tryd.pinned (OpenSpec.ofChange fnExactTermScoreWrong)

/-- 'laws.FnRatOf': WHATEVER THE INPUT: true; the input reads as it did. -/
def fnRatOfSpec : ChangeSpec := { name := "fnRatOf", vars := ["loop.example/fossick/impl.none"], fn := fun _ => fun
  | [d, g1] => { results := [.lit (.bool true)], args := [d], vars := [g1] }
  | _ => none }
def fnRatOfRow : OpenClaim := { program := "ytobdkkbackalhaadoor", sum := "644e05080c21234538f5ddb63a35b3b343bf238af9fbcbebe5d081a4f005113f", func := "loop.example/fossick/laws.FnRatOf", spec := "fnRatOf", recurses := true, named := ["loop.example/fossick/impl.none"], apart := false, laid := [("loop.example/fossick/impl.none", laid_loop_example_fossick_impl_none)] }
def FnRatOfSaid : Prop := fnRatOfRow.holds Tryd.pinned (OpenSpec.ofChange fnRatOfSpec)

/-- ITS FALSE NEIGHBOUR: 'it returns false'. Refute it at one input. -/
def fnRatOfWrong : ChangeSpec := { name := "fnRatOf", vars := ["loop.example/fossick/impl.none"], fn := fun _ => fun
  | [d, g1] => { results := [.lit (.bool false)], args := [d], vars := [g1] }
  | _ => none }
def FnRatOfWrongFalsely : Prop := fnRatOfRow.holds Tryd.pinned (OpenSpec.ofChange fnRatOfWrong)

/-- 'laws.FnRatOk': WHATEVER THE INPUT: true; the input reads as it did. -/
def fnRatOkSpec : ChangeSpec := { name := "fnRatOk", vars := ["loop.example/fossick/impl.none"], fn := fun _ => fun
  | [d, g1] => { results := [.lit (.bool true)], args := [d], vars := [g1] }
  | _ => none }
def fnRatOkRow : OpenClaim := { program := "ytobdkkbackalhaadoor", sum := "644e05080c21234538f5ddb63a35b3b343bf238af9fbcbebe5d081a4f005113f", func := "loop.example/fossick/laws.FnRatOk", spec := "fnRatOk", recurses := true, named := ["loop.example/fossick/impl.none"], apart := false, laid := [("loop.example/fossick/impl.none", laid_loop_example_fossick_impl_none)] }
def FnRatOkSaid : Prop := fnRatOkRow.holds Tryd.pinned (OpenSpec.ofChange fnRatOkSpec)

/-- ITS FALSE NEIGHBOUR: 'it returns false'. Refute it at one input. -/
def fnRatOkWrong : ChangeSpec := { name := "fnRatOk", vars := ["loop.example/fossick/impl.none"], fn := fun _ => fun
  | [d, g1] => { results := [.lit (.bool false)], args := [d], vars := [g1] }
  | _ => none }
def FnRatOkWrongFalsely : Prop := fnRatOkRow.holds Tryd.pinned (OpenSpec.ofChange fnRatOkWrong)

/-- 'laws.FnRatAdd': WHATEVER THE INPUT: true; the input reads as it did. -/
def fnRatAddSpec : ChangeSpec := { name := "fnRatAdd", vars := ["loop.example/fossick/impl.none"], fn := fun _ => fun
  | [d, g1] => { results := [.lit (.bool true)], args := [d], vars := [g1] }
  | _ => none }
def fnRatAddRow : OpenClaim := { program := "ytobdkkbackalhaadoor", sum := "644e05080c21234538f5ddb63a35b3b343bf238af9fbcbebe5d081a4f005113f", func := "loop.example/fossick/laws.FnRatAdd", spec := "fnRatAdd", recurses := true, named := ["loop.example/fossick/impl.none"], apart := false, laid := [("loop.example/fossick/impl.none", laid_loop_example_fossick_impl_none)] }
def FnRatAddSaid : Prop := fnRatAddRow.holds Tryd.pinned (OpenSpec.ofChange fnRatAddSpec)

/-- ITS FALSE NEIGHBOUR: 'it returns false'. Refute it at one input. -/
def fnRatAddWrong : ChangeSpec := { name := "fnRatAdd", vars := ["loop.example/fossick/impl.none"], fn := fun _ => fun
  | [d, g1] => { results := [.lit (.bool false)], args := [d], vars := [g1] }
  | _ => none }
def FnRatAddWrongFalsely : Prop := fnRatAddRow.holds Tryd.pinned (OpenSpec.ofChange fnRatAddWrong)

/-- 'laws.FnRatMul': WHATEVER THE INPUT: true; the input reads as it did. -/
def fnRatMulSpec : ChangeSpec := { name := "fnRatMul", vars := ["loop.example/fossick/impl.none"], fn := fun _ => fun
  | [d, g1] => { results := [.lit (.bool true)], args := [d], vars := [g1] }
  | _ => none }
def fnRatMulRow : OpenClaim := { program := "ytobdkkbackalhaadoor", sum := "644e05080c21234538f5ddb63a35b3b343bf238af9fbcbebe5d081a4f005113f", func := "loop.example/fossick/laws.FnRatMul", spec := "fnRatMul", recurses := true, named := ["loop.example/fossick/impl.none"], apart := false, laid := [("loop.example/fossick/impl.none", laid_loop_example_fossick_impl_none)] }
def FnRatMulSaid : Prop := fnRatMulRow.holds Tryd.pinned (OpenSpec.ofChange fnRatMulSpec)

/-- ITS FALSE NEIGHBOUR: 'it returns false'. Refute it at one input. -/
def fnRatMulWrong : ChangeSpec := { name := "fnRatMul", vars := ["loop.example/fossick/impl.none"], fn := fun _ => fun
  | [d, g1] => { results := [.lit (.bool false)], args := [d], vars := [g1] }
  | _ => none }
def FnRatMulWrongFalsely : Prop := fnRatMulRow.holds Tryd.pinned (OpenSpec.ofChange fnRatMulWrong)

/-- 'laws.FnTermRare': WHATEVER THE INPUT: true; the input reads as it did. -/
def fnTermRareSpec : ChangeSpec := { name := "fnTermRare", vars := ["loop.example/fossick/impl.none"], fn := fun _ => fun
  | [d, g1] => { results := [.lit (.bool true)], args := [d], vars := [g1] }
  | _ => none }
def fnTermRareRow : OpenClaim := { program := "ytobdkkbackalhaadoor", sum := "644e05080c21234538f5ddb63a35b3b343bf238af9fbcbebe5d081a4f005113f", func := "loop.example/fossick/laws.FnTermRare", spec := "fnTermRare", recurses := true, named := ["loop.example/fossick/impl.none"], apart := false, laid := [("loop.example/fossick/impl.none", laid_loop_example_fossick_impl_none)] }
def FnTermRareSaid : Prop := fnTermRareRow.holds Tryd.pinned (OpenSpec.ofChange fnTermRareSpec)

/-- ITS FALSE NEIGHBOUR: 'it returns false'. Refute it at one input. -/
def fnTermRareWrong : ChangeSpec := { name := "fnTermRare", vars := ["loop.example/fossick/impl.none"], fn := fun _ => fun
  | [d, g1] => { results := [.lit (.bool false)], args := [d], vars := [g1] }
  | _ => none }
def FnTermRareWrongFalsely : Prop := fnTermRareRow.holds Tryd.pinned (OpenSpec.ofChange fnTermRareWrong)

/-- 'laws.FnTermScore': WHATEVER THE INPUT: true; the input reads as it did. -/
def fnTermScoreSpec : ChangeSpec := { name := "fnTermScore", vars := ["loop.example/fossick/impl.none"], fn := fun _ => fun
  | [d, g1] => { results := [.lit (.bool true)], args := [d], vars := [g1] }
  | _ => none }
def fnTermScoreRow : OpenClaim := { program := "ytobdkkbackalhaadoor", sum := "644e05080c21234538f5ddb63a35b3b343bf238af9fbcbebe5d081a4f005113f", func := "loop.example/fossick/laws.FnTermScore", spec := "fnTermScore", recurses := true, named := ["loop.example/fossick/impl.none"], apart := false, laid := [("loop.example/fossick/impl.none", laid_loop_example_fossick_impl_none)] }
def FnTermScoreSaid : Prop := fnTermScoreRow.holds Tryd.pinned (OpenSpec.ofChange fnTermScoreSpec)

/-- ITS FALSE NEIGHBOUR: 'it returns false'. Refute it at one input. -/
def fnTermScoreWrong : ChangeSpec := { name := "fnTermScore", vars := ["loop.example/fossick/impl.none"], fn := fun _ => fun
  | [d, g1] => { results := [.lit (.bool false)], args := [d], vars := [g1] }
  | _ => none }
def FnTermScoreWrongFalsely : Prop := fnTermScoreRow.holds Tryd.pinned (OpenSpec.ofChange fnTermScoreWrong)

/- THE SECOND FORM. 'bulk': how many values and letters a reading holds, each counted each time it is reached (what is shared counts as often as it is met; a slice's spare places count too). A statement '..UptoSaid' is the law's where the arguments, and the package variables that the reading takes, are together of bulk at most 1048576: NARROWER than '..Said'. Prove '..Said' where nothing that the law and all that it calls make is longer than what came in: it says more and counts as full. Else prove '..UptoSaid'. A law counts once. -/
mutual
def uptoBulk {H : Type} : DataW H → Nat
  | .lit (.string bytes) => bytes.length + 1
  | .lit _ => 1
  | .nil => 1
  | .ptr d => uptoBulk d + 1
  | .slice elems spare => uptoBulkAll elems + uptoBulkAll spare + 1
  | .agg parts => uptoBulkAll parts + 1
  | .iface _ d => uptoBulk d + 1
  | .map entries => uptoBulkEntries entries + 1
  | .held _ => 1
def uptoBulkAll {H : Type} : List (DataW H) → Nat
  | [] => 0
  | d :: r => uptoBulk d + uptoBulkAll r
def uptoBulkEntries {H : Type} : List (Lit × DataW H) → Nat
  | [] => 0
  | x :: r => uptoBulkEntry x + uptoBulkEntries r
def uptoBulkEntry {H : Type} : Lit × DataW H → Nat
  | (.string bytes, d) => bytes.length + uptoBulk d + 1
  | (_, d) => uptoBulk d + 1
 end
def uptoSmall : (H : Type) → List (DataW H) → Bool := fun _ ds => decide (uptoBulkAll ds ≤ 1048576)
def OpenSpec.upto (s : _root_.Go.ChangeSpec) : _root_.Go.OpenSpec := { _root_.Go.OpenSpec.ofChange s with cond := some uptoSmall }

/-- 'laws.FnExactRatOf', WHERE WHAT IT READS IS OF BULK AT MOST 1048576: true; the input reads as it did. -/
def fnExactRatOfUptoRow : OpenClaim := { program := "ytobdkkbackalhaadoor", sum := "644e05080c21234538f5ddb63a35b3b343bf238af9fbcbebe5d081a4f005113f", func := "loop.example/fossick/laws.FnExactRatOf", spec := "fnExactRatOf", recurses := true, named := ["loop.example/fossick/impl.none"], apart := false, laid := [("loop.example/fossick/impl.none", laid_loop_example_fossick_impl_none)], narrowed := true }
def FnExactRatOfUptoSaid : Prop := fnExactRatOfUptoRow.holds Tryd.pinned (OpenSpec.upto fnExactRatOfSpec)

/-- 'laws.FnExactRatAdd', WHERE WHAT IT READS IS OF BULK AT MOST 1048576: true; the input reads as it did. -/
def fnExactRatAddUptoRow : OpenClaim := { program := "ytobdkkbackalhaadoor", sum := "644e05080c21234538f5ddb63a35b3b343bf238af9fbcbebe5d081a4f005113f", func := "loop.example/fossick/laws.FnExactRatAdd", spec := "fnExactRatAdd", recurses := true, named := ["loop.example/fossick/impl.none"], apart := false, laid := [("loop.example/fossick/impl.none", laid_loop_example_fossick_impl_none)], narrowed := true }
def FnExactRatAddUptoSaid : Prop := fnExactRatAddUptoRow.holds Tryd.pinned (OpenSpec.upto fnExactRatAddSpec)

/-- 'laws.FnExactRatMul', WHERE WHAT IT READS IS OF BULK AT MOST 1048576: true; the input reads as it did. -/
def fnExactRatMulUptoRow : OpenClaim := { program := "ytobdkkbackalhaadoor", sum := "644e05080c21234538f5ddb63a35b3b343bf238af9fbcbebe5d081a4f005113f", func := "loop.example/fossick/laws.FnExactRatMul", spec := "fnExactRatMul", recurses := true, named := ["loop.example/fossick/impl.none"], apart := false, laid := [("loop.example/fossick/impl.none", laid_loop_example_fossick_impl_none)], narrowed := true }
def FnExactRatMulUptoSaid : Prop := fnExactRatMulUptoRow.holds Tryd.pinned (OpenSpec.upto fnExactRatMulSpec)

/-- 'laws.FnExactTermScore', WHERE WHAT IT READS IS OF BULK AT MOST 1048576: true; the input reads as it did. -/
def fnExactTermScoreUptoRow : OpenClaim := { program := "ytobdkkbackalhaadoor", sum := "644e05080c21234538f5ddb63a35b3b343bf238af9fbcbebe5d081a4f005113f", func := "loop.example/fossick/laws.FnExactTermScore", spec := "fnExactTermScore", recurses := true, named := ["loop.example/fossick/impl.none"], apart := false, laid := [("loop.example/fossick/impl.none", laid_loop_example_fossick_impl_none)], narrowed := true }
def FnExactTermScoreUptoSaid : Prop := fnExactTermScoreUptoRow.holds Tryd.pinned (OpenSpec.upto fnExactTermScoreSpec)

/-- 'laws.FnRatOf', WHERE WHAT IT READS IS OF BULK AT MOST 1048576: true; the input reads as it did. -/
def fnRatOfUptoRow : OpenClaim := { program := "ytobdkkbackalhaadoor", sum := "644e05080c21234538f5ddb63a35b3b343bf238af9fbcbebe5d081a4f005113f", func := "loop.example/fossick/laws.FnRatOf", spec := "fnRatOf", recurses := true, named := ["loop.example/fossick/impl.none"], apart := false, laid := [("loop.example/fossick/impl.none", laid_loop_example_fossick_impl_none)], narrowed := true }
def FnRatOfUptoSaid : Prop := fnRatOfUptoRow.holds Tryd.pinned (OpenSpec.upto fnRatOfSpec)

/-- 'laws.FnRatOk', WHERE WHAT IT READS IS OF BULK AT MOST 1048576: true; the input reads as it did. -/
def fnRatOkUptoRow : OpenClaim := { program := "ytobdkkbackalhaadoor", sum := "644e05080c21234538f5ddb63a35b3b343bf238af9fbcbebe5d081a4f005113f", func := "loop.example/fossick/laws.FnRatOk", spec := "fnRatOk", recurses := true, named := ["loop.example/fossick/impl.none"], apart := false, laid := [("loop.example/fossick/impl.none", laid_loop_example_fossick_impl_none)], narrowed := true }
def FnRatOkUptoSaid : Prop := fnRatOkUptoRow.holds Tryd.pinned (OpenSpec.upto fnRatOkSpec)

/-- 'laws.FnRatAdd', WHERE WHAT IT READS IS OF BULK AT MOST 1048576: true; the input reads as it did. -/
def fnRatAddUptoRow : OpenClaim := { program := "ytobdkkbackalhaadoor", sum := "644e05080c21234538f5ddb63a35b3b343bf238af9fbcbebe5d081a4f005113f", func := "loop.example/fossick/laws.FnRatAdd", spec := "fnRatAdd", recurses := true, named := ["loop.example/fossick/impl.none"], apart := false, laid := [("loop.example/fossick/impl.none", laid_loop_example_fossick_impl_none)], narrowed := true }
def FnRatAddUptoSaid : Prop := fnRatAddUptoRow.holds Tryd.pinned (OpenSpec.upto fnRatAddSpec)

/-- 'laws.FnRatMul', WHERE WHAT IT READS IS OF BULK AT MOST 1048576: true; the input reads as it did. -/
def fnRatMulUptoRow : OpenClaim := { program := "ytobdkkbackalhaadoor", sum := "644e05080c21234538f5ddb63a35b3b343bf238af9fbcbebe5d081a4f005113f", func := "loop.example/fossick/laws.FnRatMul", spec := "fnRatMul", recurses := true, named := ["loop.example/fossick/impl.none"], apart := false, laid := [("loop.example/fossick/impl.none", laid_loop_example_fossick_impl_none)], narrowed := true }
def FnRatMulUptoSaid : Prop := fnRatMulUptoRow.holds Tryd.pinned (OpenSpec.upto fnRatMulSpec)

/-- 'laws.FnTermRare', WHERE WHAT IT READS IS OF BULK AT MOST 1048576: true; the input reads as it did. -/
def fnTermRareUptoRow : OpenClaim := { program := "ytobdkkbackalhaadoor", sum := "644e05080c21234538f5ddb63a35b3b343bf238af9fbcbebe5d081a4f005113f", func := "loop.example/fossick/laws.FnTermRare", spec := "fnTermRare", recurses := true, named := ["loop.example/fossick/impl.none"], apart := false, laid := [("loop.example/fossick/impl.none", laid_loop_example_fossick_impl_none)], narrowed := true }
def FnTermRareUptoSaid : Prop := fnTermRareUptoRow.holds Tryd.pinned (OpenSpec.upto fnTermRareSpec)

/-- 'laws.FnTermScore', WHERE WHAT IT READS IS OF BULK AT MOST 1048576: true; the input reads as it did. -/
def fnTermScoreUptoRow : OpenClaim := { program := "ytobdkkbackalhaadoor", sum := "644e05080c21234538f5ddb63a35b3b343bf238af9fbcbebe5d081a4f005113f", func := "loop.example/fossick/laws.FnTermScore", spec := "fnTermScore", recurses := true, named := ["loop.example/fossick/impl.none"], apart := false, laid := [("loop.example/fossick/impl.none", laid_loop_example_fossick_impl_none)], narrowed := true }
def FnTermScoreUptoSaid : Prop := fnTermScoreUptoRow.holds Tryd.pinned (OpenSpec.upto fnTermScoreSpec)

end Rows
end Go.Proofs.YtobdkkbackalhaaDoor
