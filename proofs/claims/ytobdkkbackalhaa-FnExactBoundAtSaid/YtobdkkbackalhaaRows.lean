/-
  No cell of these rows narrows 'for every input' (looked for: loops, veiled, ifaces, maps, wideKeys, modest, calm, conditions, laid).
  DERIVED. THE GIVEN ROWS OF THIS SEAT. 9 by the template 'for every input the law returns true; each argument reads behind the call as it read before'; 0 by the template 'total and deterministic' (their statements: YtobdkkbackalhaaTotals.lean).
  GIVEN WITH THE SEED: the statements are not yours to turn. If you find one false, say at which input.
  Laid BY PROGRAM, IN A SANDBOX (cutbox-rows.mjs): the forced cells as the released guide's own fill.sh prints them over the translation f45a3ba5f30ea075… (all of the seat's roots in one cut). By AI agents, Wed Nov 11 2026. No macro, syntax, notation, axiom, sorry.
-/
import Derived.Test.YtobdkkbackalhaaChecked
import GoSem.Claim
import GoSem.ClaimJoined
import GoSem.ClaimMapViews
import Derived.JoinedTies
import Derived.KernelRfl
namespace Go.Proofs.Ytobdkkbackalhaa
/- THE CELL 'sum', in the pinned program and in every row, IS THE sha256 OF THE DUMP (.gsa) THAT YtobdkkbackalhaaProg.lean LOADS. Nothing in Lean hashes anything: it is a label: what it is worth is what the hold of that sum in a sandbox is worth. -/
noncomputable def Try.pinned : Pinned := { name := "ytobdkkbackalhaa", sum := "f45a3ba5f30ea075c686b94f62dba3af893655e3e37ca31465bc00a47a4944b7", checked := Try.checked }
namespace Rows
def none {H : Type} : Left H := { results := [], args := [] }

/-- 'laws.FnExactBoxOk': WHATEVER THE INPUT: true; the input reads as it did. -/
def fnExactBoxOkSpec : ChangeSpec := { name := "fnExactBoxOk", fn := fun _ => fun
  | [d] => { results := [.lit (.bool true)], args := [d] }
  | _ => none }
def fnExactBoxOkRow : OpenClaim := { program := "ytobdkkbackalhaa", sum := "f45a3ba5f30ea075c686b94f62dba3af893655e3e37ca31465bc00a47a4944b7", func := "loop.example/fossick/laws.FnExactBoxOk", spec := "fnExactBoxOk", apart := false }
def FnExactBoxOkSaid : Prop := fnExactBoxOkRow.holds Try.pinned (OpenSpec.ofChange fnExactBoxOkSpec)

/-- ITS FALSE NEIGHBOUR: 'it returns false'. Refute it at one input. -/
def fnExactBoxOkWrong : ChangeSpec := { name := "fnExactBoxOk", fn := fun _ => fun
  | [d] => { results := [.lit (.bool false)], args := [d] }
  | _ => none }
def FnExactBoxOkWrongFalsely : Prop := fnExactBoxOkRow.holds Try.pinned (OpenSpec.ofChange fnExactBoxOkWrong)

/-- 'laws.FnExactCrc': WHATEVER THE INPUT: true; the input reads as it did. -/
def fnExactCrcSpec : ChangeSpec := { name := "fnExactCrc", fn := fun _ => fun
  | [d] => { results := [.lit (.bool true)], args := [d] }
  | _ => none }
def fnExactCrcRow : OpenClaim := { program := "ytobdkkbackalhaa", sum := "f45a3ba5f30ea075c686b94f62dba3af893655e3e37ca31465bc00a47a4944b7", func := "loop.example/fossick/laws.FnExactCrc", spec := "fnExactCrc", apart := false }
def FnExactCrcSaid : Prop := fnExactCrcRow.holds Try.pinned (OpenSpec.ofChange fnExactCrcSpec)

/-- ITS FALSE NEIGHBOUR: 'it returns false'. Refute it at one input. -/
def fnExactCrcWrong : ChangeSpec := { name := "fnExactCrc", fn := fun _ => fun
  | [d] => { results := [.lit (.bool false)], args := [d] }
  | _ => none }
def FnExactCrcWrongFalsely : Prop := fnExactCrcRow.holds Try.pinned (OpenSpec.ofChange fnExactCrcWrong)

/-- 'laws.FnExactRatOk': WHATEVER THE INPUT: true; the input reads as it did. -/
def fnExactRatOkSpec : ChangeSpec := { name := "fnExactRatOk", fn := fun _ => fun
  | [d] => { results := [.lit (.bool true)], args := [d] }
  | _ => none }
def fnExactRatOkRow : OpenClaim := { program := "ytobdkkbackalhaa", sum := "f45a3ba5f30ea075c686b94f62dba3af893655e3e37ca31465bc00a47a4944b7", func := "loop.example/fossick/laws.FnExactRatOk", spec := "fnExactRatOk", recurses := true, apart := false }
def FnExactRatOkSaid : Prop := fnExactRatOkRow.holds Try.pinned (OpenSpec.ofChange fnExactRatOkSpec)

/-- ITS FALSE NEIGHBOUR: 'it returns false'. Refute it at one input. -/
def fnExactRatOkWrong : ChangeSpec := { name := "fnExactRatOk", fn := fun _ => fun
  | [d] => { results := [.lit (.bool false)], args := [d] }
  | _ => none }
def FnExactRatOkWrongFalsely : Prop := fnExactRatOkRow.holds Try.pinned (OpenSpec.ofChange fnExactRatOkWrong)

/-- 'laws.FnExactRatFloor': WHATEVER THE INPUT: true; the input reads as it did. -/
def fnExactRatFloorSpec : ChangeSpec := { name := "fnExactRatFloor", fn := fun _ => fun
  | [d1, d2] => { results := [.lit (.bool true)], args := [d1, d2] }
  | _ => none }
def fnExactRatFloorRow : OpenClaim := { program := "ytobdkkbackalhaa", sum := "f45a3ba5f30ea075c686b94f62dba3af893655e3e37ca31465bc00a47a4944b7", func := "loop.example/fossick/laws.FnExactRatFloor", spec := "fnExactRatFloor", recurses := true, apart := false }
def FnExactRatFloorSaid : Prop := fnExactRatFloorRow.holds Try.pinned (OpenSpec.ofChange fnExactRatFloorSpec)

/-- ITS FALSE NEIGHBOUR: 'it returns false'. Refute it at one input. -/
def fnExactRatFloorWrong : ChangeSpec := { name := "fnExactRatFloor", fn := fun _ => fun
  | [d1, d2] => { results := [.lit (.bool false)], args := [d1, d2] }
  | _ => none }
def FnExactRatFloorWrongFalsely : Prop := fnExactRatFloorRow.holds Try.pinned (OpenSpec.ofChange fnExactRatFloorWrong)

/-- 'laws.FnBoundAt': WHATEVER THE INPUT: true; the input reads as it did. -/
def fnBoundAtSpec : ChangeSpec := { name := "fnBoundAt", fn := fun _ => fun
  | [d] => { results := [.lit (.bool true)], args := [d] }
  | _ => none }
def fnBoundAtRow : OpenClaim := { program := "ytobdkkbackalhaa", sum := "f45a3ba5f30ea075c686b94f62dba3af893655e3e37ca31465bc00a47a4944b7", func := "loop.example/fossick/laws.FnBoundAt", spec := "fnBoundAt", apart := false }
def FnBoundAtSaid : Prop := fnBoundAtRow.holds Try.pinned (OpenSpec.ofChange fnBoundAtSpec)

/-- ITS FALSE NEIGHBOUR: 'it returns false'. Refute it at one input. -/
def fnBoundAtWrong : ChangeSpec := { name := "fnBoundAt", fn := fun _ => fun
  | [d] => { results := [.lit (.bool false)], args := [d] }
  | _ => none }
def FnBoundAtWrongFalsely : Prop := fnBoundAtRow.holds Try.pinned (OpenSpec.ofChange fnBoundAtWrong)

/-- 'laws.FnExactRatCmp': WHATEVER THE INPUT: true; the input reads as it did. -/
def fnExactRatCmpSpec : ChangeSpec := { name := "fnExactRatCmp", fn := fun _ => fun
  | [d1, d2] => { results := [.lit (.bool true)], args := [d1, d2] }
  | _ => none }
def fnExactRatCmpRow : OpenClaim := { program := "ytobdkkbackalhaa", sum := "f45a3ba5f30ea075c686b94f62dba3af893655e3e37ca31465bc00a47a4944b7", func := "loop.example/fossick/laws.FnExactRatCmp", spec := "fnExactRatCmp", recurses := true, apart := false }
def FnExactRatCmpSaid : Prop := fnExactRatCmpRow.holds Try.pinned (OpenSpec.ofChange fnExactRatCmpSpec)

/-- ITS FALSE NEIGHBOUR: 'it returns false'. Refute it at one input. -/
def fnExactRatCmpWrong : ChangeSpec := { name := "fnExactRatCmp", fn := fun _ => fun
  | [d1, d2] => { results := [.lit (.bool false)], args := [d1, d2] }
  | _ => none }
def FnExactRatCmpWrongFalsely : Prop := fnExactRatCmpRow.holds Try.pinned (OpenSpec.ofChange fnExactRatCmpWrong)

/-- 'laws.FnExactBoundAt': WHATEVER THE INPUT: true; the input reads as it did. -/
def fnExactBoundAtSpec : ChangeSpec := { name := "fnExactBoundAt", fn := fun _ => fun
  | [d1, d2] => { results := [.lit (.bool true)], args := [d1, d2] }
  | _ => none }
def fnExactBoundAtRow : OpenClaim := { program := "ytobdkkbackalhaa", sum := "f45a3ba5f30ea075c686b94f62dba3af893655e3e37ca31465bc00a47a4944b7", func := "loop.example/fossick/laws.FnExactBoundAt", spec := "fnExactBoundAt", apart := false }
def FnExactBoundAtSaid : Prop := fnExactBoundAtRow.holds Try.pinned (OpenSpec.ofChange fnExactBoundAtSpec)

/-- ITS FALSE NEIGHBOUR: 'it returns false'. Refute it at one input. -/
def fnExactBoundAtWrong : ChangeSpec := { name := "fnExactBoundAt", fn := fun _ => fun
  | [d1, d2] => { results := [.lit (.bool false)], args := [d1, d2] }
  | _ => none }
def FnExactBoundAtWrongFalsely : Prop := fnExactBoundAtRow.holds Try.pinned (OpenSpec.ofChange fnExactBoundAtWrong)

/-- 'laws.FnRatFloor': WHATEVER THE INPUT: true; the input reads as it did. -/
def fnRatFloorSpec : ChangeSpec := { name := "fnRatFloor", fn := fun _ => fun
  | [d] => { results := [.lit (.bool true)], args := [d] }
  | _ => none }
def fnRatFloorRow : OpenClaim := { program := "ytobdkkbackalhaa", sum := "f45a3ba5f30ea075c686b94f62dba3af893655e3e37ca31465bc00a47a4944b7", func := "loop.example/fossick/laws.FnRatFloor", spec := "fnRatFloor", recurses := true, apart := false }
def FnRatFloorSaid : Prop := fnRatFloorRow.holds Try.pinned (OpenSpec.ofChange fnRatFloorSpec)

/-- ITS FALSE NEIGHBOUR: 'it returns false'. Refute it at one input. -/
def fnRatFloorWrong : ChangeSpec := { name := "fnRatFloor", fn := fun _ => fun
  | [d] => { results := [.lit (.bool false)], args := [d] }
  | _ => none }
def FnRatFloorWrongFalsely : Prop := fnRatFloorRow.holds Try.pinned (OpenSpec.ofChange fnRatFloorWrong)

/-- 'laws.FnRatCmp': WHATEVER THE INPUT: true; the input reads as it did. -/
def fnRatCmpSpec : ChangeSpec := { name := "fnRatCmp", fn := fun _ => fun
  | [d] => { results := [.lit (.bool true)], args := [d] }
  | _ => none }
def fnRatCmpRow : OpenClaim := { program := "ytobdkkbackalhaa", sum := "f45a3ba5f30ea075c686b94f62dba3af893655e3e37ca31465bc00a47a4944b7", func := "loop.example/fossick/laws.FnRatCmp", spec := "fnRatCmp", recurses := true, apart := false }
def FnRatCmpSaid : Prop := fnRatCmpRow.holds Try.pinned (OpenSpec.ofChange fnRatCmpSpec)

/-- ITS FALSE NEIGHBOUR: 'it returns false'. Refute it at one input. -/
def fnRatCmpWrong : ChangeSpec := { name := "fnRatCmp", fn := fun _ => fun
  | [d] => { results := [.lit (.bool false)], args := [d] }
  | _ => none }
def FnRatCmpWrongFalsely : Prop := fnRatCmpRow.holds Try.pinned (OpenSpec.ofChange fnRatCmpWrong)

/- THE SECOND FORM. 'bulk': how many values and letters a reading holds, each counted each time it is reached (what is shared counts as often as it is met; a slice's spare places count too). A statement '..UptoSaid' is the law's where the arguments, and the package variables that the reading takes, are together of bulk at most 1048576: NARROWER than '..Said'. Prove '..Said' where nothing that the law and all that it calls make is longer than what came in: it says more and counts as full. Else prove '..UptoSaid'. A law counts once. -/
mutual
def uptoBulk {H : Type} : DataW H → Nat
  | .lit (.string bytes) => bytes.length + 1
  | .lit _ => 1
  | .nil => 1
  | .ptr d => uptoBulk d + 1
  | .slice elems spare => uptoBulkAll elems + uptoBulkAll spare + 1
  | .agg parts => uptoBulkAll parts + 1
  | .iface _ d => uptoBulk d + 1
  | .map entries => uptoBulkEntries entries + 1
  | .held _ => 1
def uptoBulkAll {H : Type} : List (DataW H) → Nat
  | [] => 0
  | d :: r => uptoBulk d + uptoBulkAll r
def uptoBulkEntries {H : Type} : List (Lit × DataW H) → Nat
  | [] => 0
  | x :: r => uptoBulkEntry x + uptoBulkEntries r
def uptoBulkEntry {H : Type} : Lit × DataW H → Nat
  | (.string bytes, d) => bytes.length + uptoBulk d + 1
  | (_, d) => uptoBulk d + 1
 end
def uptoSmall : (H : Type) → List (DataW H) → Bool := fun _ ds => decide (uptoBulkAll ds ≤ 1048576)
def OpenSpec.upto (s : _root_.Go.ChangeSpec) : _root_.Go.OpenSpec := { _root_.Go.OpenSpec.ofChange s with cond := some uptoSmall }

/-- 'laws.FnExactBoxOk', WHERE WHAT IT READS IS OF BULK AT MOST 1048576: true; the input reads as it did. -/
def fnExactBoxOkUptoRow : OpenClaim := { program := "ytobdkkbackalhaa", sum := "f45a3ba5f30ea075c686b94f62dba3af893655e3e37ca31465bc00a47a4944b7", func := "loop.example/fossick/laws.FnExactBoxOk", spec := "fnExactBoxOk", apart := false, narrowed := true }
def FnExactBoxOkUptoSaid : Prop := fnExactBoxOkUptoRow.holds Try.pinned (OpenSpec.upto fnExactBoxOkSpec)

/-- 'laws.FnExactCrc', WHERE WHAT IT READS IS OF BULK AT MOST 1048576: true; the input reads as it did. -/
def fnExactCrcUptoRow : OpenClaim := { program := "ytobdkkbackalhaa", sum := "f45a3ba5f30ea075c686b94f62dba3af893655e3e37ca31465bc00a47a4944b7", func := "loop.example/fossick/laws.FnExactCrc", spec := "fnExactCrc", apart := false, narrowed := true }
def FnExactCrcUptoSaid : Prop := fnExactCrcUptoRow.holds Try.pinned (OpenSpec.upto fnExactCrcSpec)

/-- 'laws.FnExactRatOk', WHERE WHAT IT READS IS OF BULK AT MOST 1048576: true; the input reads as it did. -/
def fnExactRatOkUptoRow : OpenClaim := { program := "ytobdkkbackalhaa", sum := "f45a3ba5f30ea075c686b94f62dba3af893655e3e37ca31465bc00a47a4944b7", func := "loop.example/fossick/laws.FnExactRatOk", spec := "fnExactRatOk", recurses := true, apart := false, narrowed := true }
def FnExactRatOkUptoSaid : Prop := fnExactRatOkUptoRow.holds Try.pinned (OpenSpec.upto fnExactRatOkSpec)

/-- 'laws.FnExactRatFloor', WHERE WHAT IT READS IS OF BULK AT MOST 1048576: true; the input reads as it did. -/
def fnExactRatFloorUptoRow : OpenClaim := { program := "ytobdkkbackalhaa", sum := "f45a3ba5f30ea075c686b94f62dba3af893655e3e37ca31465bc00a47a4944b7", func := "loop.example/fossick/laws.FnExactRatFloor", spec := "fnExactRatFloor", recurses := true, apart := false, narrowed := true }
def FnExactRatFloorUptoSaid : Prop := fnExactRatFloorUptoRow.holds Try.pinned (OpenSpec.upto fnExactRatFloorSpec)

/-- 'laws.FnBoundAt', WHERE WHAT IT READS IS OF BULK AT MOST 1048576: true; the input reads as it did. -/
def fnBoundAtUptoRow : OpenClaim := { program := "ytobdkkbackalhaa", sum := "f45a3ba5f30ea075c686b94f62dba3af893655e3e37ca31465bc00a47a4944b7", func := "loop.example/fossick/laws.FnBoundAt", spec := "fnBoundAt", apart := false, narrowed := true }
def FnBoundAtUptoSaid : Prop := fnBoundAtUptoRow.holds Try.pinned (OpenSpec.upto fnBoundAtSpec)

/-- 'laws.FnExactRatCmp', WHERE WHAT IT READS IS OF BULK AT MOST 1048576: true; the input reads as it did. -/
def fnExactRatCmpUptoRow : OpenClaim := { program := "ytobdkkbackalhaa", sum := "f45a3ba5f30ea075c686b94f62dba3af893655e3e37ca31465bc00a47a4944b7", func := "loop.example/fossick/laws.FnExactRatCmp", spec := "fnExactRatCmp", recurses := true, apart := false, narrowed := true }
def FnExactRatCmpUptoSaid : Prop := fnExactRatCmpUptoRow.holds Try.pinned (OpenSpec.upto fnExactRatCmpSpec)

/-- 'laws.FnExactBoundAt', WHERE WHAT IT READS IS OF BULK AT MOST 1048576: true; the input reads as it did. -/
def fnExactBoundAtUptoRow : OpenClaim := { program := "ytobdkkbackalhaa", sum := "f45a3ba5f30ea075c686b94f62dba3af893655e3e37ca31465bc00a47a4944b7", func := "loop.example/fossick/laws.FnExactBoundAt", spec := "fnExactBoundAt", apart := false, narrowed := true }
def FnExactBoundAtUptoSaid : Prop := fnExactBoundAtUptoRow.holds Try.pinned (OpenSpec.upto fnExactBoundAtSpec)

/-- 'laws.FnRatFloor', WHERE WHAT IT READS IS OF BULK AT MOST 1048576: true; the input reads as it did. -/
def fnRatFloorUptoRow : OpenClaim := { program := "ytobdkkbackalhaa", sum := "f45a3ba5f30ea075c686b94f62dba3af893655e3e37ca31465bc00a47a4944b7", func := "loop.example/fossick/laws.FnRatFloor", spec := "fnRatFloor", recurses := true, apart := false, narrowed := true }
def FnRatFloorUptoSaid : Prop := fnRatFloorUptoRow.holds Try.pinned (OpenSpec.upto fnRatFloorSpec)

/-- 'laws.FnRatCmp', WHERE WHAT IT READS IS OF BULK AT MOST 1048576: true; the input reads as it did. -/
def fnRatCmpUptoRow : OpenClaim := { program := "ytobdkkbackalhaa", sum := "f45a3ba5f30ea075c686b94f62dba3af893655e3e37ca31465bc00a47a4944b7", func := "loop.example/fossick/laws.FnRatCmp", spec := "fnRatCmp", recurses := true, apart := false, narrowed := true }
def FnRatCmpUptoSaid : Prop := fnRatCmpUptoRow.holds Try.pinned (OpenSpec.upto fnRatCmpSpec)

end Rows
end Go.Proofs.Ytobdkkbackalhaa
