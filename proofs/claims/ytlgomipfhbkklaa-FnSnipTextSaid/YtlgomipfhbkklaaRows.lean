/-
  No cell of these rows narrows 'for every input' (looked for: loops, veiled, ifaces, maps, wideKeys, modest, calm, conditions, laid).
  DERIVED. THE GIVEN ROWS OF THIS SEAT. 5 by the template 'for every input the law returns true; each argument reads behind the call as it read before'; 0 by the template 'total and deterministic' (their statements: YtlgomipfhbkklaaTotals.lean).
  GIVEN WITH THE SEED: the statements are not yours to turn. If you find one false, say at which input.
  Laid BY PROGRAM, IN A SANDBOX (cutbox-rows.mjs): the forced cells as the released guide's own fill.sh prints them over the translation bbafc167dcd3e040… (all of the seat's roots in one cut). By AI agents, Wed Nov 11 2026. No macro, syntax, notation, axiom, sorry.
-/
import Derived.Test.YtlgomipfhbkklaaChecked
import GoSem.Claim
import GoSem.ClaimJoined
import GoSem.ClaimMapViews
import Derived.JoinedTies
import Derived.KernelRfl
namespace Go.Proofs.Ytlgomipfhbkklaa
/- THE CELL 'sum', in the pinned program and in every row, IS THE sha256 OF THE DUMP (.gsa) THAT YtlgomipfhbkklaaProg.lean LOADS. Nothing in Lean hashes anything: it is a label: what it is worth is what the hold of that sum in a sandbox is worth. -/
noncomputable def Try.pinned : Pinned := { name := "ytlgomipfhbkklaa", sum := "bbafc167dcd3e040cad7d8dee1c9f74236d233c97ccd063cd42b11dcc624ef87", checked := Try.checked }
namespace Rows
def none {H : Type} : Left H := { results := [], args := [] }

/-- 'laws.FnSnipOf': WHATEVER THE INPUT: true; the input reads as it did. -/
def fnSnipOfSpec : ChangeSpec := { name := "fnSnipOf", fn := fun _ => fun
  | [d] => { results := [.lit (.bool true)], args := [d] }
  | _ => none }
def fnSnipOfRow : OpenClaim := { program := "ytlgomipfhbkklaa", sum := "bbafc167dcd3e040cad7d8dee1c9f74236d233c97ccd063cd42b11dcc624ef87", func := "loop.example/fossick/laws.FnSnipOf", spec := "fnSnipOf", apart := false }
def FnSnipOfSaid : Prop := fnSnipOfRow.holds Try.pinned (OpenSpec.ofChange fnSnipOfSpec)

/-- ITS FALSE NEIGHBOUR: 'it returns false'. Refute it at one input. -/
def fnSnipOfWrong : ChangeSpec := { name := "fnSnipOf", fn := fun _ => fun
  | [d] => { results := [.lit (.bool false)], args := [d] }
  | _ => none }
def FnSnipOfWrongFalsely : Prop := fnSnipOfRow.holds Try.pinned (OpenSpec.ofChange fnSnipOfWrong)

/-- 'laws.FnExactSnipOf': WHATEVER THE INPUT: true; the input reads as it did. -/
def fnExactSnipOfSpec : ChangeSpec := { name := "fnExactSnipOf", fn := fun _ => fun
  | [d1, d2, d3, d4] => { results := [.lit (.bool true)], args := [d1, d2, d3, d4] }
  | _ => none }
def fnExactSnipOfRow : OpenClaim := { program := "ytlgomipfhbkklaa", sum := "bbafc167dcd3e040cad7d8dee1c9f74236d233c97ccd063cd42b11dcc624ef87", func := "loop.example/fossick/laws.FnExactSnipOf", spec := "fnExactSnipOf", apart := false }
def FnExactSnipOfSaid : Prop := fnExactSnipOfRow.holds Try.pinned (OpenSpec.ofChange fnExactSnipOfSpec)

/-- ITS FALSE NEIGHBOUR: 'it returns false'. Refute it at one input. -/
def fnExactSnipOfWrong : ChangeSpec := { name := "fnExactSnipOf", fn := fun _ => fun
  | [d1, d2, d3, d4] => { results := [.lit (.bool false)], args := [d1, d2, d3, d4] }
  | _ => none }
def FnExactSnipOfWrongFalsely : Prop := fnExactSnipOfRow.holds Try.pinned (OpenSpec.ofChange fnExactSnipOfWrong)

/-- 'laws.FnSnipText': WHATEVER THE INPUT: true; the input reads as it did. -/
def fnSnipTextSpec : ChangeSpec := { name := "fnSnipText", fn := fun _ => fun
  | [d] => { results := [.lit (.bool true)], args := [d] }
  | _ => none }
def fnSnipTextRow : OpenClaim := { program := "ytlgomipfhbkklaa", sum := "bbafc167dcd3e040cad7d8dee1c9f74236d233c97ccd063cd42b11dcc624ef87", func := "loop.example/fossick/laws.FnSnipText", spec := "fnSnipText", inPlace := ["internal/abi.NoEscape", "internal/bytealg.MakeNoZero"], apart := false }
def FnSnipTextSaid : Prop := fnSnipTextRow.holds Try.pinned (OpenSpec.ofChange fnSnipTextSpec)

/-- ITS FALSE NEIGHBOUR: 'it returns false'. Refute it at one input. -/
def fnSnipTextWrong : ChangeSpec := { name := "fnSnipText", fn := fun _ => fun
  | [d] => { results := [.lit (.bool false)], args := [d] }
  | _ => none }
def FnSnipTextWrongFalsely : Prop := fnSnipTextRow.holds Try.pinned (OpenSpec.ofChange fnSnipTextWrong)

/-- 'laws.FnExactSnipText': WHATEVER THE INPUT: true; the input reads as it did. -/
def fnExactSnipTextSpec : ChangeSpec := { name := "fnExactSnipText", fn := fun _ => fun
  | [d1, d2, d3, d4] => { results := [.lit (.bool true)], args := [d1, d2, d3, d4] }
  | _ => none }
def fnExactSnipTextRow : OpenClaim := { program := "ytlgomipfhbkklaa", sum := "bbafc167dcd3e040cad7d8dee1c9f74236d233c97ccd063cd42b11dcc624ef87", func := "loop.example/fossick/laws.FnExactSnipText", spec := "fnExactSnipText", inPlace := ["internal/abi.NoEscape", "internal/bytealg.MakeNoZero"], apart := false }
def FnExactSnipTextSaid : Prop := fnExactSnipTextRow.holds Try.pinned (OpenSpec.ofChange fnExactSnipTextSpec)

/-- ITS FALSE NEIGHBOUR: 'it returns false'. Refute it at one input. -/
def fnExactSnipTextWrong : ChangeSpec := { name := "fnExactSnipText", fn := fun _ => fun
  | [d1, d2, d3, d4] => { results := [.lit (.bool false)], args := [d1, d2, d3, d4] }
  | _ => none }
def FnExactSnipTextWrongFalsely : Prop := fnExactSnipTextRow.holds Try.pinned (OpenSpec.ofChange fnExactSnipTextWrong)

/-- 'laws.FnExactIndexNew': WHATEVER THE INPUT: true; the input reads as it did. -/
def fnExactIndexNewSpec : ChangeSpec := { name := "fnExactIndexNew", fn := fun _ => fun
  | [d] => { results := [.lit (.bool true)], args := [d] }
  | _ => none }
def fnExactIndexNewRow : OpenClaim := { program := "ytlgomipfhbkklaa", sum := "bbafc167dcd3e040cad7d8dee1c9f74236d233c97ccd063cd42b11dcc624ef87", func := "loop.example/fossick/laws.FnExactIndexNew", spec := "fnExactIndexNew", apart := false }
def FnExactIndexNewSaid : Prop := fnExactIndexNewRow.holds Try.pinned (OpenSpec.ofChange fnExactIndexNewSpec)

/-- ITS FALSE NEIGHBOUR: 'it returns false'. Refute it at one input. -/
def fnExactIndexNewWrong : ChangeSpec := { name := "fnExactIndexNew", fn := fun _ => fun
  | [d] => { results := [.lit (.bool false)], args := [d] }
  | _ => none }
def FnExactIndexNewWrongFalsely : Prop := fnExactIndexNewRow.holds Try.pinned (OpenSpec.ofChange fnExactIndexNewWrong)

/- THE SECOND FORM. 'bulk': how many values and letters a reading holds, each counted each time it is reached (what is shared counts as often as it is met; a slice's spare places count too). A statement '..UptoSaid' is the law's where the arguments, and the package variables that the reading takes, are together of bulk at most 1048576: NARROWER than '..Said'. Prove '..Said' where nothing that the law and all that it calls make is longer than what came in: it says more and counts as full. Else prove '..UptoSaid'. A law counts once. -/
mutual
def uptoBulk {H : Type} : DataW H → Nat
  | .lit (.string bytes) => bytes.length + 1
  | .lit _ => 1
  | .nil => 1
  | .ptr d => uptoBulk d + 1
  | .slice elems spare => uptoBulkAll elems + uptoBulkAll spare + 1
  | .agg parts => uptoBulkAll parts + 1
  | .iface _ d => uptoBulk d + 1
  | .map entries => uptoBulkEntries entries + 1
  | .held _ => 1
def uptoBulkAll {H : Type} : List (DataW H) → Nat
  | [] => 0
  | d :: r => uptoBulk d + uptoBulkAll r
def uptoBulkEntries {H : Type} : List (Lit × DataW H) → Nat
  | [] => 0
  | x :: r => uptoBulkEntry x + uptoBulkEntries r
def uptoBulkEntry {H : Type} : Lit × DataW H → Nat
  | (.string bytes, d) => bytes.length + uptoBulk d + 1
  | (_, d) => uptoBulk d + 1
 end
def uptoSmall : (H : Type) → List (DataW H) → Bool := fun _ ds => decide (uptoBulkAll ds ≤ 1048576)
def OpenSpec.upto (s : _root_.Go.ChangeSpec) : _root_.Go.OpenSpec := { _root_.Go.OpenSpec.ofChange s with cond := some uptoSmall }

/-- 'laws.FnSnipOf', WHERE WHAT IT READS IS OF BULK AT MOST 1048576: true; the input reads as it did. -/
def fnSnipOfUptoRow : OpenClaim := { program := "ytlgomipfhbkklaa", sum := "bbafc167dcd3e040cad7d8dee1c9f74236d233c97ccd063cd42b11dcc624ef87", func := "loop.example/fossick/laws.FnSnipOf", spec := "fnSnipOf", apart := false, narrowed := true }
def FnSnipOfUptoSaid : Prop := fnSnipOfUptoRow.holds Try.pinned (OpenSpec.upto fnSnipOfSpec)

/-- 'laws.FnExactSnipOf', WHERE WHAT IT READS IS OF BULK AT MOST 1048576: true; the input reads as it did. -/
def fnExactSnipOfUptoRow : OpenClaim := { program := "ytlgomipfhbkklaa", sum := "bbafc167dcd3e040cad7d8dee1c9f74236d233c97ccd063cd42b11dcc624ef87", func := "loop.example/fossick/laws.FnExactSnipOf", spec := "fnExactSnipOf", apart := false, narrowed := true }
def FnExactSnipOfUptoSaid : Prop := fnExactSnipOfUptoRow.holds Try.pinned (OpenSpec.upto fnExactSnipOfSpec)

/-- 'laws.FnSnipText', WHERE WHAT IT READS IS OF BULK AT MOST 1048576: true; the input reads as it did. -/
def fnSnipTextUptoRow : OpenClaim := { program := "ytlgomipfhbkklaa", sum := "bbafc167dcd3e040cad7d8dee1c9f74236d233c97ccd063cd42b11dcc624ef87", func := "loop.example/fossick/laws.FnSnipText", spec := "fnSnipText", inPlace := ["internal/abi.NoEscape", "internal/bytealg.MakeNoZero"], apart := false, narrowed := true }
def FnSnipTextUptoSaid : Prop := fnSnipTextUptoRow.holds Try.pinned (OpenSpec.upto fnSnipTextSpec)

/-- 'laws.FnExactSnipText', WHERE WHAT IT READS IS OF BULK AT MOST 1048576: true; the input reads as it did. -/
def fnExactSnipTextUptoRow : OpenClaim := { program := "ytlgomipfhbkklaa", sum := "bbafc167dcd3e040cad7d8dee1c9f74236d233c97ccd063cd42b11dcc624ef87", func := "loop.example/fossick/laws.FnExactSnipText", spec := "fnExactSnipText", inPlace := ["internal/abi.NoEscape", "internal/bytealg.MakeNoZero"], apart := false, narrowed := true }
def FnExactSnipTextUptoSaid : Prop := fnExactSnipTextUptoRow.holds Try.pinned (OpenSpec.upto fnExactSnipTextSpec)

/-- 'laws.FnExactIndexNew', WHERE WHAT IT READS IS OF BULK AT MOST 1048576: true; the input reads as it did. -/
def fnExactIndexNewUptoRow : OpenClaim := { program := "ytlgomipfhbkklaa", sum := "bbafc167dcd3e040cad7d8dee1c9f74236d233c97ccd063cd42b11dcc624ef87", func := "loop.example/fossick/laws.FnExactIndexNew", spec := "fnExactIndexNew", apart := false, narrowed := true }
def FnExactIndexNewUptoSaid : Prop := fnExactIndexNewUptoRow.holds Try.pinned (OpenSpec.upto fnExactIndexNewSpec)

end Rows
end Go.Proofs.Ytlgomipfhbkklaa
