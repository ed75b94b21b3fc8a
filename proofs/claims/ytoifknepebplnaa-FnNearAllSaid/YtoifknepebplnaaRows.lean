/-
  No cell of these rows narrows 'for every input' (looked for: loops, veiled, ifaces, maps, wideKeys, modest, calm, conditions, laid).
  DERIVED. THE GIVEN ROWS OF THIS SEAT. 14 by the template 'for every input the law returns true; each argument reads behind the call as it read before'; 0 by the template 'total and deterministic' (their statements: YtoifknepebplnaaTotals.lean).
  GIVEN WITH THE SEED: the statements are not yours to turn. If you find one false, say at which input.
  Laid BY PROGRAM, IN A SANDBOX (cutbox-rows.mjs): the forced cells as the released guide's own fill.sh prints them over the translation af2502269c845578… (all of the seat's roots in one cut). By AI agents, Wed Nov 11 2026. No macro, syntax, notation, axiom, sorry.
-/
import Derived.Test.YtoifknepebplnaaChecked
import GoSem.Claim
import GoSem.ClaimJoined
import GoSem.ClaimMapViews
import Derived.JoinedTies
import Derived.KernelRfl
namespace Go.Proofs.Ytoifknepebplnaa
/- THE CELL 'sum', in the pinned program and in every row, IS THE sha256 OF THE DUMP (.gsa) THAT YtoifknepebplnaaProg.lean LOADS. Nothing in Lean hashes anything: it is a label: what it is worth is what the hold of that sum in a sandbox is worth. -/
noncomputable def Try.pinned : Pinned := { name := "ytoifknepebplnaa", sum := "af2502269c845578c02435dc47ab1f8911f84104b61343276eae07894c408fe2", checked := Try.checked }
namespace Rows
def none {H : Type} : Left H := { results := [], args := [] }

/-- 'laws.FnExactSetLess': WHATEVER THE INPUT: true; the input reads as it did. -/
def fnExactSetLessSpec : ChangeSpec := { name := "fnExactSetLess", fn := fun _ => fun
  | [d1, d2] => { results := [.lit (.bool true)], args := [d1, d2] }
  | _ => none }
def fnExactSetLessRow : OpenClaim := { program := "ytoifknepebplnaa", sum := "af2502269c845578c02435dc47ab1f8911f84104b61343276eae07894c408fe2", func := "loop.example/fossick/laws.FnExactSetLess", spec := "fnExactSetLess", apart := false }
def FnExactSetLessSaid : Prop := fnExactSetLessRow.holds Try.pinned (OpenSpec.ofChange fnExactSetLessSpec)

/-- ITS FALSE NEIGHBOUR: 'it returns false'. Refute it at one input. -/
def fnExactSetLessWrong : ChangeSpec := { name := "fnExactSetLess", fn := fun _ => fun
  | [d1, d2] => { results := [.lit (.bool false)], args := [d1, d2] }
  | _ => none }
def FnExactSetLessWrongFalsely : Prop := fnExactSetLessRow.holds Try.pinned (OpenSpec.ofChange fnExactSetLessWrong)

/-- 'laws.FnSetAnd': WHATEVER THE INPUT: true; the input reads as it did. -/
def fnSetAndSpec : ChangeSpec := { name := "fnSetAnd", fn := fun _ => fun
  | [d] => { results := [.lit (.bool true)], args := [d] }
  | _ => none }
def fnSetAndRow : OpenClaim := { program := "ytoifknepebplnaa", sum := "af2502269c845578c02435dc47ab1f8911f84104b61343276eae07894c408fe2", func := "loop.example/fossick/laws.FnSetAnd", spec := "fnSetAnd", apart := false }
def FnSetAndSaid : Prop := fnSetAndRow.holds Try.pinned (OpenSpec.ofChange fnSetAndSpec)

/-- ITS FALSE NEIGHBOUR: 'it returns false'. Refute it at one input. -/
def fnSetAndWrong : ChangeSpec := { name := "fnSetAnd", fn := fun _ => fun
  | [d] => { results := [.lit (.bool false)], args := [d] }
  | _ => none }
def FnSetAndWrongFalsely : Prop := fnSetAndRow.holds Try.pinned (OpenSpec.ofChange fnSetAndWrong)

/-- 'laws.FnExactPhraseOf': WHATEVER THE INPUT: true; the input reads as it did. -/
def fnExactPhraseOfSpec : ChangeSpec := { name := "fnExactPhraseOf", fn := fun _ => fun
  | [d1, d2] => { results := [.lit (.bool true)], args := [d1, d2] }
  | _ => none }
def fnExactPhraseOfRow : OpenClaim := { program := "ytoifknepebplnaa", sum := "af2502269c845578c02435dc47ab1f8911f84104b61343276eae07894c408fe2", func := "loop.example/fossick/laws.FnExactPhraseOf", spec := "fnExactPhraseOf", recurses := true, apart := false }
def FnExactPhraseOfSaid : Prop := fnExactPhraseOfRow.holds Try.pinned (OpenSpec.ofChange fnExactPhraseOfSpec)

/-- ITS FALSE NEIGHBOUR: 'it returns false'. Refute it at one input. -/
def fnExactPhraseOfWrong : ChangeSpec := { name := "fnExactPhraseOf", fn := fun _ => fun
  | [d1, d2] => { results := [.lit (.bool false)], args := [d1, d2] }
  | _ => none }
def FnExactPhraseOfWrongFalsely : Prop := fnExactPhraseOfRow.holds Try.pinned (OpenSpec.ofChange fnExactPhraseOfWrong)

/-- 'laws.FnPhraseOf': WHATEVER THE INPUT: true; the input reads as it did. -/
def fnPhraseOfSpec : ChangeSpec := { name := "fnPhraseOf", fn := fun _ => fun
  | [d] => { results := [.lit (.bool true)], args := [d] }
  | _ => none }
def fnPhraseOfRow : OpenClaim := { program := "ytoifknepebplnaa", sum := "af2502269c845578c02435dc47ab1f8911f84104b61343276eae07894c408fe2", func := "loop.example/fossick/laws.FnPhraseOf", spec := "fnPhraseOf", recurses := true, apart := false }
def FnPhraseOfSaid : Prop := fnPhraseOfRow.holds Try.pinned (OpenSpec.ofChange fnPhraseOfSpec)

/-- ITS FALSE NEIGHBOUR: 'it returns false'. Refute it at one input. -/
def fnPhraseOfWrong : ChangeSpec := { name := "fnPhraseOf", fn := fun _ => fun
  | [d] => { results := [.lit (.bool false)], args := [d] }
  | _ => none }
def FnPhraseOfWrongFalsely : Prop := fnPhraseOfRow.holds Try.pinned (OpenSpec.ofChange fnPhraseOfWrong)

/-- 'laws.FnExactSetOr': WHATEVER THE INPUT: true; the input reads as it did. -/
def fnExactSetOrSpec : ChangeSpec := { name := "fnExactSetOr", fn := fun _ => fun
  | [d1, d2] => { results := [.lit (.bool true)], args := [d1, d2] }
  | _ => none }
def fnExactSetOrRow : OpenClaim := { program := "ytoifknepebplnaa", sum := "af2502269c845578c02435dc47ab1f8911f84104b61343276eae07894c408fe2", func := "loop.example/fossick/laws.FnExactSetOr", spec := "fnExactSetOr", recurses := true, apart := false }
def FnExactSetOrSaid : Prop := fnExactSetOrRow.holds Try.pinned (OpenSpec.ofChange fnExactSetOrSpec)

/-- ITS FALSE NEIGHBOUR: 'it returns false'. Refute it at one input. -/
def fnExactSetOrWrong : ChangeSpec := { name := "fnExactSetOr", fn := fun _ => fun
  | [d1, d2] => { results := [.lit (.bool false)], args := [d1, d2] }
  | _ => none }
def FnExactSetOrWrongFalsely : Prop := fnExactSetOrRow.holds Try.pinned (OpenSpec.ofChange fnExactSetOrWrong)

/-- 'laws.FnSetOr': WHATEVER THE INPUT: true; the input reads as it did. -/
def fnSetOrSpec : ChangeSpec := { name := "fnSetOr", fn := fun _ => fun
  | [d] => { results := [.lit (.bool true)], args := [d] }
  | _ => none }
def fnSetOrRow : OpenClaim := { program := "ytoifknepebplnaa", sum := "af2502269c845578c02435dc47ab1f8911f84104b61343276eae07894c408fe2", func := "loop.example/fossick/laws.FnSetOr", spec := "fnSetOr", recurses := true, apart := false }
def FnSetOrSaid : Prop := fnSetOrRow.holds Try.pinned (OpenSpec.ofChange fnSetOrSpec)

/-- ITS FALSE NEIGHBOUR: 'it returns false'. Refute it at one input. -/
def fnSetOrWrong : ChangeSpec := { name := "fnSetOr", fn := fun _ => fun
  | [d] => { results := [.lit (.bool false)], args := [d] }
  | _ => none }
def FnSetOrWrongFalsely : Prop := fnSetOrRow.holds Try.pinned (OpenSpec.ofChange fnSetOrWrong)

/-- 'laws.FnSetLess': WHATEVER THE INPUT: true; the input reads as it did. -/
def fnSetLessSpec : ChangeSpec := { name := "fnSetLess", fn := fun _ => fun
  | [d] => { results := [.lit (.bool true)], args := [d] }
  | _ => none }
def fnSetLessRow : OpenClaim := { program := "ytoifknepebplnaa", sum := "af2502269c845578c02435dc47ab1f8911f84104b61343276eae07894c408fe2", func := "loop.example/fossick/laws.FnSetLess", spec := "fnSetLess", recurses := true, apart := false }
def FnSetLessSaid : Prop := fnSetLessRow.holds Try.pinned (OpenSpec.ofChange fnSetLessSpec)

/-- ITS FALSE NEIGHBOUR: 'it returns false'. Refute it at one input. -/
def fnSetLessWrong : ChangeSpec := { name := "fnSetLess", fn := fun _ => fun
  | [d] => { results := [.lit (.bool false)], args := [d] }
  | _ => none }
def FnSetLessWrongFalsely : Prop := fnSetLessRow.holds Try.pinned (OpenSpec.ofChange fnSetLessWrong)

/-- 'laws.FnExactSetSome': WHATEVER THE INPUT: true; the input reads as it did. -/
def fnExactSetSomeSpec : ChangeSpec := { name := "fnExactSetSome", fn := fun _ => fun
  | [d1, d2] => { results := [.lit (.bool true)], args := [d1, d2] }
  | _ => none }
def fnExactSetSomeRow : OpenClaim := { program := "ytoifknepebplnaa", sum := "af2502269c845578c02435dc47ab1f8911f84104b61343276eae07894c408fe2", func := "loop.example/fossick/laws.FnExactSetSome", spec := "fnExactSetSome", recurses := true, apart := false }
def FnExactSetSomeSaid : Prop := fnExactSetSomeRow.holds Try.pinned (OpenSpec.ofChange fnExactSetSomeSpec)

/-- ITS FALSE NEIGHBOUR: 'it returns false'. Refute it at one input. -/
def fnExactSetSomeWrong : ChangeSpec := { name := "fnExactSetSome", fn := fun _ => fun
  | [d1, d2] => { results := [.lit (.bool false)], args := [d1, d2] }
  | _ => none }
def FnExactSetSomeWrongFalsely : Prop := fnExactSetSomeRow.holds Try.pinned (OpenSpec.ofChange fnExactSetSomeWrong)

/-- 'laws.FnPhraseNear': WHATEVER THE INPUT: true; the input reads as it did. -/
def fnPhraseNearSpec : ChangeSpec := { name := "fnPhraseNear", fn := fun _ => fun
  | [d] => { results := [.lit (.bool true)], args := [d] }
  | _ => none }
def fnPhraseNearRow : OpenClaim := { program := "ytoifknepebplnaa", sum := "af2502269c845578c02435dc47ab1f8911f84104b61343276eae07894c408fe2", func := "loop.example/fossick/laws.FnPhraseNear", spec := "fnPhraseNear", recurses := true, apart := false }
def FnPhraseNearSaid : Prop := fnPhraseNearRow.holds Try.pinned (OpenSpec.ofChange fnPhraseNearSpec)

/-- ITS FALSE NEIGHBOUR: 'it returns false'. Refute it at one input. -/
def fnPhraseNearWrong : ChangeSpec := { name := "fnPhraseNear", fn := fun _ => fun
  | [d] => { results := [.lit (.bool false)], args := [d] }
  | _ => none }
def FnPhraseNearWrongFalsely : Prop := fnPhraseNearRow.holds Try.pinned (OpenSpec.ofChange fnPhraseNearWrong)

/-- 'laws.FnNearAll': WHATEVER THE INPUT: true; the input reads as it did. -/
def fnNearAllSpec : ChangeSpec := { name := "fnNearAll", fn := fun _ => fun
  | [d] => { results := [.lit (.bool true)], args := [d] }
  | _ => none }
def fnNearAllRow : OpenClaim := { program := "ytoifknepebplnaa", sum := "af2502269c845578c02435dc47ab1f8911f84104b61343276eae07894c408fe2", func := "loop.example/fossick/laws.FnNearAll", spec := "fnNearAll", recurses := true, apart := false }
def FnNearAllSaid : Prop := fnNearAllRow.holds Try.pinned (OpenSpec.ofChange fnNearAllSpec)

/-- ITS FALSE NEIGHBOUR: 'it returns false'. Refute it at one input. -/
def fnNearAllWrong : ChangeSpec := { name := "fnNearAll", fn := fun _ => fun
  | [d] => { results := [.lit (.bool false)], args := [d] }
  | _ => none }
def FnNearAllWrongFalsely : Prop := fnNearAllRow.holds Try.pinned (OpenSpec.ofChange fnNearAllWrong)

/-- 'laws.FnNearWidth': WHATEVER THE INPUT: true; the input reads as it did. -/
def fnNearWidthSpec : ChangeSpec := { name := "fnNearWidth", fn := fun _ => fun
  | [d] => { results := [.lit (.bool true)], args := [d] }
  | _ => none }
def fnNearWidthRow : OpenClaim := { program := "ytoifknepebplnaa", sum := "af2502269c845578c02435dc47ab1f8911f84104b61343276eae07894c408fe2", func := "loop.example/fossick/laws.FnNearWidth", spec := "fnNearWidth", recurses := true, apart := false }
def FnNearWidthSaid : Prop := fnNearWidthRow.holds Try.pinned (OpenSpec.ofChange fnNearWidthSpec)

/-- ITS FALSE NEIGHBOUR: 'it returns false'. Refute it at one input. -/
def fnNearWidthWrong : ChangeSpec := { name := "fnNearWidth", fn := fun _ => fun
  | [d] => { results := [.lit (.bool false)], args := [d] }
  | _ => none }
def FnNearWidthWrongFalsely : Prop := fnNearWidthRow.holds Try.pinned (OpenSpec.ofChange fnNearWidthWrong)

/-- 'laws.FnExactNearWidth': WHATEVER THE INPUT: true; the input reads as it did. -/
def fnExactNearWidthSpec : ChangeSpec := { name := "fnExactNearWidth", fn := fun _ => fun
  | [d] => { results := [.lit (.bool true)], args := [d] }
  | _ => none }
def fnExactNearWidthRow : OpenClaim := { program := "ytoifknepebplnaa", sum := "af2502269c845578c02435dc47ab1f8911f84104b61343276eae07894c408fe2", func := "loop.example/fossick/laws.FnExactNearWidth", spec := "fnExactNearWidth", recurses := true, apart := false }
def FnExactNearWidthSaid : Prop := fnExactNearWidthRow.holds Try.pinned (OpenSpec.ofChange fnExactNearWidthSpec)

/-- ITS FALSE NEIGHBOUR: 'it returns false'. Refute it at one input. -/
def fnExactNearWidthWrong : ChangeSpec := { name := "fnExactNearWidth", fn := fun _ => fun
  | [d] => { results := [.lit (.bool false)], args := [d] }
  | _ => none }
def FnExactNearWidthWrongFalsely : Prop := fnExactNearWidthRow.holds Try.pinned (OpenSpec.ofChange fnExactNearWidthWrong)

/-- 'laws.FnSetSome': WHATEVER THE INPUT: true; the input reads as it did. -/
def fnSetSomeSpec : ChangeSpec := { name := "fnSetSome", fn := fun _ => fun
  | [d] => { results := [.lit (.bool true)], args := [d] }
  | _ => none }
def fnSetSomeRow : OpenClaim := { program := "ytoifknepebplnaa", sum := "af2502269c845578c02435dc47ab1f8911f84104b61343276eae07894c408fe2", func := "loop.example/fossick/laws.FnSetSome", spec := "fnSetSome", recurses := true, apart := false }
def FnSetSomeSaid : Prop := fnSetSomeRow.holds Try.pinned (OpenSpec.ofChange fnSetSomeSpec)

/-- ITS FALSE NEIGHBOUR: 'it returns false'. Refute it at one input. -/
def fnSetSomeWrong : ChangeSpec := { name := "fnSetSome", fn := fun _ => fun
  | [d] => { results := [.lit (.bool false)], args := [d] }
  | _ => none }
def FnSetSomeWrongFalsely : Prop := fnSetSomeRow.holds Try.pinned (OpenSpec.ofChange fnSetSomeWrong)

/-- 'laws.FnExactNearAll': WHATEVER THE INPUT: true; the input reads as it did. -/
def fnExactNearAllSpec : ChangeSpec := { name := "fnExactNearAll", fn := fun _ => fun
  | [d] => { results := [.lit (.bool true)], args := [d] }
  | _ => none }
def fnExactNearAllRow : OpenClaim := { program := "ytoifknepebplnaa", sum := "af2502269c845578c02435dc47ab1f8911f84104b61343276eae07894c408fe2", func := "loop.example/fossick/laws.FnExactNearAll", spec := "fnExactNearAll", recurses := true, apart := false }
def FnExactNearAllSaid : Prop := fnExactNearAllRow.holds Try.pinned (OpenSpec.ofChange fnExactNearAllSpec)

/-- ITS FALSE NEIGHBOUR: 'it returns false'. Refute it at one input. -/
def fnExactNearAllWrong : ChangeSpec := { name := "fnExactNearAll", fn := fun _ => fun
  | [d] => { results := [.lit (.bool false)], args := [d] }
  | _ => none }
def FnExactNearAllWrongFalsely : Prop := fnExactNearAllRow.holds Try.pinned (OpenSpec.ofChange fnExactNearAllWrong)

/- THE SECOND FORM. 'bulk': how many values and letters a reading holds, each counted each time it is reached (what is shared counts as often as it is met; a slice's spare places count too). A statement '..UptoSaid' is the law's where the arguments, and the package variables that the reading takes, are together of bulk at most 1048576: NARROWER than '..Said'. Prove '..Said' where nothing that the law and all that it calls make is longer than what came in: it says more and counts as full. Else prove '..UptoSaid'. A law counts once. -/
mutual
def uptoBulk {H : Type} : DataW H → Nat
  | .lit (.string bytes) => bytes.length + 1
  | .lit _ => 1
  | .nil => 1
  | .ptr d => uptoBulk d + 1
  | .slice elems spare => uptoBulkAll elems + uptoBulkAll spare + 1
  | .agg parts => uptoBulkAll parts + 1
  | .iface _ d => uptoBulk d + 1
  | .map entries => uptoBulkEntries entries + 1
  | .held _ => 1
def uptoBulkAll {H : Type} : List (DataW H) → Nat
  | [] => 0
  | d :: r => uptoBulk d + uptoBulkAll r
def uptoBulkEntries {H : Type} : List (Lit × DataW H) → Nat
  | [] => 0
  | x :: r => uptoBulkEntry x + uptoBulkEntries r
def uptoBulkEntry {H : Type} : Lit × DataW H → Nat
  | (.string bytes, d) => bytes.length + uptoBulk d + 1
  | (_, d) => uptoBulk d + 1
 end
def uptoSmall : (H : Type) → List (DataW H) → Bool := fun _ ds => decide (uptoBulkAll ds ≤ 1048576)
def OpenSpec.upto (s : _root_.Go.ChangeSpec) : _root_.Go.OpenSpec := { _root_.Go.OpenSpec.ofChange s with cond := some uptoSmall }

/-- 'laws.FnExactSetLess', WHERE WHAT IT READS IS OF BULK AT MOST 1048576: true; the input reads as it did. -/
def fnExactSetLessUptoRow : OpenClaim := { program := "ytoifknepebplnaa", sum := "af2502269c845578c02435dc47ab1f8911f84104b61343276eae07894c408fe2", func := "loop.example/fossick/laws.FnExactSetLess", spec := "fnExactSetLess", apart := false, narrowed := true }
def FnExactSetLessUptoSaid : Prop := fnExactSetLessUptoRow.holds Try.pinned (OpenSpec.upto fnExactSetLessSpec)

/-- 'laws.FnSetAnd', WHERE WHAT IT READS IS OF BULK AT MOST 1048576: true; the input reads as it did. -/
def fnSetAndUptoRow : OpenClaim := { program := "ytoifknepebplnaa", sum := "af2502269c845578c02435dc47ab1f8911f84104b61343276eae07894c408fe2", func := "loop.example/fossick/laws.FnSetAnd", spec := "fnSetAnd", apart := false, narrowed := true }
def FnSetAndUptoSaid : Prop := fnSetAndUptoRow.holds Try.pinned (OpenSpec.upto fnSetAndSpec)

/-- 'laws.FnExactPhraseOf', WHERE WHAT IT READS IS OF BULK AT MOST 1048576: true; the input reads as it did. -/
def fnExactPhraseOfUptoRow : OpenClaim := { program := "ytoifknepebplnaa", sum := "af2502269c845578c02435dc47ab1f8911f84104b61343276eae07894c408fe2", func := "loop.example/fossick/laws.FnExactPhraseOf", spec := "fnExactPhraseOf", recurses := true, apart := false, narrowed := true }
def FnExactPhraseOfUptoSaid : Prop := fnExactPhraseOfUptoRow.holds Try.pinned (OpenSpec.upto fnExactPhraseOfSpec)

/-- 'laws.FnPhraseOf', WHERE WHAT IT READS IS OF BULK AT MOST 1048576: true; the input reads as it did. -/
def fnPhraseOfUptoRow : OpenClaim := { program := "ytoifknepebplnaa", sum := "af2502269c845578c02435dc47ab1f8911f84104b61343276eae07894c408fe2", func := "loop.example/fossick/laws.FnPhraseOf", spec := "fnPhraseOf", recurses := true, apart := false, narrowed := true }
def FnPhraseOfUptoSaid : Prop := fnPhraseOfUptoRow.holds Try.pinned (OpenSpec.upto fnPhraseOfSpec)

/-- 'laws.FnExactSetOr', WHERE WHAT IT READS IS OF BULK AT MOST 1048576: true; the input reads as it did. -/
def fnExactSetOrUptoRow : OpenClaim := { program := "ytoifknepebplnaa", sum := "af2502269c845578c02435dc47ab1f8911f84104b61343276eae07894c408fe2", func := "loop.example/fossick/laws.FnExactSetOr", spec := "fnExactSetOr", recurses := true, apart := false, narrowed := true }
def FnExactSetOrUptoSaid : Prop := fnExactSetOrUptoRow.holds Try.pinned (OpenSpec.upto fnExactSetOrSpec)

/-- 'laws.FnSetOr', WHERE WHAT IT READS IS OF BULK AT MOST 1048576: true; the input reads as it did. -/
def fnSetOrUptoRow : OpenClaim := { program := "ytoifknepebplnaa", sum := "af2502269c845578c02435dc47ab1f8911f84104b61343276eae07894c408fe2", func := "loop.example/fossick/laws.FnSetOr", spec := "fnSetOr", recurses := true, apart := false, narrowed := true }
def FnSetOrUptoSaid : Prop := fnSetOrUptoRow.holds Try.pinned (OpenSpec.upto fnSetOrSpec)

/-- 'laws.FnSetLess', WHERE WHAT IT READS IS OF BULK AT MOST 1048576: true; the input reads as it did. -/
def fnSetLessUptoRow : OpenClaim := { program := "ytoifknepebplnaa", sum := "af2502269c845578c02435dc47ab1f8911f84104b61343276eae07894c408fe2", func := "loop.example/fossick/laws.FnSetLess", spec := "fnSetLess", recurses := true, apart := false, narrowed := true }
def FnSetLessUptoSaid : Prop := fnSetLessUptoRow.holds Try.pinned (OpenSpec.upto fnSetLessSpec)

/-- 'laws.FnExactSetSome', WHERE WHAT IT READS IS OF BULK AT MOST 1048576: true; the input reads as it did. -/
def fnExactSetSomeUptoRow : OpenClaim := { program := "ytoifknepebplnaa", sum := "af2502269c845578c02435dc47ab1f8911f84104b61343276eae07894c408fe2", func := "loop.example/fossick/laws.FnExactSetSome", spec := "fnExactSetSome", recurses := true, apart := false, narrowed := true }
def FnExactSetSomeUptoSaid : Prop := fnExactSetSomeUptoRow.holds Try.pinned (OpenSpec.upto fnExactSetSomeSpec)

/-- 'laws.FnPhraseNear', WHERE WHAT IT READS IS OF BULK AT MOST 1048576: true; the input reads as it did. -/
def fnPhraseNearUptoRow : OpenClaim := { program := "ytoifknepebplnaa", sum := "af2502269c845578c02435dc47ab1f8911f84104b61343276eae07894c408fe2", func := "loop.example/fossick/laws.FnPhraseNear", spec := "fnPhraseNear", recurses := true, apart := false, narrowed := true }
def FnPhraseNearUptoSaid : Prop := fnPhraseNearUptoRow.holds Try.pinned (OpenSpec.upto fnPhraseNearSpec)

/-- 'laws.FnNearAll', WHERE WHAT IT READS IS OF BULK AT MOST 1048576: true; the input reads as it did. -/
def fnNearAllUptoRow : OpenClaim := { program := "ytoifknepebplnaa", sum := "af2502269c845578c02435dc47ab1f8911f84104b61343276eae07894c408fe2", func := "loop.example/fossick/laws.FnNearAll", spec := "fnNearAll", recurses := true, apart := false, narrowed := true }
def FnNearAllUptoSaid : Prop := fnNearAllUptoRow.holds Try.pinned (OpenSpec.upto fnNearAllSpec)

/-- 'laws.FnNearWidth', WHERE WHAT IT READS IS OF BULK AT MOST 1048576: true; the input reads as it did. -/
def fnNearWidthUptoRow : OpenClaim := { program := "ytoifknepebplnaa", sum := "af2502269c845578c02435dc47ab1f8911f84104b61343276eae07894c408fe2", func := "loop.example/fossick/laws.FnNearWidth", spec := "fnNearWidth", recurses := true, apart := false, narrowed := true }
def FnNearWidthUptoSaid : Prop := fnNearWidthUptoRow.holds Try.pinned (OpenSpec.upto fnNearWidthSpec)

/-- 'laws.FnExactNearWidth', WHERE WHAT IT READS IS OF BULK AT MOST 1048576: true; the input reads as it did. -/
def fnExactNearWidthUptoRow : OpenClaim := { program := "ytoifknepebplnaa", sum := "af2502269c845578c02435dc47ab1f8911f84104b61343276eae07894c408fe2", func := "loop.example/fossick/laws.FnExactNearWidth", spec := "fnExactNearWidth", recurses := true, apart := false, narrowed := true }
def FnExactNearWidthUptoSaid : Prop := fnExactNearWidthUptoRow.holds Try.pinned (OpenSpec.upto fnExactNearWidthSpec)

/-- 'laws.FnSetSome', WHERE WHAT IT READS IS OF BULK AT MOST 1048576: true; the input reads as it did. -/
def fnSetSomeUptoRow : OpenClaim := { program := "ytoifknepebplnaa", sum := "af2502269c845578c02435dc47ab1f8911f84104b61343276eae07894c408fe2", func := "loop.example/fossick/laws.FnSetSome", spec := "fnSetSome", recurses := true, apart := false, narrowed := true }
def FnSetSomeUptoSaid : Prop := fnSetSomeUptoRow.holds Try.pinned (OpenSpec.upto fnSetSomeSpec)

/-- 'laws.FnExactNearAll', WHERE WHAT IT READS IS OF BULK AT MOST 1048576: true; the input reads as it did. -/
def fnExactNearAllUptoRow : OpenClaim := { program := "ytoifknepebplnaa", sum := "af2502269c845578c02435dc47ab1f8911f84104b61343276eae07894c408fe2", func := "loop.example/fossick/laws.FnExactNearAll", spec := "fnExactNearAll", recurses := true, apart := false, narrowed := true }
def FnExactNearAllUptoSaid : Prop := fnExactNearAllUptoRow.holds Try.pinned (OpenSpec.upto fnExactNearAllSpec)

end Rows
end Go.Proofs.Ytoifknepebplnaa
