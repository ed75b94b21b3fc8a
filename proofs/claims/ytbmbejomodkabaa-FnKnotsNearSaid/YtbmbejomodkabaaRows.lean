/-
  No cell of these rows narrows 'for every input' (looked for: loops, veiled, ifaces, maps, wideKeys, modest, calm, conditions, laid).
  DERIVED. THE GIVEN ROWS OF THIS SEAT. 6 by the template 'for every input the law returns true; each argument reads behind the call as it read before'; 0 by the template 'total and deterministic' (their statements: YtbmbejomodkabaaTotals.lean).
  GIVEN WITH THE SEED: the statements are not yours to turn. If you find one false, say at which input.
  Laid BY PROGRAM, IN A SANDBOX (cutbox-rows.mjs): the forced cells as the released guide's own fill.sh prints them over the translation 8495542bc393cf16… (all of the seat's roots in one cut). By AI agents, Wed Nov 11 2026. No macro, syntax, notation, axiom, sorry.
-/
import Derived.Test.YtbmbejomodkabaaChecked
import GoSem.Claim
import GoSem.ClaimJoined
import GoSem.ClaimMapViews
import Derived.JoinedTies
import Derived.KernelRfl
namespace Go.Proofs.Ytbmbejomodkabaa
/- THE CELL 'sum', in the pinned program and in every row, IS THE sha256 OF THE DUMP (.gsa) THAT YtbmbejomodkabaaProg.lean LOADS. Nothing in Lean hashes anything: it is a label: what it is worth is what the hold of that sum in a sandbox is worth. -/
noncomputable def Try.pinned : Pinned := { name := "ytbmbejomodkabaa", sum := "8495542bc393cf161bb91d0f60525fc259b85237fadcbf1d3c2192fb2c227df6", checked := Try.checked }
namespace Rows
def none {H : Type} : Left H := { results := [], args := [] }

/-- 'laws.FnKnotsShape': WHATEVER THE INPUT: true; the input reads as it did. -/
def fnKnotsShapeSpec : ChangeSpec := { name := "fnKnotsShape", fn := fun _ => fun
  | [d] => { results := [.lit (.bool true)], args := [d] }
  | _ => none }
def fnKnotsShapeRow : OpenClaim := { program := "ytbmbejomodkabaa", sum := "8495542bc393cf161bb91d0f60525fc259b85237fadcbf1d3c2192fb2c227df6", func := "loop.example/fossick/laws.FnKnotsShape", spec := "fnKnotsShape", unfollowed := true, recurses := true, apart := false }
def FnKnotsShapeSaid : Prop := fnKnotsShapeRow.holds Try.pinned (OpenSpec.ofChange fnKnotsShapeSpec)

/-- ITS FALSE NEIGHBOUR: 'it returns false'. Refute it at one input. -/
def fnKnotsShapeWrong : ChangeSpec := { name := "fnKnotsShape", fn := fun _ => fun
  | [d] => { results := [.lit (.bool false)], args := [d] }
  | _ => none }
def FnKnotsShapeWrongFalsely : Prop := fnKnotsShapeRow.holds Try.pinned (OpenSpec.ofChange fnKnotsShapeWrong)

/-- 'laws.FnKnotsOf': WHATEVER THE INPUT: true; the input reads as it did. -/
def fnKnotsOfSpec : ChangeSpec := { name := "fnKnotsOf", fn := fun _ => fun
  | [d] => { results := [.lit (.bool true)], args := [d] }
  | _ => none }
def fnKnotsOfRow : OpenClaim := { program := "ytbmbejomodkabaa", sum := "8495542bc393cf161bb91d0f60525fc259b85237fadcbf1d3c2192fb2c227df6", func := "loop.example/fossick/laws.FnKnotsOf", spec := "fnKnotsOf", unfollowed := true, recurses := true, apart := false }
def FnKnotsOfSaid : Prop := fnKnotsOfRow.holds Try.pinned (OpenSpec.ofChange fnKnotsOfSpec)

/-- ITS FALSE NEIGHBOUR: 'it returns false'. Refute it at one input. -/
def fnKnotsOfWrong : ChangeSpec := { name := "fnKnotsOf", fn := fun _ => fun
  | [d] => { results := [.lit (.bool false)], args := [d] }
  | _ => none }
def FnKnotsOfWrongFalsely : Prop := fnKnotsOfRow.holds Try.pinned (OpenSpec.ofChange fnKnotsOfWrong)

/-- 'laws.FnExactKnotsOk': WHATEVER THE INPUT: true; the input reads as it did. -/
def fnExactKnotsOkSpec : ChangeSpec := { name := "fnExactKnotsOk", fn := fun _ => fun
  | [d] => { results := [.lit (.bool true)], args := [d] }
  | _ => none }
def fnExactKnotsOkRow : OpenClaim := { program := "ytbmbejomodkabaa", sum := "8495542bc393cf161bb91d0f60525fc259b85237fadcbf1d3c2192fb2c227df6", func := "loop.example/fossick/laws.FnExactKnotsOk", spec := "fnExactKnotsOk", unfollowed := true, recurses := true, apart := false }
def FnExactKnotsOkSaid : Prop := fnExactKnotsOkRow.holds Try.pinned (OpenSpec.ofChange fnExactKnotsOkSpec)

/-- ITS FALSE NEIGHBOUR: 'it returns false'. Refute it at one input. -/
def fnExactKnotsOkWrong : ChangeSpec := { name := "fnExactKnotsOk", fn := fun _ => fun
  | [d] => { results := [.lit (.bool false)], args := [d] }
  | _ => none }
def FnExactKnotsOkWrongFalsely : Prop := fnExactKnotsOkRow.holds Try.pinned (OpenSpec.ofChange fnExactKnotsOkWrong)

/-- 'laws.FnKnotsNear': WHATEVER THE INPUT: true; the input reads as it did. -/
def fnKnotsNearSpec : ChangeSpec := { name := "fnKnotsNear", fn := fun _ => fun
  | [d] => { results := [.lit (.bool true)], args := [d] }
  | _ => none }
def fnKnotsNearRow : OpenClaim := { program := "ytbmbejomodkabaa", sum := "8495542bc393cf161bb91d0f60525fc259b85237fadcbf1d3c2192fb2c227df6", func := "loop.example/fossick/laws.FnKnotsNear", spec := "fnKnotsNear", unfollowed := true, recurses := true, apart := false }
def FnKnotsNearSaid : Prop := fnKnotsNearRow.holds Try.pinned (OpenSpec.ofChange fnKnotsNearSpec)

/-- ITS FALSE NEIGHBOUR: 'it returns false'. Refute it at one input. -/
def fnKnotsNearWrong : ChangeSpec := { name := "fnKnotsNear", fn := fun _ => fun
  | [d] => { results := [.lit (.bool false)], args := [d] }
  | _ => none }
def FnKnotsNearWrongFalsely : Prop := fnKnotsNearRow.holds Try.pinned (OpenSpec.ofChange fnKnotsNearWrong)

/-- 'laws.FnExactKnotsNear': WHATEVER THE INPUT: true; the input reads as it did. -/
def fnExactKnotsNearSpec : ChangeSpec := { name := "fnExactKnotsNear", fn := fun _ => fun
  | [d1, d2, d3] => { results := [.lit (.bool true)], args := [d1, d2, d3] }
  | _ => none }
def fnExactKnotsNearRow : OpenClaim := { program := "ytbmbejomodkabaa", sum := "8495542bc393cf161bb91d0f60525fc259b85237fadcbf1d3c2192fb2c227df6", func := "loop.example/fossick/laws.FnExactKnotsNear", spec := "fnExactKnotsNear", unfollowed := true, recurses := true, apart := false }
def FnExactKnotsNearSaid : Prop := fnExactKnotsNearRow.holds Try.pinned (OpenSpec.ofChange fnExactKnotsNearSpec)

/-- ITS FALSE NEIGHBOUR: 'it returns false'. Refute it at one input. -/
def fnExactKnotsNearWrong : ChangeSpec := { name := "fnExactKnotsNear", fn := fun _ => fun
  | [d1, d2, d3] => { results := [.lit (.bool false)], args := [d1, d2, d3] }
  | _ => none }
def FnExactKnotsNearWrongFalsely : Prop := fnExactKnotsNearRow.holds Try.pinned (OpenSpec.ofChange fnExactKnotsNearWrong)

/-- 'laws.FnExactKnotsOf': WHATEVER THE INPUT: true; the input reads as it did. -/
def fnExactKnotsOfSpec : ChangeSpec := { name := "fnExactKnotsOf", fn := fun _ => fun
  | [d] => { results := [.lit (.bool true)], args := [d] }
  | _ => none }
def fnExactKnotsOfRow : OpenClaim := { program := "ytbmbejomodkabaa", sum := "8495542bc393cf161bb91d0f60525fc259b85237fadcbf1d3c2192fb2c227df6", func := "loop.example/fossick/laws.FnExactKnotsOf", spec := "fnExactKnotsOf", unfollowed := true, recurses := true, apart := false }
def FnExactKnotsOfSaid : Prop := fnExactKnotsOfRow.holds Try.pinned (OpenSpec.ofChange fnExactKnotsOfSpec)

/-- ITS FALSE NEIGHBOUR: 'it returns false'. Refute it at one input. -/
def fnExactKnotsOfWrong : ChangeSpec := { name := "fnExactKnotsOf", fn := fun _ => fun
  | [d] => { results := [.lit (.bool false)], args := [d] }
  | _ => none }
def FnExactKnotsOfWrongFalsely : Prop := fnExactKnotsOfRow.holds Try.pinned (OpenSpec.ofChange fnExactKnotsOfWrong)

/- THE SECOND FORM. 'bulk': how many values and letters a reading holds, each counted each time it is reached (what is shared counts as often as it is met; a slice's spare places count too). A statement '..UptoSaid' is the law's where the arguments, and the package variables that the reading takes, are together of bulk at most 1048576: NARROWER than '..Said'. Prove '..Said' where nothing that the law and all that it calls make is longer than what came in: it says more and counts as full. Else prove '..UptoSaid'. A law counts once. -/
mutual
def uptoBulk {H : Type} : DataW H → Nat
  | .lit (.string bytes) => bytes.length + 1
  | .lit _ => 1
  | .nil => 1
  | .ptr d => uptoBulk d + 1
  | .slice elems spare => uptoBulkAll elems + uptoBulkAll spare + 1
  | .agg parts => uptoBulkAll parts + 1
  | .iface _ d => uptoBulk d + 1
  | .map entries => uptoBulkEntries entries + 1
  | .held _ => 1
def uptoBulkAll {H : Type} : List (DataW H) → Nat
  | [] => 0
  | d :: r => uptoBulk d + uptoBulkAll r
def uptoBulkEntries {H : Type} : List (Lit × DataW H) → Nat
  | [] => 0
  | x :: r => uptoBulkEntry x + uptoBulkEntries r
def uptoBulkEntry {H : Type} : Lit × DataW H → Nat
  | (.string bytes, d) => bytes.length + uptoBulk d + 1
  | (_, d) => uptoBulk d + 1
 end
def uptoSmall : (H : Type) → List (DataW H) → Bool := fun _ ds => decide (uptoBulkAll ds ≤ 1048576)
def OpenSpec.upto (s : _root_.Go.ChangeSpec) : _root_.Go.OpenSpec := { _root_.Go.OpenSpec.ofChange s with cond := some uptoSmall }

/-- 'laws.FnKnotsShape', WHERE WHAT IT READS IS OF BULK AT MOST 1048576: true; the input reads as it did. -/
def fnKnotsShapeUptoRow : OpenClaim := { program := "ytbmbejomodkabaa", sum := "8495542bc393cf161bb91d0f60525fc259b85237fadcbf1d3c2192fb2c227df6", func := "loop.example/fossick/laws.FnKnotsShape", spec := "fnKnotsShape", unfollowed := true, recurses := true, apart := false, narrowed := true }
def FnKnotsShapeUptoSaid : Prop := fnKnotsShapeUptoRow.holds Try.pinned (OpenSpec.upto fnKnotsShapeSpec)

/-- 'laws.FnKnotsOf', WHERE WHAT IT READS IS OF BULK AT MOST 1048576: true; the input reads as it did. -/
def fnKnotsOfUptoRow : OpenClaim := { program := "ytbmbejomodkabaa", sum := "8495542bc393cf161bb91d0f60525fc259b85237fadcbf1d3c2192fb2c227df6", func := "loop.example/fossick/laws.FnKnotsOf", spec := "fnKnotsOf", unfollowed := true, recurses := true, apart := false, narrowed := true }
def FnKnotsOfUptoSaid : Prop := fnKnotsOfUptoRow.holds Try.pinned (OpenSpec.upto fnKnotsOfSpec)

/-- 'laws.FnExactKnotsOk', WHERE WHAT IT READS IS OF BULK AT MOST 1048576: true; the input reads as it did. -/
def fnExactKnotsOkUptoRow : OpenClaim := { program := "ytbmbejomodkabaa", sum := "8495542bc393cf161bb91d0f60525fc259b85237fadcbf1d3c2192fb2c227df6", func := "loop.example/fossick/laws.FnExactKnotsOk", spec := "fnExactKnotsOk", unfollowed := true, recurses := true, apart := false, narrowed := true }
def FnExactKnotsOkUptoSaid : Prop := fnExactKnotsOkUptoRow.holds Try.pinned (OpenSpec.upto fnExactKnotsOkSpec)

/-- 'laws.FnKnotsNear', WHERE WHAT IT READS IS OF BULK AT MOST 1048576: true; the input reads as it did. -/
def fnKnotsNearUptoRow : OpenClaim := { program := "ytbmbejomodkabaa", sum := "8495542bc393cf161bb91d0f60525fc259b85237fadcbf1d3c2192fb2c227df6", func := "loop.example/fossick/laws.FnKnotsNear", spec := "fnKnotsNear", unfollowed := true, recurses := true, apart := false, narrowed := true }
def FnKnotsNearUptoSaid : Prop := fnKnotsNearUptoRow.holds Try.pinned (OpenSpec.upto fnKnotsNearSpec)

/-- 'laws.FnExactKnotsNear', WHERE WHAT IT READS IS OF BULK AT MOST 1048576: true; the input reads as it did. -/
def fnExactKnotsNearUptoRow : OpenClaim := { program := "ytbmbejomodkabaa", sum := "8495542bc393cf161bb91d0f60525fc259b85237fadcbf1d3c2192fb2c227df6", func := "loop.example/fossick/laws.FnExactKnotsNear", spec := "fnExactKnotsNear", unfollowed := true, recurses := true, apart := false, narrowed := true }
def FnExactKnotsNearUptoSaid : Prop := fnExactKnotsNearUptoRow.holds Try.pinned (OpenSpec.upto fnExactKnotsNearSpec)

/-- 'laws.FnExactKnotsOf', WHERE WHAT IT READS IS OF BULK AT MOST 1048576: true; the input reads as it did. -/
def fnExactKnotsOfUptoRow : OpenClaim := { program := "ytbmbejomodkabaa", sum := "8495542bc393cf161bb91d0f60525fc259b85237fadcbf1d3c2192fb2c227df6", func := "loop.example/fossick/laws.FnExactKnotsOf", spec := "fnExactKnotsOf", unfollowed := true, recurses := true, apart := false, narrowed := true }
def FnExactKnotsOfUptoSaid : Prop := fnExactKnotsOfUptoRow.holds Try.pinned (OpenSpec.upto fnExactKnotsOfSpec)

end Rows
end Go.Proofs.Ytbmbejomodkabaa
