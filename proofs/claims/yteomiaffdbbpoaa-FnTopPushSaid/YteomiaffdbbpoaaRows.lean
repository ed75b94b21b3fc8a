/-
  No cell of these rows narrows 'for every input' (looked for: loops, veiled, ifaces, maps, wideKeys, modest, calm, conditions, laid).
  DERIVED. THE GIVEN ROWS OF THIS SEAT. 10 by the template 'for every input the law returns true; each argument reads behind the call as it read before'; 0 by the template 'total and deterministic' (their statements: YteomiaffdbbpoaaTotals.lean).
  GIVEN WITH THE SEED: the statements are not yours to turn. If you find one false, say at which input.
  Laid BY PROGRAM, IN A SANDBOX (cutbox-rows.mjs): the forced cells as the released guide's own fill.sh prints them over the translation b5188dd0789006b3… (all of the seat's roots in one cut). By AI agents, Wed Nov 11 2026. No macro, syntax, notation, axiom, sorry.
-/
import Derived.Test.YteomiaffdbbpoaaChecked
import GoSem.Claim
import GoSem.ClaimJoined
import GoSem.ClaimMapViews
import Derived.JoinedTies
import Derived.KernelRfl
namespace Go.Proofs.Yteomiaffdbbpoaa
/- THE CELL 'sum', in the pinned program and in every row, IS THE sha256 OF THE DUMP (.gsa) THAT YteomiaffdbbpoaaProg.lean LOADS. Nothing in Lean hashes anything: it is a label: what it is worth is what the hold of that sum in a sandbox is worth. -/
noncomputable def Try.pinned : Pinned := { name := "yteomiaffdbbpoaa", sum := "b5188dd0789006b3242a5152c786d7b8a83c849e7a7eec55dcb448e579c06be3", checked := Try.checked }
namespace Rows
def none {H : Type} : Left H := { results := [], args := [] }

/-- 'laws.FnExactHitsOk': WHATEVER THE INPUT: true; the input reads as it did. -/
def fnExactHitsOkSpec : ChangeSpec := { name := "fnExactHitsOk", fn := fun _ => fun
  | [d] => { results := [.lit (.bool true)], args := [d] }
  | _ => none }
def fnExactHitsOkRow : OpenClaim := { program := "yteomiaffdbbpoaa", sum := "b5188dd0789006b3242a5152c786d7b8a83c849e7a7eec55dcb448e579c06be3", func := "loop.example/fossick/laws.FnExactHitsOk", spec := "fnExactHitsOk", unfollowed := true, recurses := true, apart := false }
def FnExactHitsOkSaid : Prop := fnExactHitsOkRow.holds Try.pinned (OpenSpec.ofChange fnExactHitsOkSpec)

/-- ITS FALSE NEIGHBOUR: 'it returns false'. Refute it at one input. -/
def fnExactHitsOkWrong : ChangeSpec := { name := "fnExactHitsOk", fn := fun _ => fun
  | [d] => { results := [.lit (.bool false)], args := [d] }
  | _ => none }
def FnExactHitsOkWrongFalsely : Prop := fnExactHitsOkRow.holds Try.pinned (OpenSpec.ofChange fnExactHitsOkWrong)

/-- 'laws.FnFacetBands': WHATEVER THE INPUT: true; the input reads as it did. -/
def fnFacetBandsSpec : ChangeSpec := { name := "fnFacetBands", fn := fun _ => fun
  | [d] => { results := [.lit (.bool true)], args := [d] }
  | _ => none }
def fnFacetBandsRow : OpenClaim := { program := "yteomiaffdbbpoaa", sum := "b5188dd0789006b3242a5152c786d7b8a83c849e7a7eec55dcb448e579c06be3", func := "loop.example/fossick/laws.FnFacetBands", spec := "fnFacetBands", apart := false }
def FnFacetBandsSaid : Prop := fnFacetBandsRow.holds Try.pinned (OpenSpec.ofChange fnFacetBandsSpec)

/-- ITS FALSE NEIGHBOUR: 'it returns false'. Refute it at one input. -/
def fnFacetBandsWrong : ChangeSpec := { name := "fnFacetBands", fn := fun _ => fun
  | [d] => { results := [.lit (.bool false)], args := [d] }
  | _ => none }
def FnFacetBandsWrongFalsely : Prop := fnFacetBandsRow.holds Try.pinned (OpenSpec.ofChange fnFacetBandsWrong)

/-- 'laws.FnGroupOf': WHATEVER THE INPUT: true; the input reads as it did. -/
def fnGroupOfSpec : ChangeSpec := { name := "fnGroupOf", fn := fun _ => fun
  | [d] => { results := [.lit (.bool true)], args := [d] }
  | _ => none }
def fnGroupOfRow : OpenClaim := { program := "yteomiaffdbbpoaa", sum := "b5188dd0789006b3242a5152c786d7b8a83c849e7a7eec55dcb448e579c06be3", func := "loop.example/fossick/laws.FnGroupOf", spec := "fnGroupOf", unfollowed := true, recurses := true, apart := false }
def FnGroupOfSaid : Prop := fnGroupOfRow.holds Try.pinned (OpenSpec.ofChange fnGroupOfSpec)

/-- ITS FALSE NEIGHBOUR: 'it returns false'. Refute it at one input. -/
def fnGroupOfWrong : ChangeSpec := { name := "fnGroupOf", fn := fun _ => fun
  | [d] => { results := [.lit (.bool false)], args := [d] }
  | _ => none }
def FnGroupOfWrongFalsely : Prop := fnGroupOfRow.holds Try.pinned (OpenSpec.ofChange fnGroupOfWrong)

/-- 'laws.FnExactFacetBands': WHATEVER THE INPUT: true; the input reads as it did. -/
def fnExactFacetBandsSpec : ChangeSpec := { name := "fnExactFacetBands", fn := fun _ => fun
  | [d1, d2, d3, d4] => { results := [.lit (.bool true)], args := [d1, d2, d3, d4] }
  | _ => none }
def fnExactFacetBandsRow : OpenClaim := { program := "yteomiaffdbbpoaa", sum := "b5188dd0789006b3242a5152c786d7b8a83c849e7a7eec55dcb448e579c06be3", func := "loop.example/fossick/laws.FnExactFacetBands", spec := "fnExactFacetBands", apart := false }
def FnExactFacetBandsSaid : Prop := fnExactFacetBandsRow.holds Try.pinned (OpenSpec.ofChange fnExactFacetBandsSpec)

/-- ITS FALSE NEIGHBOUR: 'it returns false'. Refute it at one input. -/
def fnExactFacetBandsWrong : ChangeSpec := { name := "fnExactFacetBands", fn := fun _ => fun
  | [d1, d2, d3, d4] => { results := [.lit (.bool false)], args := [d1, d2, d3, d4] }
  | _ => none }
def FnExactFacetBandsWrongFalsely : Prop := fnExactFacetBandsRow.holds Try.pinned (OpenSpec.ofChange fnExactFacetBandsWrong)

/-- 'laws.FnExactGroupOf': WHATEVER THE INPUT: true; the input reads as it did. -/
def fnExactGroupOfSpec : ChangeSpec := { name := "fnExactGroupOf", fn := fun _ => fun
  | [d1, d2, d3] => { results := [.lit (.bool true)], args := [d1, d2, d3] }
  | _ => none }
def fnExactGroupOfRow : OpenClaim := { program := "yteomiaffdbbpoaa", sum := "b5188dd0789006b3242a5152c786d7b8a83c849e7a7eec55dcb448e579c06be3", func := "loop.example/fossick/laws.FnExactGroupOf", spec := "fnExactGroupOf", unfollowed := true, recurses := true, apart := false }
def FnExactGroupOfSaid : Prop := fnExactGroupOfRow.holds Try.pinned (OpenSpec.ofChange fnExactGroupOfSpec)

/-- ITS FALSE NEIGHBOUR: 'it returns false'. Refute it at one input. -/
def fnExactGroupOfWrong : ChangeSpec := { name := "fnExactGroupOf", fn := fun _ => fun
  | [d1, d2, d3] => { results := [.lit (.bool false)], args := [d1, d2, d3] }
  | _ => none }
def FnExactGroupOfWrongFalsely : Prop := fnExactGroupOfRow.holds Try.pinned (OpenSpec.ofChange fnExactGroupOfWrong)

/-- 'laws.FnExactTopPush': WHATEVER THE INPUT: true; the input reads as it did. -/
def fnExactTopPushSpec : ChangeSpec := { name := "fnExactTopPush", fn := fun _ => fun
  | [d1, d2, d3] => { results := [.lit (.bool true)], args := [d1, d2, d3] }
  | _ => none }
def fnExactTopPushRow : OpenClaim := { program := "yteomiaffdbbpoaa", sum := "b5188dd0789006b3242a5152c786d7b8a83c849e7a7eec55dcb448e579c06be3", func := "loop.example/fossick/laws.FnExactTopPush", spec := "fnExactTopPush", unfollowed := true, recurses := true, apart := false }
def FnExactTopPushSaid : Prop := fnExactTopPushRow.holds Try.pinned (OpenSpec.ofChange fnExactTopPushSpec)

/-- ITS FALSE NEIGHBOUR: 'it returns false'. Refute it at one input. -/
def fnExactTopPushWrong : ChangeSpec := { name := "fnExactTopPush", fn := fun _ => fun
  | [d1, d2, d3] => { results := [.lit (.bool false)], args := [d1, d2, d3] }
  | _ => none }
def FnExactTopPushWrongFalsely : Prop := fnExactTopPushRow.holds Try.pinned (OpenSpec.ofChange fnExactTopPushWrong)

/-- 'laws.FnTopPush': WHATEVER THE INPUT: true; the input reads as it did. -/
def fnTopPushSpec : ChangeSpec := { name := "fnTopPush", fn := fun _ => fun
  | [d] => { results := [.lit (.bool true)], args := [d] }
  | _ => none }
def fnTopPushRow : OpenClaim := { program := "yteomiaffdbbpoaa", sum := "b5188dd0789006b3242a5152c786d7b8a83c849e7a7eec55dcb448e579c06be3", func := "loop.example/fossick/laws.FnTopPush", spec := "fnTopPush", unfollowed := true, recurses := true, apart := false }
def FnTopPushSaid : Prop := fnTopPushRow.holds Try.pinned (OpenSpec.ofChange fnTopPushSpec)

/-- ITS FALSE NEIGHBOUR: 'it returns false'. Refute it at one input. -/
def fnTopPushWrong : ChangeSpec := { name := "fnTopPush", fn := fun _ => fun
  | [d] => { results := [.lit (.bool false)], args := [d] }
  | _ => none }
def FnTopPushWrongFalsely : Prop := fnTopPushRow.holds Try.pinned (OpenSpec.ofChange fnTopPushWrong)

/-- 'laws.FnFacetParts': WHATEVER THE INPUT: true; the input reads as it did. -/
def fnFacetPartsSpec : ChangeSpec := { name := "fnFacetParts", fn := fun _ => fun
  | [d1, d2] => { results := [.lit (.bool true)], args := [d1, d2] }
  | _ => none }
def fnFacetPartsRow : OpenClaim := { program := "yteomiaffdbbpoaa", sum := "b5188dd0789006b3242a5152c786d7b8a83c849e7a7eec55dcb448e579c06be3", func := "loop.example/fossick/laws.FnFacetParts", spec := "fnFacetParts", unfollowed := true, recurses := true, apart := false }
def FnFacetPartsSaid : Prop := fnFacetPartsRow.holds Try.pinned (OpenSpec.ofChange fnFacetPartsSpec)

/-- ITS FALSE NEIGHBOUR: 'it returns false'. Refute it at one input. -/
def fnFacetPartsWrong : ChangeSpec := { name := "fnFacetParts", fn := fun _ => fun
  | [d1, d2] => { results := [.lit (.bool false)], args := [d1, d2] }
  | _ => none }
def FnFacetPartsWrongFalsely : Prop := fnFacetPartsRow.holds Try.pinned (OpenSpec.ofChange fnFacetPartsWrong)

/-- 'laws.FnFacetOf': WHATEVER THE INPUT: true; the input reads as it did. -/
def fnFacetOfSpec : ChangeSpec := { name := "fnFacetOf", fn := fun _ => fun
  | [d] => { results := [.lit (.bool true)], args := [d] }
  | _ => none }
def fnFacetOfRow : OpenClaim := { program := "yteomiaffdbbpoaa", sum := "b5188dd0789006b3242a5152c786d7b8a83c849e7a7eec55dcb448e579c06be3", func := "loop.example/fossick/laws.FnFacetOf", spec := "fnFacetOf", unfollowed := true, recurses := true, apart := false }
def FnFacetOfSaid : Prop := fnFacetOfRow.holds Try.pinned (OpenSpec.ofChange fnFacetOfSpec)

/-- ITS FALSE NEIGHBOUR: 'it returns false'. Refute it at one input. -/
def fnFacetOfWrong : ChangeSpec := { name := "fnFacetOf", fn := fun _ => fun
  | [d] => { results := [.lit (.bool false)], args := [d] }
  | _ => none }
def FnFacetOfWrongFalsely : Prop := fnFacetOfRow.holds Try.pinned (OpenSpec.ofChange fnFacetOfWrong)

/-- 'laws.FnExactFacetOf': WHATEVER THE INPUT: true; the input reads as it did. -/
def fnExactFacetOfSpec : ChangeSpec := { name := "fnExactFacetOf", fn := fun _ => fun
  | [d1, d2, d3] => { results := [.lit (.bool true)], args := [d1, d2, d3] }
  | _ => none }
def fnExactFacetOfRow : OpenClaim := { program := "yteomiaffdbbpoaa", sum := "b5188dd0789006b3242a5152c786d7b8a83c849e7a7eec55dcb448e579c06be3", func := "loop.example/fossick/laws.FnExactFacetOf", spec := "fnExactFacetOf", unfollowed := true, recurses := true, apart := false }
def FnExactFacetOfSaid : Prop := fnExactFacetOfRow.holds Try.pinned (OpenSpec.ofChange fnExactFacetOfSpec)

/-- ITS FALSE NEIGHBOUR: 'it returns false'. Refute it at one input. -/
def fnExactFacetOfWrong : ChangeSpec := { name := "fnExactFacetOf", fn := fun _ => fun
  | [d1, d2, d3] => { results := [.lit (.bool false)], args := [d1, d2, d3] }
  | _ => none }
def FnExactFacetOfWrongFalsely : Prop := fnExactFacetOfRow.holds Try.pinned (OpenSpec.ofChange fnExactFacetOfWrong)

/- THE SECOND FORM. 'bulk': how many values and letters a reading holds, each counted each time it is reached (what is shared counts as often as it is met; a slice's spare places count too). A statement '..UptoSaid' is the law's where the arguments, and the package variables that the reading takes, are together of bulk at most 1048576: NARROWER than '..Said'. Prove '..Said' where nothing that the law and all that it calls make is longer than what came in: it says more and counts as full. Else prove '..UptoSaid'. A law counts once. -/
mutual
def uptoBulk {H : Type} : DataW H → Nat
  | .lit (.string bytes) => bytes.length + 1
  | .lit _ => 1
  | .nil => 1
  | .ptr d => uptoBulk d + 1
  | .slice elems spare => uptoBulkAll elems + uptoBulkAll spare + 1
  | .agg parts => uptoBulkAll parts + 1
  | .iface _ d => uptoBulk d + 1
  | .map entries => uptoBulkEntries entries + 1
  | .held _ => 1
def uptoBulkAll {H : Type} : List (DataW H) → Nat
  | [] => 0
  | d :: r => uptoBulk d + uptoBulkAll r
def uptoBulkEntries {H : Type} : List (Lit × DataW H) → Nat
  | [] => 0
  | x :: r => uptoBulkEntry x + uptoBulkEntries r
def uptoBulkEntry {H : Type} : Lit × DataW H → Nat
  | (.string bytes, d) => bytes.length + uptoBulk d + 1
  | (_, d) => uptoBulk d + 1
 end
def uptoSmall : (H : Type) → List (DataW H) → Bool := fun _ ds => decide (uptoBulkAll ds ≤ 1048576)
def OpenSpec.upto (s : _root_.Go.ChangeSpec) : _root_.Go.OpenSpec := { _root_.Go.OpenSpec.ofChange s with cond := some uptoSmall }

/-- 'laws.FnExactHitsOk', WHERE WHAT IT READS IS OF BULK AT MOST 1048576: true; the input reads as it did. -/
def fnExactHitsOkUptoRow : OpenClaim := { program := "yteomiaffdbbpoaa", sum := "b5188dd0789006b3242a5152c786d7b8a83c849e7a7eec55dcb448e579c06be3", func := "loop.example/fossick/laws.FnExactHitsOk", spec := "fnExactHitsOk", unfollowed := true, recurses := true, apart := false, narrowed := true }
def FnExactHitsOkUptoSaid : Prop := fnExactHitsOkUptoRow.holds Try.pinned (OpenSpec.upto fnExactHitsOkSpec)

/-- 'laws.FnFacetBands', WHERE WHAT IT READS IS OF BULK AT MOST 1048576: true; the input reads as it did. -/
def fnFacetBandsUptoRow : OpenClaim := { program := "yteomiaffdbbpoaa", sum := "b5188dd0789006b3242a5152c786d7b8a83c849e7a7eec55dcb448e579c06be3", func := "loop.example/fossick/laws.FnFacetBands", spec := "fnFacetBands", apart := false, narrowed := true }
def FnFacetBandsUptoSaid : Prop := fnFacetBandsUptoRow.holds Try.pinned (OpenSpec.upto fnFacetBandsSpec)

/-- 'laws.FnGroupOf', WHERE WHAT IT READS IS OF BULK AT MOST 1048576: true; the input reads as it did. -/
def fnGroupOfUptoRow : OpenClaim := { program := "yteomiaffdbbpoaa", sum := "b5188dd0789006b3242a5152c786d7b8a83c849e7a7eec55dcb448e579c06be3", func := "loop.example/fossick/laws.FnGroupOf", spec := "fnGroupOf", unfollowed := true, recurses := true, apart := false, narrowed := true }
def FnGroupOfUptoSaid : Prop := fnGroupOfUptoRow.holds Try.pinned (OpenSpec.upto fnGroupOfSpec)

/-- 'laws.FnExactFacetBands', WHERE WHAT IT READS IS OF BULK AT MOST 1048576: true; the input reads as it did. -/
def fnExactFacetBandsUptoRow : OpenClaim := { program := "yteomiaffdbbpoaa", sum := "b5188dd0789006b3242a5152c786d7b8a83c849e7a7eec55dcb448e579c06be3", func := "loop.example/fossick/laws.FnExactFacetBands", spec := "fnExactFacetBands", apart := false, narrowed := true }
def FnExactFacetBandsUptoSaid : Prop := fnExactFacetBandsUptoRow.holds Try.pinned (OpenSpec.upto fnExactFacetBandsSpec)

/-- 'laws.FnExactGroupOf', WHERE WHAT IT READS IS OF BULK AT MOST 1048576: true; the input reads as it did. -/
def fnExactGroupOfUptoRow : OpenClaim := { program := "yteomiaffdbbpoaa", sum := "b5188dd0789006b3242a5152c786d7b8a83c849e7a7eec55dcb448e579c06be3", func := "loop.example/fossick/laws.FnExactGroupOf", spec := "fnExactGroupOf", unfollowed := true, recurses := true, apart := false, narrowed := true }
def FnExactGroupOfUptoSaid : Prop := fnExactGroupOfUptoRow.holds Try.pinned (OpenSpec.upto fnExactGroupOfSpec)

/-- 'laws.FnExactTopPush', WHERE WHAT IT READS IS OF BULK AT MOST 1048576: true; the input reads as it did. -/
def fnExactTopPushUptoRow : OpenClaim := { program := "yteomiaffdbbpoaa", sum := "b5188dd0789006b3242a5152c786d7b8a83c849e7a7eec55dcb448e579c06be3", func := "loop.example/fossick/laws.FnExactTopPush", spec := "fnExactTopPush", unfollowed := true, recurses := true, apart := false, narrowed := true }
def FnExactTopPushUptoSaid : Prop := fnExactTopPushUptoRow.holds Try.pinned (OpenSpec.upto fnExactTopPushSpec)

/-- 'laws.FnTopPush', WHERE WHAT IT READS IS OF BULK AT MOST 1048576: true; the input reads as it did. -/
def fnTopPushUptoRow : OpenClaim := { program := "yteomiaffdbbpoaa", sum := "b5188dd0789006b3242a5152c786d7b8a83c849e7a7eec55dcb448e579c06be3", func := "loop.example/fossick/laws.FnTopPush", spec := "fnTopPush", unfollowed := true, recurses := true, apart := false, narrowed := true }
def FnTopPushUptoSaid : Prop := fnTopPushUptoRow.holds Try.pinned (OpenSpec.upto fnTopPushSpec)

/-- 'laws.FnFacetParts', WHERE WHAT IT READS IS OF BULK AT MOST 1048576: true; the input reads as it did. -/
def fnFacetPartsUptoRow : OpenClaim := { program := "yteomiaffdbbpoaa", sum := "b5188dd0789006b3242a5152c786d7b8a83c849e7a7eec55dcb448e579c06be3", func := "loop.example/fossick/laws.FnFacetParts", spec := "fnFacetParts", unfollowed := true, recurses := true, apart := false, narrowed := true }
def FnFacetPartsUptoSaid : Prop := fnFacetPartsUptoRow.holds Try.pinned (OpenSpec.upto fnFacetPartsSpec)

/-- 'laws.FnFacetOf', WHERE WHAT IT READS IS OF BULK AT MOST 1048576: true; the input reads as it did. -/
def fnFacetOfUptoRow : OpenClaim := { program := "yteomiaffdbbpoaa", sum := "b5188dd0789006b3242a5152c786d7b8a83c849e7a7eec55dcb448e579c06be3", func := "loop.example/fossick/laws.FnFacetOf", spec := "fnFacetOf", unfollowed := true, recurses := true, apart := false, narrowed := true }
def FnFacetOfUptoSaid : Prop := fnFacetOfUptoRow.holds Try.pinned (OpenSpec.upto fnFacetOfSpec)

/-- 'laws.FnExactFacetOf', WHERE WHAT IT READS IS OF BULK AT MOST 1048576: true; the input reads as it did. -/
def fnExactFacetOfUptoRow : OpenClaim := { program := "yteomiaffdbbpoaa", sum := "b5188dd0789006b3242a5152c786d7b8a83c849e7a7eec55dcb448e579c06be3", func := "loop.example/fossick/laws.FnExactFacetOf", spec := "fnExactFacetOf", unfollowed := true, recurses := true, apart := false, narrowed := true }
def FnExactFacetOfUptoSaid : Prop := fnExactFacetOfUptoRow.holds Try.pinned (OpenSpec.upto fnExactFacetOfSpec)

end Rows
end Go.Proofs.Yteomiaffdbbpoaa
