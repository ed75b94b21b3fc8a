/-
  NARROWER THAN 'FOR EVERY INPUT', by the rows' own cells (each row's printed sentence says how): FnQueryPut: maps, laid · FnExactQueryRead: maps, laid · FnQueryOk: maps, laid · FnExactQueryOk: loops, maps, laid · FnExactQueryPut: loops, maps, laid · FnSnipTerms: maps, laid · FnExactSnipTerms: loops, maps, laid.
  DERIVED. THE GIVEN ROWS OF THIS SEAT. 7 by the template 'for every input the law returns true; each argument reads behind the call as it read before'; 0 by the template 'total and deterministic' (their statements: YtaobgliimbmemaaDoorTotals.lean).
  GIVEN WITH THE SEED: the statements are not yours to turn. If you find one false, say at which input.
  Laid BY PROGRAM, IN A SANDBOX (cutbox-rows.mjs): the forced cells as the released guide's own fill.sh prints them over the translation 555ae85c1c01f8b9… (all of the seat's roots in one cut). By AI agents, Wed Nov 11 2026. No macro, syntax, notation, axiom, sorry.
-/
import Derived.Test.YtaobgliimbmemaaDoorChecked
import GoSem.PinnedTables
import GoSem.Claim
import GoSem.ClaimJoined
import GoSem.ClaimMapViews
import Derived.JoinedTies
import Derived.KernelRfl
namespace Go.Proofs.YtaobgliimbmemaaDoor
/- THE CELL 'sum', in the pinned program and in every row, IS THE sha256 OF THE DUMP (.gsa) THAT YtaobgliimbmemaaDoorProg.lean LOADS. Nothing in Lean hashes anything: it is a label: what it is worth is what the hold of that sum in a sandbox is worth. -/
noncomputable def Tryd.pinned : Pinned := { name := "ytaobgliimbmemaadoor", sum := "555ae85c1c01f8b948f119bab04444c2e5b82e6af74f14d0e30b1155b9b573ea", checked := Tryd.checked }
namespace Rows
def none {H : Type} : Left H := { results := [], args := [] }

/- WHAT THE LISTED PACKAGE-LEVEL VARIABLES READ AS WHEN THE CALL BEGINS. Each datum BY PROGRAM (the guide's laid-datum.mjs) off the statement by which the dump's own 'gosem.cut.vars' lays the variable. In a bare row this is a premise. The card (YtaobgliimbmemaaDoorCards.lean) ties it to the program's text. -/
def laid_math_bits_deBruijn32tab {H : Type} : DataW H := .agg [.lit (.int .u8 0), .lit (.int .u8 1), .lit (.int .u8 28), .lit (.int .u8 2), .lit (.int .u8 29), .lit (.int .u8 14), .lit (.int .u8 24), .lit (.int .u8 3), .lit (.int .u8 30), .lit (.int .u8 22), .lit (.int .u8 20), .lit (.int .u8 15), .lit (.int .u8 25), .lit (.int .u8 17), .lit (.int .u8 4), .lit (.int .u8 8), .lit (.int .u8 31), .lit (.int .u8 27), .lit (.int .u8 13), .lit (.int .u8 23), .lit (.int .u8 21), .lit (.int .u8 19), .lit (.int .u8 16), .lit (.int .u8 7), .lit (.int .u8 26), .lit (.int .u8 12), .lit (.int .u8 18), .lit (.int .u8 6), .lit (.int .u8 11), .lit (.int .u8 5), .lit (.int .u8 10), .lit (.int .u8 9)]
def laid_math_bits_deBruijn64tab {H : Type} : DataW H := .agg [.lit (.int .u8 0), .lit (.int .u8 1), .lit (.int .u8 56), .lit (.int .u8 2), .lit (.int .u8 57), .lit (.int .u8 49), .lit (.int .u8 28), .lit (.int .u8 3), .lit (.int .u8 61), .lit (.int .u8 58), .lit (.int .u8 42), .lit (.int .u8 50), .lit (.int .u8 38), .lit (.int .u8 29), .lit (.int .u8 17), .lit (.int .u8 4), .lit (.int .u8 62), .lit (.int .u8 47), .lit (.int .u8 59), .lit (.int .u8 36), .lit (.int .u8 45), .lit (.int .u8 43), .lit (.int .u8 51), .lit (.int .u8 22), .lit (.int .u8 53), .lit (.int .u8 39), .lit (.int .u8 33), .lit (.int .u8 30), .lit (.int .u8 24), .lit (.int .u8 18), .lit (.int .u8 12), .lit (.int .u8 5), .lit (.int .u8 63), .lit (.int .u8 55), .lit (.int .u8 48), .lit (.int .u8 27), .lit (.int .u8 60), .lit (.int .u8 41), .lit (.int .u8 37), .lit (.int .u8 16), .lit (.int .u8 46), .lit (.int .u8 35), .lit (.int .u8 44), .lit (.int .u8 21), .lit (.int .u8 52), .lit (.int .u8 32), .lit (.int .u8 23), .lit (.int .u8 11), .lit (.int .u8 54), .lit (.int .u8 26), .lit (.int .u8 40), .lit (.int .u8 15), .lit (.int .u8 34), .lit (.int .u8 20), .lit (.int .u8 31), .lit (.int .u8 10), .lit (.int .u8 25), .lit (.int .u8 14), .lit (.int .u8 19), .lit (.int .u8 9), .lit (.int .u8 13), .lit (.int .u8 8), .lit (.int .u8 7), .lit (.int .u8 6)]
def laid_internal_strconv_uint64pow10 {H : Type} : DataW H := .agg [.lit (.int .u64 1), .lit (.int .u64 10), .lit (.int .u64 100), .lit (.int .u64 1000), .lit (.int .u64 10000), .lit (.int .u64 100000), .lit (.int .u64 1000000), .lit (.int .u64 10000000), .lit (.int .u64 100000000), .lit (.int .u64 1000000000), .lit (.int .u64 10000000000), .lit (.int .u64 100000000000), .lit (.int .u64 1000000000000), .lit (.int .u64 10000000000000), .lit (.int .u64 100000000000000), .lit (.int .u64 1000000000000000), .lit (.int .u64 10000000000000000), .lit (.int .u64 100000000000000000), .lit (.int .u64 1000000000000000000), .lit (.int .u64 10000000000000000000)]
def laid_unicode_utf8_acceptRanges {H : Type} : DataW H := .agg [.agg [.lit (.int .u8 128), .lit (.int .u8 191)], .agg [.lit (.int .u8 160), .lit (.int .u8 191)], .agg [.lit (.int .u8 128), .lit (.int .u8 159)], .agg [.lit (.int .u8 144), .lit (.int .u8 191)], .agg [.lit (.int .u8 128), .lit (.int .u8 143)], .agg [.lit (.int .u8 0), .lit (.int .u8 0)], .agg [.lit (.int .u8 0), .lit (.int .u8 0)], .agg [.lit (.int .u8 0), .lit (.int .u8 0)], .agg [.lit (.int .u8 0), .lit (.int .u8 0)], .agg [.lit (.int .u8 0), .lit (.int .u8 0)], .agg [.lit (.int .u8 0), .lit (.int .u8 0)], .agg [.lit (.int .u8 0), .lit (.int .u8 0)], .agg [.lit (.int .u8 0), .lit (.int .u8 0)], .agg [.lit (.int .u8 0), .lit (.int .u8 0)], .agg [.lit (.int .u8 0), .lit (.int .u8 0)], .agg [.lit (.int .u8 0), .lit (.int .u8 0)]]
def laid_strconv_ErrRange {H : Type} : DataW H := .iface "*errors.errorString" (.ptr (.agg [.lit (.string [118, 97, 108, 117, 101, 32, 111, 117, 116, 32, 111, 102, 32, 114, 97, 110, 103, 101])]))
def laid_strconv_ErrSyntax {H : Type} : DataW H := .iface "*errors.errorString" (.ptr (.agg [.lit (.string [105, 110, 118, 97, 108, 105, 100, 32, 115, 121, 110, 116, 97, 120])]))
def laid_loop_example_fossick_impl_shapes {H : Type} : DataW H := .map [(.int .i64 1, .agg [.lit (.bool false), .lit (.int .i64 0), .lit (.int .i64 0), .lit (.int .i64 0), .lit (.int .i64 0), .lit (.bool false), .lit (.int .i64 0), .lit (.int .i64 0)]), (.int .i64 2, .agg [.lit (.bool true), .lit (.int .i64 1), .lit (.int .i64 1), .lit (.int .i64 0), .lit (.int .i64 0), .lit (.bool false), .lit (.int .i64 0), .lit (.int .i64 0)]), (.int .i64 3, .agg [.lit (.bool true), .lit (.int .i64 2), .lit (.int .i64 4), .lit (.int .i64 0), .lit (.int .i64 5), .lit (.bool false), .lit (.int .i64 0), .lit (.int .i64 0)]), (.int .i64 4, .agg [.lit (.bool true), .lit (.int .i64 1), .lit (.int .i64 1), .lit (.int .i64 1), .lit (.int .i64 2), .lit (.bool false), .lit (.int .i64 0), .lit (.int .i64 0)]), (.int .i64 5, .agg [.lit (.bool true), .lit (.int .i64 1), .lit (.int .i64 1), .lit (.int .i64 0), .lit (.int .i64 0), .lit (.bool false), .lit (.int .i64 0), .lit (.int .i64 0)]), (.int .i64 6, .agg [.lit (.bool true), .lit (.int .i64 0), .lit (.int .i64 0), .lit (.int .i64 0), .lit (.int .i64 999999999), .lit (.bool true), .lit (.int .i64 0), .lit (.int .i64 0)]), (.int .i64 7, .agg [.lit (.bool false), .lit (.int .i64 0), .lit (.int .i64 0), .lit (.int .i64 0), .lit (.int .i64 0), .lit (.bool false), .lit (.int .i64 2), .lit (.int .i64 4)]), (.int .i64 8, .agg [.lit (.bool false), .lit (.int .i64 0), .lit (.int .i64 0), .lit (.int .i64 0), .lit (.int .i64 0), .lit (.bool false), .lit (.int .i64 2), .lit (.int .i64 4)]), (.int .i64 9, .agg [.lit (.bool false), .lit (.int .i64 0), .lit (.int .i64 0), .lit (.int .i64 0), .lit (.int .i64 0), .lit (.bool false), .lit (.int .i64 2), .lit (.int .i64 2)]), (.int .i64 10, .agg [.lit (.bool false), .lit (.int .i64 0), .lit (.int .i64 0), .lit (.int .i64 2), .lit (.int .i64 9), .lit (.bool false), .lit (.int .i64 1), .lit (.int .i64 1)])]
def laid_loop_example_fossick_impl_opNames {H : Type} : DataW H := .map [(.int .i64 7, .lit (.string [97, 110, 100])), (.int .i64 8, .lit (.string [111, 114])), (.int .i64 9, .lit (.string [108, 101, 115, 115])), (.int .i64 10, .lit (.string [116, 105, 109, 101, 115]))]
/-- One of Go's own tables, pinned by name: the form's constant. -/
def laid_unicode_utf8_first : DataW Unit := Go.Pinned.utf8First

/-- 'laws.FnQueryPut': WHATEVER THE INPUT: true; the input reads as it did. -/
def fnQueryPutSpec : ChangeSpec := { name := "fnQueryPut", vars := ["loop.example/fossick/impl.shapes", "loop.example/fossick/impl.opNames"], fn := fun _ => fun
  | [d, g1, g2] => { results := [.lit (.bool true)], args := [d], vars := [g1, g2] }
  | _ => none }
def fnQueryPutRow : OpenClaim := { program := "ytaobgliimbmemaadoor", sum := "555ae85c1c01f8b948f119bab04444c2e5b82e6af74f14d0e30b1155b9b573ea", func := "loop.example/fossick/laws.FnQueryPut", spec := "fnQueryPut", inPlace := ["internal/abi.NoEscape", "internal/bytealg.MakeNoZero", "internal/bytealg.IndexByteString", "internal/bytealg.IndexString", "internal/bytealg.CountString"], recurses := true, named := ["loop.example/fossick/impl.shapes", "loop.example/fossick/impl.opNames", "internal/strconv.uint64pow10", "math/bits.deBruijn32tab", "math/bits.deBruijn64tab", "internal/bytealg.MaxLen", "unicode/utf8.first", "unicode/utf8.acceptRanges", "strconv.ErrSyntax", "strconv.ErrRange"], maps := true, apart := false, laid := [("math/bits.deBruijn32tab", laid_math_bits_deBruijn32tab), ("math/bits.deBruijn64tab", laid_math_bits_deBruijn64tab), ("internal/strconv.uint64pow10", laid_internal_strconv_uint64pow10), ("unicode/utf8.acceptRanges", laid_unicode_utf8_acceptRanges), ("strconv.ErrRange", laid_strconv_ErrRange), ("strconv.ErrSyntax", laid_strconv_ErrSyntax), ("loop.example/fossick/impl.shapes", laid_loop_example_fossick_impl_shapes), ("loop.example/fossick/impl.opNames", laid_loop_example_fossick_impl_opNames), ("unicode/utf8.first", laid_unicode_utf8_first)] }
def FnQueryPutSaid : Prop := fnQueryPutRow.holds Tryd.pinned (OpenSpec.ofChange fnQueryPutSpec)

/-- ITS FALSE NEIGHBOUR: 'it returns false'. Refute it at one input. -/
def fnQueryPutWrong : ChangeSpec := { name := "fnQueryPut", vars := ["loop.example/fossick/impl.shapes", "loop.example/fossick/impl.opNames"], fn := fun _ => fun
  | [d, g1, g2] => { results := [.lit (.bool false)], args := [d], vars := [g1, g2] }
  | _ => none }
def FnQueryPutWrongFalsely : Prop := fnQueryPutRow.holds Tryd.pinned (OpenSpec.ofChange fnQueryPutWrong)

/-- 'laws.FnExactQueryRead': WHATEVER THE INPUT: true; the input reads as it did. -/
def fnExactQueryReadSpec : ChangeSpec := { name := "fnExactQueryRead", vars := ["loop.example/fossick/impl.opNames", "loop.example/fossick/impl.shapes"], fn := fun _ => fun
  | [d, g1, g2] => { results := [.lit (.bool true)], args := [d], vars := [g1, g2] }
  | _ => none }
def fnExactQueryReadRow : OpenClaim := { program := "ytaobgliimbmemaadoor", sum := "555ae85c1c01f8b948f119bab04444c2e5b82e6af74f14d0e30b1155b9b573ea", func := "loop.example/fossick/laws.FnExactQueryRead", spec := "fnExactQueryRead", inPlace := ["internal/bytealg.IndexByteString", "internal/bytealg.IndexString", "internal/bytealg.CountString", "internal/abi.NoEscape", "internal/bytealg.MakeNoZero"], recurses := true, named := ["loop.example/fossick/impl.opNames", "internal/bytealg.MaxLen", "unicode/utf8.first", "unicode/utf8.acceptRanges", "strconv.ErrSyntax", "strconv.ErrRange", "internal/strconv.uint64pow10", "math/bits.deBruijn32tab", "math/bits.deBruijn64tab", "loop.example/fossick/impl.shapes"], maps := true, apart := false, laid := [("math/bits.deBruijn32tab", laid_math_bits_deBruijn32tab), ("math/bits.deBruijn64tab", laid_math_bits_deBruijn64tab), ("internal/strconv.uint64pow10", laid_internal_strconv_uint64pow10), ("unicode/utf8.acceptRanges", laid_unicode_utf8_acceptRanges), ("strconv.ErrRange", laid_strconv_ErrRange), ("strconv.ErrSyntax", laid_strconv_ErrSyntax), ("loop.example/fossick/impl.shapes", laid_loop_example_fossick_impl_shapes), ("loop.example/fossick/impl.opNames", laid_loop_example_fossick_impl_opNames), ("unicode/utf8.first", laid_unicode_utf8_first)] }
def FnExactQueryReadSaid : Prop := fnExactQueryReadRow.holds Tryd.pinned (OpenSpec.ofChange fnExactQueryReadSpec)

/-- ITS FALSE NEIGHBOUR: 'it returns false'. Refute it at one input. -/
def fnExactQueryReadWrong : ChangeSpec := { name := "fnExactQueryRead", vars := ["loop.example/fossick/impl.opNames", "loop.example/fossick/impl.shapes"], fn := fun _ => fun
  | [d, g1, g2] => { results := [.lit (.bool false)], args := [d], vars := [g1, g2] }
  | _ => none }
def FnExactQueryReadWrongFalsely : Prop := fnExactQueryReadRow.holds Tryd.pinned (OpenSpec.ofChange fnExactQueryReadWrong)

/-- 'laws.FnQueryOk': WHATEVER THE INPUT: true; the input reads as it did. -/
def fnQueryOkSpec : ChangeSpec := { name := "fnQueryOk", vars := ["loop.example/fossick/impl.shapes"], fn := fun _ => fun
  | [d, g1] => { results := [.lit (.bool true)], args := [d], vars := [g1] }
  | _ => none }
def fnQueryOkRow : OpenClaim := { program := "ytaobgliimbmemaadoor", sum := "555ae85c1c01f8b948f119bab04444c2e5b82e6af74f14d0e30b1155b9b573ea", func := "loop.example/fossick/laws.FnQueryOk", spec := "fnQueryOk", recurses := true, named := ["loop.example/fossick/impl.shapes"], maps := true, apart := false, laid := [("loop.example/fossick/impl.shapes", laid_loop_example_fossick_impl_shapes)] }
def FnQueryOkSaid : Prop := fnQueryOkRow.holds Tryd.pinned (OpenSpec.ofChange fnQueryOkSpec)

/-- ITS FALSE NEIGHBOUR: 'it returns false'. Refute it at one input. -/
def fnQueryOkWrong : ChangeSpec := { name := "fnQueryOk", vars := ["loop.example/fossick/impl.shapes"], fn := fun _ => fun
  | [d, g1] => { results := [.lit (.bool false)], args := [d], vars := [g1] }
  | _ => none }
def FnQueryOkWrongFalsely : Prop := fnQueryOkRow.holds Tryd.pinned (OpenSpec.ofChange fnQueryOkWrong)

/-- 'laws.FnExactQueryOk': WHATEVER THE INPUT: true; the input reads as it did. -/
def fnExactQueryOkSpec : ChangeSpec := { name := "fnExactQueryOk", vars := ["loop.example/fossick/impl.shapes"], fn := fun _ => fun
  | [d, g1] => { results := [.lit (.bool true)], args := [d], vars := [g1] }
  | _ => none }
def fnExactQueryOkRow : OpenClaim := { program := "ytaobgliimbmemaadoor", sum := "555ae85c1c01f8b948f119bab04444c2e5b82e6af74f14d0e30b1155b9b573ea", func := "loop.example/fossick/laws.FnExactQueryOk", spec := "fnExactQueryOk", recurses := true, named := ["loop.example/fossick/impl.shapes"], maps := true, loops := true, apart := false, laid := [("loop.example/fossick/impl.shapes", laid_loop_example_fossick_impl_shapes)] }
def FnExactQueryOkSaid : Prop := fnExactQueryOkRow.holds Tryd.pinned (OpenSpec.ofChange fnExactQueryOkSpec)

/-- ITS FALSE NEIGHBOUR: 'it returns false'. Refute it at one input. -/
def fnExactQueryOkWrong : ChangeSpec := { name := "fnExactQueryOk", vars := ["loop.example/fossick/impl.shapes"], fn := fun _ => fun
  | [d, g1] => { results := [.lit (.bool false)], args := [d], vars := [g1] }
  | _ => none }
def FnExactQueryOkWrongFalsely : Prop := fnExactQueryOkRow.holds Tryd.pinned (OpenSpec.ofChange fnExactQueryOkWrong)

/-- 'laws.FnExactQueryPut': WHATEVER THE INPUT: true; the input reads as it did. -/
def fnExactQueryPutSpec : ChangeSpec := { name := "fnExactQueryPut", vars := ["loop.example/fossick/impl.shapes", "loop.example/fossick/impl.opNames"], fn := fun _ => fun
  | [d, g1, g2] => { results := [.lit (.bool true)], args := [d], vars := [g1, g2] }
  | _ => none }
def fnExactQueryPutRow : OpenClaim := { program := "ytaobgliimbmemaadoor", sum := "555ae85c1c01f8b948f119bab04444c2e5b82e6af74f14d0e30b1155b9b573ea", func := "loop.example/fossick/laws.FnExactQueryPut", spec := "fnExactQueryPut", inPlace := ["internal/abi.NoEscape", "internal/bytealg.MakeNoZero"], recurses := true, named := ["loop.example/fossick/impl.shapes", "loop.example/fossick/impl.opNames", "internal/strconv.uint64pow10", "math/bits.deBruijn32tab", "math/bits.deBruijn64tab"], maps := true, loops := true, apart := false, laid := [("math/bits.deBruijn32tab", laid_math_bits_deBruijn32tab), ("math/bits.deBruijn64tab", laid_math_bits_deBruijn64tab), ("internal/strconv.uint64pow10", laid_internal_strconv_uint64pow10), ("loop.example/fossick/impl.shapes", laid_loop_example_fossick_impl_shapes), ("loop.example/fossick/impl.opNames", laid_loop_example_fossick_impl_opNames)] }
def FnExactQueryPutSaid : Prop := fnExactQueryPutRow.holds Tryd.pinned (OpenSpec.ofChange fnExactQueryPutSpec)

/-- ITS FALSE NEIGHBOUR: 'it returns false'. Refute it at one input. -/
def fnExactQueryPutWrong : ChangeSpec := { name := "fnExactQueryPut", vars := ["loop.example/fossick/impl.shapes", "loop.example/fossick/impl.opNames"], fn := fun _ => fun
  | [d, g1, g2] => { results := [.lit (.bool false)], args := [d], vars := [g1, g2] }
  | _ => none }
def FnExactQueryPutWrongFalsely : Prop := fnExactQueryPutRow.holds Tryd.pinned (OpenSpec.ofChange fnExactQueryPutWrong)

/-- 'laws.FnSnipTerms': WHATEVER THE INPUT: true; the input reads as it did. -/
def fnSnipTermsSpec : ChangeSpec := { name := "fnSnipTerms", vars := ["loop.example/fossick/impl.shapes"], fn := fun _ => fun
  | [d1, d2, g1] => { results := [.lit (.bool true)], args := [d1, d2], vars := [g1] }
  | _ => none }
def fnSnipTermsRow : OpenClaim := { program := "ytaobgliimbmemaadoor", sum := "555ae85c1c01f8b948f119bab04444c2e5b82e6af74f14d0e30b1155b9b573ea", func := "loop.example/fossick/laws.FnSnipTerms", spec := "fnSnipTerms", inPlace := ["internal/abi.NoEscape", "internal/bytealg.MakeNoZero"], recurses := true, named := ["loop.example/fossick/impl.shapes"], maps := true, apart := false, laid := [("loop.example/fossick/impl.shapes", laid_loop_example_fossick_impl_shapes)] }
def FnSnipTermsSaid : Prop := fnSnipTermsRow.holds Tryd.pinned (OpenSpec.ofChange fnSnipTermsSpec)

/-- ITS FALSE NEIGHBOUR: 'it returns false'. Refute it at one input. -/
def fnSnipTermsWrong : ChangeSpec := { name := "fnSnipTerms", vars := ["loop.example/fossick/impl.shapes"], fn := fun _ => fun
  | [d1, d2, g1] => { results := [.lit (.bool false)], args := [d1, d2], vars := [g1] }
  | _ => none }
def FnSnipTermsWrongFalsely : Prop := fnSnipTermsRow.holds Tryd.pinned (OpenSpec.ofChange fnSnipTermsWrong)

/-- 'laws.FnExactSnipTerms': WHATEVER THE INPUT: true; the input reads as it did. -/
def fnExactSnipTermsSpec : ChangeSpec := { name := "fnExactSnipTerms", vars := ["loop.example/fossick/impl.shapes"], fn := fun _ => fun
  | [d1, d2, g1] => { results := [.lit (.bool true)], args := [d1, d2], vars := [g1] }
  | _ => none }
def fnExactSnipTermsRow : OpenClaim := { program := "ytaobgliimbmemaadoor", sum := "555ae85c1c01f8b948f119bab04444c2e5b82e6af74f14d0e30b1155b9b573ea", func := "loop.example/fossick/laws.FnExactSnipTerms", spec := "fnExactSnipTerms", inPlace := ["internal/abi.NoEscape", "internal/bytealg.MakeNoZero"], recurses := true, named := ["loop.example/fossick/impl.shapes"], maps := true, loops := true, apart := false, laid := [("loop.example/fossick/impl.shapes", laid_loop_example_fossick_impl_shapes)] }
def FnExactSnipTermsSaid : Prop := fnExactSnipTermsRow.holds Tryd.pinned (OpenSpec.ofChange fnExactSnipTermsSpec)

/-- ITS FALSE NEIGHBOUR: 'it returns false'. Refute it at one input. -/
def fnExactSnipTermsWrong : ChangeSpec := { name := "fnExactSnipTerms", vars := ["loop.example/fossick/impl.shapes"], fn := fun _ => fun
  | [d1, d2, g1] => { results := [.lit (.bool false)], args := [d1, d2], vars := [g1] }
  | _ => none }
def FnExactSnipTermsWrongFalsely : Prop := fnExactSnipTermsRow.holds Tryd.pinned (OpenSpec.ofChange fnExactSnipTermsWrong)

/- THE SECOND FORM. 'bulk': how many values and letters a reading holds, each counted each time it is reached (what is shared counts as often as it is met; a slice's spare places count too). A statement '..UptoSaid' is the law's where the arguments, and the package variables that the reading takes, are together of bulk at most 1048576: NARROWER than '..Said'. Prove '..Said' where nothing that the law and all that it calls make is longer than what came in: it says more and counts as full. Else prove '..UptoSaid'. A law counts once. -/
mutual
def uptoBulk {H : Type} : DataW H → Nat
  | .lit (.string bytes) => bytes.length + 1
  | .lit _ => 1
  | .nil => 1
  | .ptr d => uptoBulk d + 1
  | .slice elems spare => uptoBulkAll elems + uptoBulkAll spare + 1
  | .agg parts => uptoBulkAll parts + 1
  | .iface _ d => uptoBulk d + 1
  | .map entries => uptoBulkEntries entries + 1
  | .held _ => 1
def uptoBulkAll {H : Type} : List (DataW H) → Nat
  | [] => 0
  | d :: r => uptoBulk d + uptoBulkAll r
def uptoBulkEntries {H : Type} : List (Lit × DataW H) → Nat
  | [] => 0
  | x :: r => uptoBulkEntry x + uptoBulkEntries r
def uptoBulkEntry {H : Type} : Lit × DataW H → Nat
  | (.string bytes, d) => bytes.length + uptoBulk d + 1
  | (_, d) => uptoBulk d + 1
 end
def uptoSmall : (H : Type) → List (DataW H) → Bool := fun _ ds => decide (uptoBulkAll ds ≤ 1048576)
def OpenSpec.upto (s : _root_.Go.ChangeSpec) : _root_.Go.OpenSpec := { _root_.Go.OpenSpec.ofChange s with cond := some uptoSmall }

/-- 'laws.FnQueryPut', WHERE WHAT IT READS IS OF BULK AT MOST 1048576: true; the input reads as it did. -/
def fnQueryPutUptoRow : OpenClaim := { program := "ytaobgliimbmemaadoor", sum := "555ae85c1c01f8b948f119bab04444c2e5b82e6af74f14d0e30b1155b9b573ea", func := "loop.example/fossick/laws.FnQueryPut", spec := "fnQueryPut", inPlace := ["internal/abi.NoEscape", "internal/bytealg.MakeNoZero", "internal/bytealg.IndexByteString", "internal/bytealg.IndexString", "internal/bytealg.CountString"], recurses := true, named := ["loop.example/fossick/impl.shapes", "loop.example/fossick/impl.opNames", "internal/strconv.uint64pow10", "math/bits.deBruijn32tab", "math/bits.deBruijn64tab", "internal/bytealg.MaxLen", "unicode/utf8.first", "unicode/utf8.acceptRanges", "strconv.ErrSyntax", "strconv.ErrRange"], maps := true, apart := false, laid := [("math/bits.deBruijn32tab", laid_math_bits_deBruijn32tab), ("math/bits.deBruijn64tab", laid_math_bits_deBruijn64tab), ("internal/strconv.uint64pow10", laid_internal_strconv_uint64pow10), ("unicode/utf8.acceptRanges", laid_unicode_utf8_acceptRanges), ("strconv.ErrRange", laid_strconv_ErrRange), ("strconv.ErrSyntax", laid_strconv_ErrSyntax), ("loop.example/fossick/impl.shapes", laid_loop_example_fossick_impl_shapes), ("loop.example/fossick/impl.opNames", laid_loop_example_fossick_impl_opNames), ("unicode/utf8.first", laid_unicode_utf8_first)], narrowed := true }
def FnQueryPutUptoSaid : Prop := fnQueryPutUptoRow.holds Tryd.pinned (OpenSpec.upto fnQueryPutSpec)

/-- 'laws.FnExactQueryRead', WHERE WHAT IT READS IS OF BULK AT MOST 1048576: true; the input reads as it did. -/
def fnExactQueryReadUptoRow : OpenClaim := { program := "ytaobgliimbmemaadoor", sum := "555ae85c1c01f8b948f119bab04444c2e5b82e6af74f14d0e30b1155b9b573ea", func := "loop.example/fossick/laws.FnExactQueryRead", spec := "fnExactQueryRead", inPlace := ["internal/bytealg.IndexByteString", "internal/bytealg.IndexString", "internal/bytealg.CountString", "internal/abi.NoEscape", "internal/bytealg.MakeNoZero"], recurses := true, named := ["loop.example/fossick/impl.opNames", "internal/bytealg.MaxLen", "unicode/utf8.first", "unicode/utf8.acceptRanges", "strconv.ErrSyntax", "strconv.ErrRange", "internal/strconv.uint64pow10", "math/bits.deBruijn32tab", "math/bits.deBruijn64tab", "loop.example/fossick/impl.shapes"], maps := true, apart := false, laid := [("math/bits.deBruijn32tab", laid_math_bits_deBruijn32tab), ("math/bits.deBruijn64tab", laid_math_bits_deBruijn64tab), ("internal/strconv.uint64pow10", laid_internal_strconv_uint64pow10), ("unicode/utf8.acceptRanges", laid_unicode_utf8_acceptRanges), ("strconv.ErrRange", laid_strconv_ErrRange), ("strconv.ErrSyntax", laid_strconv_ErrSyntax), ("loop.example/fossick/impl.shapes", laid_loop_example_fossick_impl_shapes), ("loop.example/fossick/impl.opNames", laid_loop_example_fossick_impl_opNames), ("unicode/utf8.first", laid_unicode_utf8_first)], narrowed := true }
def FnExactQueryReadUptoSaid : Prop := fnExactQueryReadUptoRow.holds Tryd.pinned (OpenSpec.upto fnExactQueryReadSpec)

/-- 'laws.FnQueryOk', WHERE WHAT IT READS IS OF BULK AT MOST 1048576: true; the input reads as it did. -/
def fnQueryOkUptoRow : OpenClaim := { program := "ytaobgliimbmemaadoor", sum := "555ae85c1c01f8b948f119bab04444c2e5b82e6af74f14d0e30b1155b9b573ea", func := "loop.example/fossick/laws.FnQueryOk", spec := "fnQueryOk", recurses := true, named := ["loop.example/fossick/impl.shapes"], maps := true, apart := false, laid := [("loop.example/fossick/impl.shapes", laid_loop_example_fossick_impl_shapes)], narrowed := true }
def FnQueryOkUptoSaid : Prop := fnQueryOkUptoRow.holds Tryd.pinned (OpenSpec.upto fnQueryOkSpec)

/-- 'laws.FnExactQueryOk', WHERE WHAT IT READS IS OF BULK AT MOST 1048576: true; the input reads as it did. -/
def fnExactQueryOkUptoRow : OpenClaim := { program := "ytaobgliimbmemaadoor", sum := "555ae85c1c01f8b948f119bab04444c2e5b82e6af74f14d0e30b1155b9b573ea", func := "loop.example/fossick/laws.FnExactQueryOk", spec := "fnExactQueryOk", recurses := true, named := ["loop.example/fossick/impl.shapes"], maps := true, loops := true, apart := false, laid := [("loop.example/fossick/impl.shapes", laid_loop_example_fossick_impl_shapes)], narrowed := true }
def FnExactQueryOkUptoSaid : Prop := fnExactQueryOkUptoRow.holds Tryd.pinned (OpenSpec.upto fnExactQueryOkSpec)

/-- 'laws.FnExactQueryPut', WHERE WHAT IT READS IS OF BULK AT MOST 1048576: true; the input reads as it did. -/
def fnExactQueryPutUptoRow : OpenClaim := { program := "ytaobgliimbmemaadoor", sum := "555ae85c1c01f8b948f119bab04444c2e5b82e6af74f14d0e30b1155b9b573ea", func := "loop.example/fossick/laws.FnExactQueryPut", spec := "fnExactQueryPut", inPlace := ["internal/abi.NoEscape", "internal/bytealg.MakeNoZero"], recurses := true, named := ["loop.example/fossick/impl.shapes", "loop.example/fossick/impl.opNames", "internal/strconv.uint64pow10", "math/bits.deBruijn32tab", "math/bits.deBruijn64tab"], maps := true, loops := true, apart := false, laid := [("math/bits.deBruijn32tab", laid_math_bits_deBruijn32tab), ("math/bits.deBruijn64tab", laid_math_bits_deBruijn64tab), ("internal/strconv.uint64pow10", laid_internal_strconv_uint64pow10), ("loop.example/fossick/impl.shapes", laid_loop_example_fossick_impl_shapes), ("loop.example/fossick/impl.opNames", laid_loop_example_fossick_impl_opNames)], narrowed := true }
def FnExactQueryPutUptoSaid : Prop := fnExactQueryPutUptoRow.holds Tryd.pinned (OpenSpec.upto fnExactQueryPutSpec)

/-- 'laws.FnSnipTerms', WHERE WHAT IT READS IS OF BULK AT MOST 1048576: true; the input reads as it did. -/
def fnSnipTermsUptoRow : OpenClaim := { program := "ytaobgliimbmemaadoor", sum := "555ae85c1c01f8b948f119bab04444c2e5b82e6af74f14d0e30b1155b9b573ea", func := "loop.example/fossick/laws.FnSnipTerms", spec := "fnSnipTerms", inPlace := ["internal/abi.NoEscape", "internal/bytealg.MakeNoZero"], recurses := true, named := ["loop.example/fossick/impl.shapes"], maps := true, apart := false, laid := [("loop.example/fossick/impl.shapes", laid_loop_example_fossick_impl_shapes)], narrowed := true }
def FnSnipTermsUptoSaid : Prop := fnSnipTermsUptoRow.holds Tryd.pinned (OpenSpec.upto fnSnipTermsSpec)

/-- 'laws.FnExactSnipTerms', WHERE WHAT IT READS IS OF BULK AT MOST 1048576: true; the input reads as it did. -/
def fnExactSnipTermsUptoRow : OpenClaim := { program := "ytaobgliimbmemaadoor", sum := "555ae85c1c01f8b948f119bab04444c2e5b82e6af74f14d0e30b1155b9b573ea", func := "loop.example/fossick/laws.FnExactSnipTerms", spec := "fnExactSnipTerms", inPlace := ["internal/abi.NoEscape", "internal/bytealg.MakeNoZero"], recurses := true, named := ["loop.example/fossick/impl.shapes"], maps := true, loops := true, apart := false, laid := [("loop.example/fossick/impl.shapes", laid_loop_example_fossick_impl_shapes)], narrowed := true }
def FnExactSnipTermsUptoSaid : Prop := fnExactSnipTermsUptoRow.holds Tryd.pinned (OpenSpec.upto fnExactSnipTermsSpec)

end Rows
end Go.Proofs.YtaobgliimbmemaaDoor
