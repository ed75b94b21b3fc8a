/-
  DERIVED. GIVEN WITH THE SEED: THE CARDS: each row of YtaobgliimbmemaaDoorRows.lean that lists a variable, with what it lists TIED to the program's text (the seventh form; the later family's looks); each row that meets fmt, with fmt's text TOLD by the authors' own Lean function (tested against real Go, not proved from fmt's source: count such statements apart). THE CARD IS WHAT COUNTS. Prove the row's statement (the work); the ties are given (YtaobgliimbmemaaDoorTie.lean); close each card by the builder's one call (the guide's Derived/Test/ToyasCard.lean, 'card_holds'). Laid BY PROGRAM, IN A SANDBOX (cutbox-door.mjs). By AI agents, Wed Nov 11 2026. No macro, syntax, notation, axiom, sorry.
-/
import Derived.Test.YtaobgliimbmemaaDoorRows
import GoSem.ClaimSeven
namespace Go.Proofs.YtaobgliimbmemaaDoor
namespace Rows

/-- THE TIED CARD OF 'laws.FnQueryPut'. -/
def fnQueryPutCard : Claim7 := { stood := { row := fnQueryPutRow, standIns := [], harness := (true, "4d613fbdb4a8294210535088f552dfe9f999f1496160fc5db3e012d7e6ff3f57"), looks := true }, kinds := [], alts := [], laidByText := true, laidKinds := [.data, .data, .data, .data, .sentinel, .sentinel, .mapped, .mapped, .pinned], laidTests := true, laidLooks := .later }
def FnQueryPutCardSaid : Prop := Claim7.holds Tryd.pinned (.plain (OpenSpec.ofChange fnQueryPutSpec)) fnQueryPutCard

/-- THE TIED CARD OF 'laws.FnExactQueryRead'. -/
def fnExactQueryReadCard : Claim7 := { stood := { row := fnExactQueryReadRow, standIns := [], harness := (true, "4d613fbdb4a8294210535088f552dfe9f999f1496160fc5db3e012d7e6ff3f57"), looks := true }, kinds := [], alts := [], laidByText := true, laidKinds := [.data, .data, .data, .data, .sentinel, .sentinel, .mapped, .mapped, .pinned], laidTests := true, laidLooks := .later }
def FnExactQueryReadCardSaid : Prop := Claim7.holds Tryd.pinned (.plain (OpenSpec.ofChange fnExactQueryReadSpec)) fnExactQueryReadCard

/-- THE TIED CARD OF 'laws.FnQueryOk'. -/
def fnQueryOkCard : Claim7 := { stood := { row := fnQueryOkRow, standIns := [], harness := (true, "4d613fbdb4a8294210535088f552dfe9f999f1496160fc5db3e012d7e6ff3f57"), looks := true }, kinds := [], alts := [], laidByText := true, laidKinds := [.mapped], laidTests := true, laidLooks := .later }
def FnQueryOkCardSaid : Prop := Claim7.holds Tryd.pinned (.plain (OpenSpec.ofChange fnQueryOkSpec)) fnQueryOkCard

/-- THE TIED CARD OF 'laws.FnExactQueryOk'. -/
def fnExactQueryOkCard : Claim7 := { stood := { row := fnExactQueryOkRow, standIns := [], harness := (true, "4d613fbdb4a8294210535088f552dfe9f999f1496160fc5db3e012d7e6ff3f57"), looks := true }, kinds := [], alts := [], laidByText := true, laidKinds := [.mapped], laidTests := true, laidLooks := .later }
def FnExactQueryOkCardSaid : Prop := Claim7.holds Tryd.pinned (.plain (OpenSpec.ofChange fnExactQueryOkSpec)) fnExactQueryOkCard

/-- THE TIED CARD OF 'laws.FnExactQueryPut'. -/
def fnExactQueryPutCard : Claim7 := { stood := { row := fnExactQueryPutRow, standIns := [], harness := (true, "4d613fbdb4a8294210535088f552dfe9f999f1496160fc5db3e012d7e6ff3f57"), looks := true }, kinds := [], alts := [], laidByText := true, laidKinds := [.data, .data, .data, .mapped, .mapped], laidTests := true, laidLooks := .later }
def FnExactQueryPutCardSaid : Prop := Claim7.holds Tryd.pinned (.plain (OpenSpec.ofChange fnExactQueryPutSpec)) fnExactQueryPutCard

/-- THE TIED CARD OF 'laws.FnSnipTerms'. -/
def fnSnipTermsCard : Claim7 := { stood := { row := fnSnipTermsRow, standIns := [], harness := (true, "4d613fbdb4a8294210535088f552dfe9f999f1496160fc5db3e012d7e6ff3f57"), looks := true }, kinds := [], alts := [], laidByText := true, laidKinds := [.mapped], laidTests := true, laidLooks := .later }
def FnSnipTermsCardSaid : Prop := Claim7.holds Tryd.pinned (.plain (OpenSpec.ofChange fnSnipTermsSpec)) fnSnipTermsCard

/-- THE TIED CARD OF 'laws.FnExactSnipTerms'. -/
def fnExactSnipTermsCard : Claim7 := { stood := { row := fnExactSnipTermsRow, standIns := [], harness := (true, "4d613fbdb4a8294210535088f552dfe9f999f1496160fc5db3e012d7e6ff3f57"), looks := true }, kinds := [], alts := [], laidByText := true, laidKinds := [.mapped], laidTests := true, laidLooks := .later }
def FnExactSnipTermsCardSaid : Prop := Claim7.holds Tryd.pinned (.plain (OpenSpec.ofChange fnExactSnipTermsSpec)) fnExactSnipTermsCard

/-- THE SECOND FORM's CARD OF 'laws.FnQueryPut'. -/
def fnQueryPutUptoCard : Claim7 := { stood := { row := fnQueryPutUptoRow, standIns := [], harness := (true, "4d613fbdb4a8294210535088f552dfe9f999f1496160fc5db3e012d7e6ff3f57"), looks := true }, kinds := [], alts := [], laidByText := true, laidKinds := [.data, .data, .data, .data, .sentinel, .sentinel, .mapped, .mapped, .pinned], laidTests := true, laidLooks := .later }
def FnQueryPutUptoCardSaid : Prop := Claim7.holds Tryd.pinned (.plain (OpenSpec.upto fnQueryPutSpec)) fnQueryPutUptoCard

/-- THE SECOND FORM's CARD OF 'laws.FnExactQueryRead'. -/
def fnExactQueryReadUptoCard : Claim7 := { stood := { row := fnExactQueryReadUptoRow, standIns := [], harness := (true, "4d613fbdb4a8294210535088f552dfe9f999f1496160fc5db3e012d7e6ff3f57"), looks := true }, kinds := [], alts := [], laidByText := true, laidKinds := [.data, .data, .data, .data, .sentinel, .sentinel, .mapped, .mapped, .pinned], laidTests := true, laidLooks := .later }
def FnExactQueryReadUptoCardSaid : Prop := Claim7.holds Tryd.pinned (.plain (OpenSpec.upto fnExactQueryReadSpec)) fnExactQueryReadUptoCard

/-- THE SECOND FORM's CARD OF 'laws.FnQueryOk'. -/
def fnQueryOkUptoCard : Claim7 := { stood := { row := fnQueryOkUptoRow, standIns := [], harness := (true, "4d613fbdb4a8294210535088f552dfe9f999f1496160fc5db3e012d7e6ff3f57"), looks := true }, kinds := [], alts := [], laidByText := true, laidKinds := [.mapped], laidTests := true, laidLooks := .later }
def FnQueryOkUptoCardSaid : Prop := Claim7.holds Tryd.pinned (.plain (OpenSpec.upto fnQueryOkSpec)) fnQueryOkUptoCard

/-- THE SECOND FORM's CARD OF 'laws.FnExactQueryOk'. -/
def fnExactQueryOkUptoCard : Claim7 := { stood := { row := fnExactQueryOkUptoRow, standIns := [], harness := (true, "4d613fbdb4a8294210535088f552dfe9f999f1496160fc5db3e012d7e6ff3f57"), looks := true }, kinds := [], alts := [], laidByText := true, laidKinds := [.mapped], laidTests := true, laidLooks := .later }
def FnExactQueryOkUptoCardSaid : Prop := Claim7.holds Tryd.pinned (.plain (OpenSpec.upto fnExactQueryOkSpec)) fnExactQueryOkUptoCard

/-- THE SECOND FORM's CARD OF 'laws.FnExactQueryPut'. -/
def fnExactQueryPutUptoCard : Claim7 := { stood := { row := fnExactQueryPutUptoRow, standIns := [], harness := (true, "4d613fbdb4a8294210535088f552dfe9f999f1496160fc5db3e012d7e6ff3f57"), looks := true }, kinds := [], alts := [], laidByText := true, laidKinds := [.data, .data, .data, .mapped, .mapped], laidTests := true, laidLooks := .later }
def FnExactQueryPutUptoCardSaid : Prop := Claim7.holds Tryd.pinned (.plain (OpenSpec.upto fnExactQueryPutSpec)) fnExactQueryPutUptoCard

/-- THE SECOND FORM's CARD OF 'laws.FnSnipTerms'. -/
def fnSnipTermsUptoCard : Claim7 := { stood := { row := fnSnipTermsUptoRow, standIns := [], harness := (true, "4d613fbdb4a8294210535088f552dfe9f999f1496160fc5db3e012d7e6ff3f57"), looks := true }, kinds := [], alts := [], laidByText := true, laidKinds := [.mapped], laidTests := true, laidLooks := .later }
def FnSnipTermsUptoCardSaid : Prop := Claim7.holds Tryd.pinned (.plain (OpenSpec.upto fnSnipTermsSpec)) fnSnipTermsUptoCard

/-- THE SECOND FORM's CARD OF 'laws.FnExactSnipTerms'. -/
def fnExactSnipTermsUptoCard : Claim7 := { stood := { row := fnExactSnipTermsUptoRow, standIns := [], harness := (true, "4d613fbdb4a8294210535088f552dfe9f999f1496160fc5db3e012d7e6ff3f57"), looks := true }, kinds := [], alts := [], laidByText := true, laidKinds := [.mapped], laidTests := true, laidLooks := .later }
def FnExactSnipTermsUptoCardSaid : Prop := Claim7.holds Tryd.pinned (.plain (OpenSpec.upto fnExactSnipTermsSpec)) fnExactSnipTermsUptoCard
end Rows
end Go.Proofs.YtaobgliimbmemaaDoor
