/-
  DERIVED. GIVEN WITH THE SEED: THE CARDS: each row of YtobdkkbackalhaaDoorRows.lean that lists a variable, with what it lists TIED to the program's text (the seventh form; the later family's looks); each row that meets fmt, with fmt's text TOLD by the authors' own Lean function (tested against real Go, not proved from fmt's source: count such statements apart). THE CARD IS WHAT COUNTS. Prove the row's statement (the work); the ties are given (YtobdkkbackalhaaDoorTie.lean); close each card by the builder's one call (the guide's Derived/Test/ToyasCard.lean, 'card_holds'). Laid BY PROGRAM, IN A SANDBOX (cutbox-door.mjs). By AI agents, Wed Nov 11 2026. No macro, syntax, notation, axiom, sorry.
-/
import Derived.Test.YtobdkkbackalhaaDoorRows
import GoSem.ClaimSeven
namespace Go.Proofs.YtobdkkbackalhaaDoor
namespace Rows

/-- THE TIED CARD OF 'laws.FnExactRatOf'. -/
def fnExactRatOfCard : Claim7 := { stood := { row := fnExactRatOfRow, standIns := [], harness := (true, "9fb26da8b8a7b1b30abe90b9df00ad8b569d693d1fea1f51fa88ffdd22e8c7d4"), looks := false }, kinds := [], alts := [], laidByText := true, laidKinds := [.data], laidTests := true, laidLooks := .later }
def FnExactRatOfCardSaid : Prop := Claim7.holds Tryd.pinned (.plain (OpenSpec.ofChange fnExactRatOfSpec)) fnExactRatOfCard

/-- THE TIED CARD OF 'laws.FnExactRatAdd'. -/
def fnExactRatAddCard : Claim7 := { stood := { row := fnExactRatAddRow, standIns := [], harness := (true, "9fb26da8b8a7b1b30abe90b9df00ad8b569d693d1fea1f51fa88ffdd22e8c7d4"), looks := false }, kinds := [], alts := [], laidByText := true, laidKinds := [.data], laidTests := true, laidLooks := .later }
def FnExactRatAddCardSaid : Prop := Claim7.holds Tryd.pinned (.plain (OpenSpec.ofChange fnExactRatAddSpec)) fnExactRatAddCard

/-- THE TIED CARD OF 'laws.FnExactRatMul'. -/
def fnExactRatMulCard : Claim7 := { stood := { row := fnExactRatMulRow, standIns := [], harness := (true, "9fb26da8b8a7b1b30abe90b9df00ad8b569d693d1fea1f51fa88ffdd22e8c7d4"), looks := false }, kinds := [], alts := [], laidByText := true, laidKinds := [.data], laidTests := true, laidLooks := .later }
def FnExactRatMulCardSaid : Prop := Claim7.holds Tryd.pinned (.plain (OpenSpec.ofChange fnExactRatMulSpec)) fnExactRatMulCard

/-- THE TIED CARD OF 'laws.FnExactTermScore'. -/
def fnExactTermScoreCard : Claim7 := { stood := { row := fnExactTermScoreRow, standIns := [], harness := (true, "9fb26da8b8a7b1b30abe90b9df00ad8b569d693d1fea1f51fa88ffdd22e8c7d4"), looks := false }, kinds := [], alts := [], laidByText := true, laidKinds := [.data], laidTests := true, laidLooks := .later }
def FnExactTermScoreCardSaid : Prop := Claim7.holds Tryd.pinned (.plain (OpenSpec.ofChange fnExactTermScoreSpec)) fnExactTermScoreCard

/-- THE TIED CARD OF 'laws.FnRatOf'. -/
def fnRatOfCard : Claim7 := { stood := { row := fnRatOfRow, standIns := [], harness := (true, "9fb26da8b8a7b1b30abe90b9df00ad8b569d693d1fea1f51fa88ffdd22e8c7d4"), looks := false }, kinds := [], alts := [], laidByText := true, laidKinds := [.data], laidTests := true, laidLooks := .later }
def FnRatOfCardSaid : Prop := Claim7.holds Tryd.pinned (.plain (OpenSpec.ofChange fnRatOfSpec)) fnRatOfCard

/-- THE TIED CARD OF 'laws.FnRatOk'. -/
def fnRatOkCard : Claim7 := { stood := { row := fnRatOkRow, standIns := [], harness := (true, "9fb26da8b8a7b1b30abe90b9df00ad8b569d693d1fea1f51fa88ffdd22e8c7d4"), looks := false }, kinds := [], alts := [], laidByText := true, laidKinds := [.data], laidTests := true, laidLooks := .later }
def FnRatOkCardSaid : Prop := Claim7.holds Tryd.pinned (.plain (OpenSpec.ofChange fnRatOkSpec)) fnRatOkCard

/-- THE TIED CARD OF 'laws.FnRatAdd'. -/
def fnRatAddCard : Claim7 := { stood := { row := fnRatAddRow, standIns := [], harness := (true, "9fb26da8b8a7b1b30abe90b9df00ad8b569d693d1fea1f51fa88ffdd22e8c7d4"), looks := false }, kinds := [], alts := [], laidByText := true, laidKinds := [.data], laidTests := true, laidLooks := .later }
def FnRatAddCardSaid : Prop := Claim7.holds Tryd.pinned (.plain (OpenSpec.ofChange fnRatAddSpec)) fnRatAddCard

/-- THE TIED CARD OF 'laws.FnRatMul'. -/
def fnRatMulCard : Claim7 := { stood := { row := fnRatMulRow, standIns := [], harness := (true, "9fb26da8b8a7b1b30abe90b9df00ad8b569d693d1fea1f51fa88ffdd22e8c7d4"), looks := false }, kinds := [], alts := [], laidByText := true, laidKinds := [.data], laidTests := true, laidLooks := .later }
def FnRatMulCardSaid : Prop := Claim7.holds Tryd.pinned (.plain (OpenSpec.ofChange fnRatMulSpec)) fnRatMulCard

/-- THE TIED CARD OF 'laws.FnTermRare'. -/
def fnTermRareCard : Claim7 := { stood := { row := fnTermRareRow, standIns := [], harness := (true, "9fb26da8b8a7b1b30abe90b9df00ad8b569d693d1fea1f51fa88ffdd22e8c7d4"), looks := false }, kinds := [], alts := [], laidByText := true, laidKinds := [.data], laidTests := true, laidLooks := .later }
def FnTermRareCardSaid : Prop := Claim7.holds Tryd.pinned (.plain (OpenSpec.ofChange fnTermRareSpec)) fnTermRareCard

/-- THE TIED CARD OF 'laws.FnTermScore'. -/
def fnTermScoreCard : Claim7 := { stood := { row := fnTermScoreRow, standIns := [], harness := (true, "9fb26da8b8a7b1b30abe90b9df00ad8b569d693d1fea1f51fa88ffdd22e8c7d4"), looks := false }, kinds := [], alts := [], laidByText := true, laidKinds := [.data], laidTests := true, laidLooks := .later }
def FnTermScoreCardSaid : Prop := Claim7.holds Tryd.pinned (.plain (OpenSpec.ofChange fnTermScoreSpec)) fnTermScoreCard

/-- THE SECOND FORM's CARD OF 'laws.FnExactRatOf'. -/
def fnExactRatOfUptoCard : Claim7 := { stood := { row := fnExactRatOfUptoRow, standIns := [], harness := (true, "9fb26da8b8a7b1b30abe90b9df00ad8b569d693d1fea1f51fa88ffdd22e8c7d4"), looks := false }, kinds := [], alts := [], laidByText := true, laidKinds := [.data], laidTests := true, laidLooks := .later }
def FnExactRatOfUptoCardSaid : Prop := Claim7.holds Tryd.pinned (.plain (OpenSpec.upto fnExactRatOfSpec)) fnExactRatOfUptoCard

/-- THE SECOND FORM's CARD OF 'laws.FnExactRatAdd'. -/
def fnExactRatAddUptoCard : Claim7 := { stood := { row := fnExactRatAddUptoRow, standIns := [], harness := (true, "9fb26da8b8a7b1b30abe90b9df00ad8b569d693d1fea1f51fa88ffdd22e8c7d4"), looks := false }, kinds := [], alts := [], laidByText := true, laidKinds := [.data], laidTests := true, laidLooks := .later }
def FnExactRatAddUptoCardSaid : Prop := Claim7.holds Tryd.pinned (.plain (OpenSpec.upto fnExactRatAddSpec)) fnExactRatAddUptoCard

/-- THE SECOND FORM's CARD OF 'laws.FnExactRatMul'. -/
def fnExactRatMulUptoCard : Claim7 := { stood := { row := fnExactRatMulUptoRow, standIns := [], harness := (true, "9fb26da8b8a7b1b30abe90b9df00ad8b569d693d1fea1f51fa88ffdd22e8c7d4"), looks := false }, kinds := [], alts := [], laidByText := true, laidKinds := [.data], laidTests := true, laidLooks := .later }
def FnExactRatMulUptoCardSaid : Prop := Claim7.holds Tryd.pinned (.plain (OpenSpec.upto fnExactRatMulSpec)) fnExactRatMulUptoCard

/-- THE SECOND FORM's CARD OF 'laws.FnExactTermScore'. -/
def fnExactTermScoreUptoCard : Claim7 := { stood := { row := fnExactTermScoreUptoRow, standIns := [], harness := (true, "9fb26da8b8a7b1b30abe90b9df00ad8b569d693d1fea1f51fa88ffdd22e8c7d4"), looks := false }, kinds := [], alts := [], laidByText := true, laidKinds := [.data], laidTests := true, laidLooks := .later }
def FnExactTermScoreUptoCardSaid : Prop := Claim7.holds Tryd.pinned (.plain (OpenSpec.upto fnExactTermScoreSpec)) fnExactTermScoreUptoCard

/-- THE SECOND FORM's CARD OF 'laws.FnRatOf'. -/
def fnRatOfUptoCard : Claim7 := { stood := { row := fnRatOfUptoRow, standIns := [], harness := (true, "9fb26da8b8a7b1b30abe90b9df00ad8b569d693d1fea1f51fa88ffdd22e8c7d4"), looks := false }, kinds := [], alts := [], laidByText := true, laidKinds := [.data], laidTests := true, laidLooks := .later }
def FnRatOfUptoCardSaid : Prop := Claim7.holds Tryd.pinned (.plain (OpenSpec.upto fnRatOfSpec)) fnRatOfUptoCard

/-- THE SECOND FORM's CARD OF 'laws.FnRatOk'. -/
def fnRatOkUptoCard : Claim7 := { stood := { row := fnRatOkUptoRow, standIns := [], harness := (true, "9fb26da8b8a7b1b30abe90b9df00ad8b569d693d1fea1f51fa88ffdd22e8c7d4"), looks := false }, kinds := [], alts := [], laidByText := true, laidKinds := [.data], laidTests := true, laidLooks := .later }
def FnRatOkUptoCardSaid : Prop := Claim7.holds Tryd.pinned (.plain (OpenSpec.upto fnRatOkSpec)) fnRatOkUptoCard

/-- THE SECOND FORM's CARD OF 'laws.FnRatAdd'. -/
def fnRatAddUptoCard : Claim7 := { stood := { row := fnRatAddUptoRow, standIns := [], harness := (true, "9fb26da8b8a7b1b30abe90b9df00ad8b569d693d1fea1f51fa88ffdd22e8c7d4"), looks := false }, kinds := [], alts := [], laidByText := true, laidKinds := [.data], laidTests := true, laidLooks := .later }
def FnRatAddUptoCardSaid : Prop := Claim7.holds Tryd.pinned (.plain (OpenSpec.upto fnRatAddSpec)) fnRatAddUptoCard

/-- THE SECOND FORM's CARD OF 'laws.FnRatMul'. -/
def fnRatMulUptoCard : Claim7 := { stood := { row := fnRatMulUptoRow, standIns := [], harness := (true, "9fb26da8b8a7b1b30abe90b9df00ad8b569d693d1fea1f51fa88ffdd22e8c7d4"), looks := false }, kinds := [], alts := [], laidByText := true, laidKinds := [.data], laidTests := true, laidLooks := .later }
def FnRatMulUptoCardSaid : Prop := Claim7.holds Tryd.pinned (.plain (OpenSpec.upto fnRatMulSpec)) fnRatMulUptoCard

/-- THE SECOND FORM's CARD OF 'laws.FnTermRare'. -/
def fnTermRareUptoCard : Claim7 := { stood := { row := fnTermRareUptoRow, standIns := [], harness := (true, "9fb26da8b8a7b1b30abe90b9df00ad8b569d693d1fea1f51fa88ffdd22e8c7d4"), looks := false }, kinds := [], alts := [], laidByText := true, laidKinds := [.data], laidTests := true, laidLooks := .later }
def FnTermRareUptoCardSaid : Prop := Claim7.holds Tryd.pinned (.plain (OpenSpec.upto fnTermRareSpec)) fnTermRareUptoCard

/-- THE SECOND FORM's CARD OF 'laws.FnTermScore'. -/
def fnTermScoreUptoCard : Claim7 := { stood := { row := fnTermScoreUptoRow, standIns := [], harness := (true, "9fb26da8b8a7b1b30abe90b9df00ad8b569d693d1fea1f51fa88ffdd22e8c7d4"), looks := false }, kinds := [], alts := [], laidByText := true, laidKinds := [.data], laidTests := true, laidLooks := .later }
def FnTermScoreUptoCardSaid : Prop := Claim7.holds Tryd.pinned (.plain (OpenSpec.upto fnTermScoreSpec)) fnTermScoreUptoCard
end Rows
end Go.Proofs.YtobdkkbackalhaaDoor
