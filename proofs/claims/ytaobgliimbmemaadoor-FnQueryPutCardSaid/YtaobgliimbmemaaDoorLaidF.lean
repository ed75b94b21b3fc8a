/-
  The world of the witness where the pinned table 'unicode/utf8.first' is listed: what the door's own run leaves (XLaidQ), with the table's cells set to the pinned ones (the dump leaves its literal out).
-/
import Derived.Test.YtaobgliimbmemaaDoorLaidQ
import Derived.ProofKit
namespace Go.Proofs.YtaobgliimbmemaaDoor
open Go.RowKit
noncomputable def laidWorldF (os : Os) : World :=
  { laidWorld os with heap := (laidWorld os).heap.setIfInBounds 8 (.cells (Go.Pinned.utf8FirstZ.map fun (n : Nat) => Value.int .u8 n).toArray 204) }
end Go.Proofs.YtaobgliimbmemaaDoor
