/-
  Words in memory.
-/
import Derived.Test.YtaobgliimbmemaaDoorWordLaw
import Derived.Test.YtaobgliimbmemaaDoorCopy
namespace Go.Proofs.YtaobgliimbmemaaDoor
open Go.RowKit Go.Sort
set_option linter.unusedVariables false

def encW (d : WordD) : List Value := [.string d.tx, .int .i64 d.at', .int .i64 d.fr, .int .i64 d.tgt]
theorem encW_ok : Enc encW 4 := ⟨fun _ => rfl, fun a u hu => by simp [encW] at hu; rcases hu with rfl | rfl | rfl | rfl <;> rfl⟩
theorem infoWrd : (Tryd.prog.info? 132).map (fun i => (i.zero, i.size, i.bytes)) = some (some (.agg #[.string ⟨#[]⟩, .int .i64 0, .int .i64 0, .int .i64 0]), 4, 40) := by kernel_rfl
theorem rowTWrd : RowT Tryd.prog 129 132 4 40 := rowT_of Tryd.underlying129 infoWrd rfl
def encTm (d : ByteArray × Nat) : List Value := [.string d.1, .int .i64 d.2]
theorem encTm_ok : Enc encTm 2 := ⟨fun _ => rfl, fun a u hu => by simp [encTm] at hu; rcases hu with rfl | rfl <;> rfl⟩
theorem infoTm : (Tryd.prog.info? 108).map (fun i => (i.zero, i.size, i.bytes)) = some (some (.agg #[.string ⟨#[]⟩, .int .i64 0]), 2, 24) := by kernel_rfl
theorem rowTTm : RowT Tryd.prog 105 108 2 24 := rowT_of Tryd.underlying105 infoTm rfl
end Go.Proofs.YtaobgliimbmemaaDoor
