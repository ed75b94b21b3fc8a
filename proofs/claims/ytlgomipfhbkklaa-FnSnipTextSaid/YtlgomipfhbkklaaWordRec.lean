/-
  Words in memory.
-/
import Derived.Test.YtlgomipfhbkklaaWordLaw
import Derived.Test.YtlgomipfhbkklaaCopy
namespace Go.Proofs.Ytlgomipfhbkklaa
open Go.RowKit Go.Sort
set_option linter.unusedVariables false

def encW (d : WordD) : List Value := [.string d.tx, .int .i64 d.at', .int .i64 d.fr, .int .i64 d.to]
theorem encW_ok : Enc encW 4 := ⟨fun _ => rfl, fun a u hu => by simp [encW] at hu; rcases hu with rfl | rfl | rfl | rfl <;> rfl⟩
theorem infoWrd : (Try.prog.info? 51).map (fun i => (i.zero, i.size, i.bytes)) = some (some (.agg #[.string ⟨#[]⟩, .int .i64 0, .int .i64 0, .int .i64 0]), 4, 40) := by kernel_rfl
theorem rowTWrd : RowT Try.prog 47 51 4 40 := rowT_of Try.underlying47 infoWrd rfl
def encTm (d : ByteArray × Nat) : List Value := [.string d.1, .int .i64 d.2]
theorem encTm_ok : Enc encTm 2 := ⟨fun _ => rfl, fun a u hu => by simp [encTm] at hu; rcases hu with rfl | rfl <;> rfl⟩
theorem infoTm : (Try.prog.info? 76).map (fun i => (i.zero, i.size, i.bytes)) = some (some (.agg #[.string ⟨#[]⟩, .int .i64 0]), 2, 24) := by kernel_rfl
theorem rowTTm : RowT Try.prog 30 76 2 24 := rowT_of Try.underlying30 infoTm rfl
end Go.Proofs.Ytlgomipfhbkklaa
