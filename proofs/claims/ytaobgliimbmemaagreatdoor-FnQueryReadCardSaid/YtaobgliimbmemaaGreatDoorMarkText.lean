/-
  Contract of markText.
-/
import Derived.Test.YtaobgliimbmemaaGreatDoorDocs
import Derived.Laws.IdiomStrings
import Derived.Laws.Concat
import Derived.LoopTactic
namespace Go.Proofs.YtaobgliimbmemaaGreatDoor
open Go.RowKit
set_option linter.unusedVariables false

theorem conv_one (w : World) (n : Int) (h0 : 0 ≤ n) (h1 : n ≤ 255) :
    (convert 22 9 (.slice (some ⟨w.heap.size, 0, none⟩) 1 1)).run Tryz.prog (w.alloc (.cells #[.int .u8 n] 5)) = .ok (.string ⟨#[UInt8.ofNat n.toNat]⟩) (w.alloc (.cells #[.int .u8 n] 5)) := by
  have hb : (((UInt8.ofNat n.toNat).toNat : Nat) : Int) = n := by
    rw [UInt8.toNat_ofNat']; omega
  exact run_convert_bytes_back (P := Tryz.prog) _ 22 9 5 ⟨w.heap.size, 0, none⟩ 1 [UInt8.ofNat n.toNat] Tryz.underlying22 Tryz.underlying5 Tryz.underlying9 (fun j hj => by
    rcases j with _ | j
    · simp only [List.getElem_cons_zero, hb]
      simp [go_sem, Addr.add]
    · simp at hj)
end Go.Proofs.YtaobgliimbmemaaGreatDoor
