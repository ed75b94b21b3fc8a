/-
  Contract of markText.
-/
import Derived.Test.YtaobgliimbmemaaDoorDocs
import Derived.Laws.IdiomStrings
import Derived.Laws.Concat
import Derived.LoopTactic
namespace Go.Proofs.YtaobgliimbmemaaDoor
open Go.RowKit
set_option linter.unusedVariables false

theorem conv_one (w : World) (n : Int) (h0 : 0 ≤ n) (h1 : n ≤ 255) :
    (convert 22 9 (.slice (some ⟨w.heap.size, 0, none⟩) 1 1)).run Tryd.prog (w.alloc (.cells #[.int .u8 n] 5)) = .ok (.string ⟨#[UInt8.ofNat n.toNat]⟩) (w.alloc (.cells #[.int .u8 n] 5)) := by
  have hb : (((UInt8.ofNat n.toNat).toNat : Nat) : Int) = n := by
    rw [UInt8.toNat_ofNat']; omega
  exact run_convert_bytes_back (P := Tryd.prog) _ 22 9 5 ⟨w.heap.size, 0, none⟩ 1 [UInt8.ofNat n.toNat] Tryd.underlying22 Tryd.underlying5 Tryd.underlying9 (fun j hj => by
    rcases j with _ | j
    · simp only [List.getElem_cons_zero, hb]
      simp [go_sem, Addr.add]
    · simp at hj)
theorem markText_any (k : Int) (h0 : 0 ≤ k) (h1 : k ≤ 4611686018427387904) (w : World) :
    Calls Tryd.prog 66 #[.int .i64 k] w fun e w' => ∃ s : ByteArray, e = .returned (.string s) ∧ Below w.heap.size w w' := by
  by_cases hk : k ≤ 0
  · go_enter Tryd.func66, Tryd.ntmps66
    go_wp2
    go_ret
    exact ⟨_, rfl, Below.refl _ _⟩
  · go_enter Tryd.func66, Tryd.ntmps66
    go_wp2_with fail
    go_loopw [0, 3] (fun kv sv wr => ∃ m : Int, kv = .int .i64 m ∧ 0 ≤ m ∧ ∃ s : ByteArray, sv = .string s ∧ (s.size : Int) + m ≤ k ∧ Below w.heap.size w wr) (fun kv _ _ => (intOf kv).toNat)
    case atStart => exact ⟨k, rfl, h0, ⟨#[]⟩, rfl, by simp [ByteArray.size], Below.refl _ _⟩
    case round =>
      obtain ⟨m, rfl, hm0, s, rfl, hs, hB⟩ := hrel
      by_cases hm : 0 < m
      · have hc := conv_one wr (48 + m % 10) (by omega) (by omega)
        have ht : m.tmod 10 = m % 10 := Int.tmod_eq_emod_of_nonneg hm0
        have hq : m.tdiv 10 = m / 10 := Int.tdiv_eq_ediv_of_nonneg hm0
        go_wp2
        refine ⟨⟨m / 10, rfl, by omega, _, rfl, ?_, hB.trans (((Below.refl _ _).alloc (Nat.le_refl _) _).mono hB.size)⟩, by simp [intOf]; omega⟩
        rw [ByteArray.size_append]
        have h1 : (⟨#[UInt8.ofNat (48 + m % 10).toNat]⟩ : ByteArray).size = 1 := rfl
        omega
      · have hsz : ¬ 9223372036854775807 < (⟨#[109]⟩ : ByteArray).size + s.size := by have : (⟨#[109]⟩ : ByteArray).size = 1 := rfl; omega
        go_wp2
        go_ret
        exact ⟨⟨_, rfl⟩, hB⟩
end Go.Proofs.YtaobgliimbmemaaDoor
