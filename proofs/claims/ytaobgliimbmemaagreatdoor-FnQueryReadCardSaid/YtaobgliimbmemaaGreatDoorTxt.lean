/-
  Contracts of what the exact laws call on rows of texts: szStringS, toStringS, eqStringS.
-/
import Derived.Test.YtaobgliimbmemaaGreatDoorConfKit
import Derived.Test.YtaobgliimbmemaaGreatDoorRecZ
namespace Go.Proofs.YtaobgliimbmemaaGreatDoor
open Go.RowKit Go.Sort
set_option linter.unusedVariables false

def SzE (left : Int) (Q : Prop) (w : World) (e : Ending) (w' : World) : Prop := ∃ r : Int, (e = .returned (.int .i64 r) ∧ r ≤ left ∧ (r < 0 ∨ Q)) ∧ Below w.heap.size w w'
theorem info_partsZ {P : Program} {t : TypeId} {z : Option Value} {s b : Nat} (h : (P.info? t).map (fun i => (i.zero, i.size, i.bytes)) = some (z, s, b)) : ∃ i, P.info? t = some i ∧ i.zero = z ∧ i.size = s ∧ i.bytes = b := by
  cases hi : P.info? t with
  | none => rw [hi] at h; cases h
  | some i =>
    rw [hi] at h
    simp only [Option.map_some, Option.some.injEq, Prod.mk.injEq] at h
    exact ⟨i, rfl, h.1, h.2.1, h.2.2⟩
theorem own_belowZ {w w' : World} {base e size n : Nat} {v : Value} {xs : List Value} (h : w.ownsRow base e size v n xs) (hb : Below w.heap.size w w') : w'.ownsRow base e size v n xs :=
  h.kept (row := none) ⟨hb.os, hb.tape, hb.output, hb.size, fun k hk _ => hb.block k hk⟩ (Classical.em _)
theorem own_monoZ {w : World} {base base' e size n : Nat} {v : Value} {xs : List Value} (h : w.ownsRow base e size v n xs) (hb : base' ≤ base) : w.ownsRow base' e size v n xs :=
  ⟨h.1, h.2.imp id fun ⟨g, cap, cur, h1, h2, h3⟩ => ⟨g, cap, cur, h1, Nat.le_trans hb h2, h3⟩⟩
theorem infoStr : (Tryz.prog.info? 9).map (fun i => (i.zero, i.size, i.bytes)) = some (some (.string ⟨#[]⟩), 1, 16) := by kernel_rfl
theorem rowTStr : RowT Tryz.prog 24 9 1 16 := rowT_of Tryz.underlying24 infoStr rfl
abbrev OwnT (w : World) (base g c : Nat) (L : List ByteArray) : Prop := OwnE encT 9 1 w base g c L
theorem fillZ_step1 {α : Type} {enc : α → List Value} (he : Enc enc 1) (z0 u : Value) (L : List α) {k : Nat} (hk : k < L.length) (hu : enc L[k] = [u]) : (fillZ enc [z0] L k).set k u = fillZ enc [z0] L (k + 1) := by
  have hl := take_len he L (Nat.le_of_lt hk)
  rw [Nat.mul_one] at hl
  rw [fillZ_split _ L hk, fillZ_next _ L hk, hu, List.set_append_right _ _ (by omega), hl, Nat.sub_self]
  rfl
end Go.Proofs.YtaobgliimbmemaaGreatDoor
