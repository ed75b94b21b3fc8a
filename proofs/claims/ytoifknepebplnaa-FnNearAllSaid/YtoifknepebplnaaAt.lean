/-
  The append to a row of integers of the call's own, with the block that it ends in.
-/
import Derived.Test.YtoifknepebplnaaSpecOr
import Derived.Test.YtoifknepebplnaaRec
namespace Go.Proofs.Ytoifknepebplnaa
open Go.RowKit
set_option linter.unusedVariables false

def enc1 (x : Int) : List Value := [.int .i64 x]
theorem enc1_ok : Enc enc1 1 := ⟨fun _ => rfl, fun a u hu => by simp [enc1] at hu; subst hu; rfl⟩
theorem flat1 (L : List Int) : L.flatMap enc1 = ints L := by
  unfold ints enc1
  induction L with
  | nil => rfl
  | cons x r ih => rw [List.flatMap_cons, ih, List.map_cons]; rfl
theorem rowT1 : RowT Try.prog 22 3 1 8 := rowT_of Try.underlying22 infoInt rfl
theorem Src.e {w : World} {A : Option Addr} {c : Nat} {L : List Int} (h : Src w A c L) : SrcE enc1 1 w A c L := ⟨by rw [flat1]; exact h.1, h.2⟩
section
variable {w : World} {ops : Array Oper} {rest : List Oper} {o : Oper} {a : Act} {Q : Exit → Act → World → Prop}
theorem append_at (hgd : o.guard = none) (s x : Operand) (ho : o.op = .call { callee := .builtin .append, args := #[s, x], argTypes := #[22, 22] })
    (base : Nat) (g n c0 : Nat) (L : List Int) (hn0 : n = L.length) (hs : a.eval s = .slice (some ⟨g, 0, none⟩) n c0) (hown : OwnI w base (.slice (some ⟨g, 0, none⟩) L.length c0) L)
    (A : Option Addr) (m c : Nat) (M : List Int) (hm : m = M.length) (hx : a.eval x = .slice A m c) (hM : Src w A c M) (hn : L.length + M.length ≤ 16777216) (hbase : base ≤ w.heap.size)
    (h : ∀ N, Hid (N = L ++ M) → ∀ g' c' w', OwnI w' base (.slice (some ⟨g', 0, none⟩) N.length c') N → w.grownBy w' (some g) → (g' = g ∨ g' = w.heap.size) → Below base w w' → wpList Try.prog ops Q rest (a.put o.dst (.slice (some ⟨g', 0, none⟩) N.length c')) w') : wpList Try.prog ops Q (o :: rest) a w := by
  subst hn0
  refine append_rec rowT1 enc1_ok (by decide) hgd s x ho base g c0 L hs (by unfold OwnE; rw [flat1]; exact hown) A m c M hm hx hM.e hn (by omega) hbase ?_
  intro N hN g' c' w' h1 h2 h3 h4
  unfold OwnE at h1
  rw [flat1] at h1
  exact h N hN g' c' w' h1 h2 h3 h4
end
end Go.Proofs.Ytoifknepebplnaa
