/-
  A map of the call's own with integers as keys: a set (map[int]bool).
-/
import Derived.Test.YtbmbejomodkabaaRec
import Derived.Test.YtbmbejomodkabaaInts
import Derived.Maps.OwnOps
import Derived.Maps.OwnSet
import Derived.Maps.Views
import Derived.Carry
namespace Go.Proofs.Ytbmbejomodkabaa
open Go.RowKit Go.Maps
set_option linter.unusedVariables false

theorem keyedI : Keyed Try.prog 3 := int_keyed Try.underlying3
theorem keyI {x : Int} (hw : (Lit.int .i64 x).wf = true) : keyOf Try.prog 3 (.int .i64 x) = some (.int .i64 x) := keyOf_int_mk Try.underlying3 hw
theorem wf_small {x : Int} (h0 : -9223372036854775808 ≤ x) (h1 : x ≤ 9223372036854775807) : (Lit.int .i64 x).wf = true := by
  exact Go.WalkArith.wf_i64 ⟨h0, h1⟩
theorem plainElem_bool_inv {H : Type} {P : Program} {e : TypeId} (he : P.underlying e = some .bool) {v : Value} {z : DataW H × List MemPlace} (h : plainElem P e v = some z) : ∃ x, v = .bool x ∧ z = (.lit (.bool x), []) := by
  unfold plainElem at h
  rw [he] at h
  cases v <;> simp at h
  exact ⟨_, rfl, h.symm⟩
theorem lit_inj {a b : Int} (h : (DataW.lit (.int .i64 a) : DataW Unit) = .lit (.int .i64 b)) : a = b := by
  injection h with h
  injection h
theorem litB_inj {a b : Bool} (h : (DataW.lit (.bool a) : DataW Unit) = .lit (.bool b)) : a = b := by
  injection h with h
  injection h
theorem lit_ne {a b : Int} (h : a ≠ b) : Lit.int .i64 a ≠ Lit.int .i64 b := by intro e; injection e with _ e; exact h e
theorem keyLit (a : Int) : WideAt.IsKeyLit (.int .i64 a) := trivial
theorem zeroB (w : World) : (zeroValue 4).run Try.prog w = .ok (.bool false) w := by kernel_rfl
/-- block b is a map that holds the numbers seen. -/
def SetM (w : World) (b n : Nat) (seen : List Int) : Prop :=
  ∃ D : DataW Unit, w.ownsMap Try.prog 3 (plainElem Try.prog 4) b n D ∧ ∀ x : Int, D.atKey (.int .i64 x) (.lit (.bool false)) = .lit (.bool (inB seen x))
theorem SetM.look {w : World} {b n : Nat} {seen : List Int} (h : SetM w b n seen) {x : Int} (hw : (Lit.int .i64 x).wf = true) :
    (Instr.lookup 57 (.map (some b)) (.int .i64 x) false).run Try.prog w = .ok (.bool (inB seen x)) w := by
  obtain ⟨D, hown, hat⟩ := h
  obtain ⟨v, ps, hrun, hv⟩ := hown.lookup keyedI Try.underlying57 (zeroB w) (plainElem_bool Try.underlying4 false) (keyI hw)
  rw [hat x] at hv
  obtain ⟨y, rfl, e⟩ := plainElem_bool_inv Try.underlying4 hv
  rw [hrun, litB_inj (congrArg Prod.fst e)]
theorem SetM.put {w : World} {b n : Nat} {seen : List Int} (h : SetM w b n seen) {x : Int} (hw : (Lit.int .i64 x).wf = true) (hn : n < maxLen) :
    ∃ w', (Instr.mapUpdate 57 (.map (some b)) (.int .i64 x) (.bool true)).run Try.prog w = .ok () w' ∧ SetM w' b (n + 1) (seen ++ [x]) ∧ w.grownBy w' (some b) := by
  obtain ⟨D, hown, hat⟩ := h
  obtain ⟨w', hrun, ho, hg⟩ := hown.update keyedI Try.underlying57 hn (keyI hw) (plainElem_bool Try.underlying4 true)
  refine ⟨w', hrun, ⟨_, ho, fun y => ?_⟩, hg⟩
  by_cases e : y = x
  · subst e
    rw [atKey_put_same hown.isMap (keyLit _)]
    simp [inB]
  · rw [atKey_put_other (lit_ne e), hat y]
    unfold inB
    simp [e]
theorem SetM.made (w : World) : SetM (w.alloc (.map #[] 0)) w.heap.size 0 [] := ⟨_, World.ownsMap_made w _ _ _, fun x => rfl⟩
theorem SetM.kept {w w' : World} {b n : Nat} {seen : List Int} {row : Option Nat} (h : SetM w b n seen) (hg : w.grownBy w' row) (hne : some b ≠ row) : SetM w' b n seen := by
  obtain ⟨D, hown, hat⟩ := h
  exact ⟨D, hown.kept hg hne, hat⟩
theorem SetM.below {w w' : World} {b n : Nat} {seen : List Int} (h : SetM w b n seen) (hb : Below w.heap.size w w') : SetM w' b n seen :=
  h.kept (row := none) ⟨hb.os, hb.tape, hb.output, hb.size, fun k hk _ => hb.block k hk⟩ (by simp)
theorem SetM.lt {w : World} {b n : Nat} {seen : List Int} (h : SetM w b n seen) : b < w.heap.size := by obtain ⟨D, hown, _⟩ := h; exact hown.lt
theorem SetM.ne {w : World} {b n base e size m g c : Nat} {seen : List Int} {xs : List Value} (h : SetM w b n seen) (ho : w.ownsRow base e size (.slice (some ⟨g, 0, none⟩) m c) m xs) : b ≠ g := by
  obtain ⟨D, ⟨es, clock, hb, _⟩, _⟩ := h
  rcases ho.2 with ⟨hbad, _⟩ | ⟨g', cap, cur, hv, _, hh, _⟩
  · simp at hbad
  · simp only [Value.slice.injEq, Option.some.injEq, Addr.mk.injEq, and_true, true_and] at hv
    obtain ⟨rfl, _⟩ := hv
    intro e
    subst e
    rw [hb] at hh
    cases hh
end Go.Proofs.Ytbmbejomodkabaa
