/-
  Slices in memory: 'Rds w F A n xs': the slice at A of n elements, F cells each, reads as the cells xs. Plain lemmas on worlds.
-/
import Derived.Test.YtaobgliimbmemaaGreatDoorBase
import Derived.Laws.OwnMore
import Derived.Laws.MakeOwn
import Derived.Deep.Slices
import Derived.Deep.Fields
import Derived.ChangeSame
import Derived.OpenShut
namespace Go.Proofs.YtaobgliimbmemaaGreatDoor
open Go.RowKit
set_option linter.unusedVariables false

def Rds (w : World) (F : Nat) (A : Option Addr) (n : Nat) (xs : List Value) : Prop :=
  xs.length = n * F ∧ (0 < n → ∃ b off, A = some ⟨b, off, none⟩ ∧ b < w.heap.size ∧ ∀ j u, xs[j]? = some u → w.cell? ⟨b, off + j, none⟩ = some u)
theorem Rds.below {w w' : World} {F n : Nat} {A : Option Addr} {xs : List Value} (h : Rds w F A n xs) (hb : Below w.heap.size w w') : Rds w' F A n xs := by
  refine ⟨h.1, fun hn => ?_⟩
  obtain ⟨b, off, e, hlt, hc⟩ := h.2 hn
  exact ⟨b, off, e, Nat.lt_of_lt_of_le hlt hb.size, fun j u hu => (hb.cell (p := ⟨b, off + j, none⟩) hlt).trans (hc j u hu)⟩
theorem Rds.drawn {w : World} {F n : Nat} {A : Option Addr} {xs : List Value} (h : Rds w F A n xs) (q : Nat) : Rds (w.drewN q) F A n xs := h
theorem Rds.none_ (w : World) (F : Nat) (A : Option Addr) : Rds w F A 0 [] := ⟨by simp, fun h => absurd h (by omega)⟩
theorem Rds.own {w : World} {base F n c : Nat} {e : TypeId} {A : Option Addr} {xs : List Value} (h : w.ownsRow base e F (.slice A n c) n xs) : Rds w F A n xs := by
  refine ⟨h.1, fun hn => ?_⟩
  rcases h.2 with ⟨h', h0⟩ | ⟨g, cap, cur, hv, hg, hh, hnc, hcm, hcs, htake⟩
  · omega
  · simp only [Value.slice.injEq] at hv
    obtain ⟨rfl, _, rfl⟩ := hv
    refine ⟨g, 0, rfl, ?_, fun j u hu => ?_⟩
    · rcases Nat.lt_or_ge g w.heap.size with hl | hl
      · exact hl
      · rw [Array.getElem?_eq_none hl] at hh; cases hh
    · have hj : j < n * F := by
        have : j < xs.length := (List.getElem?_eq_some_iff.1 hu).1
        rw [h.1] at this; exact this
      have h2 : w.ownsRow base e F (.slice (some ⟨g, 0, none⟩) n c) n xs := h
      rw [Nat.zero_add, h2.cellAt j hj]
      exact hu
/-- a slice of integers that came in. -/
theorem Rds.row {w : World} {k : IntKind} {a : Option Addr} {len cap : Nat} {zs : List Int} (h : IsRow k w a len cap zs) : Rds w 1 a len ((zs.take len).map (.int k)) ∧ len ≤ cap ∧ cap ≤ maxLen := by
  rcases h with ⟨rfl, rfl, rfl, rfl⟩ | ⟨x, rfl, hl, hm, hz, hcell, hwz⟩
  · exact ⟨⟨by simp, fun h => absurd h (by omega)⟩, by omega, by unfold maxLen; omega⟩
  · refine ⟨⟨by simp; omega, fun h => ?_⟩, hl, hm⟩
    obtain ⟨b, off, spot⟩ := x
    have hspot : spot = none := by
      have h0 := hcell 0 (by omega)
      simpa [Addr.add] using World.cell?_spot h0
    subst hspot
    have hc : ∀ i, i < zs.length → w.cell? ⟨b, off + i, none⟩ = some (.int k (zs.getD i 0)) := fun i hi => by
      have := hcell i hi
      have e : Addr.add ⟨b, off, none⟩ i = ⟨b, off + i, none⟩ := by
        unfold Addr.add; split
        · rename_i h; subst h; rfl
        · rfl
      rwa [e] at this
    refine ⟨b, off, rfl, World.block_lt_of_cell? w _ (hc 0 (by omega)), fun j u hu => ?_⟩
    rw [List.getElem?_map, List.getElem?_take] at hu
    split at hu
    · rename_i hj
      rw [hc j (by omega), List.getD_eq_getElem?_getD]
      rw [List.getElem?_eq_getElem (by omega)] at hu ⊢
      simpa using hu
    · simp at hu
/-- flat cells of a list of records. -/
theorem flat_get {α : Type} {enc : α → List Value} {F : Nat} (hF : ∀ a, (enc a).length = F) : ∀ {zs : List α} {i j : Nat} {a : α}, zs[i]? = some a → j < F → (zs.flatMap enc)[i * F + j]? = (enc a)[j]?
  | [], i, j, a, h, _ => by simp at h
  | z :: zs, 0, j, a, h, hj => by
    simp only [List.getElem?_cons_zero, Option.some.injEq] at h
    subst h
    rw [List.flatMap_cons, Nat.zero_mul, Nat.zero_add, List.getElem?_append_left (by rw [hF]; exact hj)]
  | z :: zs, i + 1, j, a, h, hj => by
    rw [List.getElem?_cons_succ] at h
    rw [List.flatMap_cons, List.getElem?_append_right (by rw [hF, Nat.add_mul]; omega), hF]
    have e : (i + 1) * F + j - F = i * F + j := by rw [Nat.add_mul]; omega
    rw [e]
    exact flat_get hF h hj
theorem flat_len {α : Type} {enc : α → List Value} {F : Nat} (hF : ∀ a, (enc a).length = F) : ∀ zs : List α, (zs.flatMap enc).length = zs.length * F
  | [] => by simp
  | z :: zs => by rw [List.flatMap_cons, List.length_append, hF, flat_len hF zs, List.length_cons, Nat.add_mul]; omega
/-- two integers as cells. -/
def enc2 (p : Int × Int) : List Value := [.int .i64 p.1, .int .i64 p.2]
theorem enc2_len (p : Int × Int) : (enc2 p).length = 2 := rfl
theorem Rds.at2 {w : World} {A : Option Addr} {zs : List (Int × Int)} (h : Rds w 2 A zs.length (zs.flatMap enc2)) {k : Nat} (hk : k < zs.length) :
    ∃ b off, A = some ⟨b, off, none⟩ ∧ b < w.heap.size ∧ w.cell? ⟨b, off + k * 2, none⟩ = some (.int .i64 zs[k].1) ∧ w.cell? ⟨b, off + k * 2 + 1, none⟩ = some (.int .i64 zs[k].2) := by
  obtain ⟨b, off, e, hlt, hc⟩ := h.2 (by omega)
  have hz : zs[k]? = some zs[k] := List.getElem?_eq_getElem hk
  refine ⟨b, off, e, hlt, ?_, ?_⟩
  · have := hc (k * 2 + 0) _ (by rw [flat_get enc2_len hz (by omega)]; rfl)
    simpa using this
  · have := hc (k * 2 + 1) _ (by rw [flat_get enc2_len hz (by omega)]; rfl)
    rwa [← Nat.add_assoc] at this
/-- .. and all its elements at once, of whatever address. -/
theorem Rds.all2 {w : World} {b off : Nat} {zs : List (Int × Int)} (h : Rds w 2 (some ⟨b, off, none⟩) zs.length (zs.flatMap enc2)) {k : Nat} (hk : k < zs.length) :
    b < w.heap.size ∧ w.cell? ⟨b, off + k * 2, none⟩ = some (.int .i64 zs[k].1) ∧ w.cell? ⟨b, off + k * 2 + 1, none⟩ = some (.int .i64 zs[k].2) := by
  obtain ⟨b', off', e, h1, h2, h3⟩ := h.at2 hk
  simp only [Option.some.injEq, Addr.mk.injEq, and_true] at e
  obtain ⟨rfl, rfl⟩ := e
  exact ⟨h1, h2, h3⟩
end Go.Proofs.YtaobgliimbmemaaGreatDoor
