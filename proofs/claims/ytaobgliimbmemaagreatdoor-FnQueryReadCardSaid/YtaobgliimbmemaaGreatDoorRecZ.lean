/-
  Rows of records that are filled from the head: plain.
-/
import Derived.Test.YtaobgliimbmemaaGreatDoorMarkText
namespace Go.Proofs.YtaobgliimbmemaaGreatDoor
open Go.RowKit
set_option linter.unusedVariables false

theorem rep_get (zs : List Value) (F : Nat) (hF : zs.length = F) : ∀ n j, ((List.replicate n zs).flatten)[j]? = if j < n * F then zs[j % F]? else none
  | 0, j => by simp
  | n + 1, j => by
    rw [List.replicate_succ, List.flatten_cons, List.getElem?_append]
    by_cases hj : j < F
    · rw [if_pos (by omega), if_pos (by rw [Nat.add_mul]; omega), Nat.mod_eq_of_lt hj]
    · rw [if_neg (by omega), hF, rep_get zs F hF n (j - F), Nat.mod_eq_sub_mod (by omega : F ≤ j)]
      by_cases h2 : j < (n + 1) * F
      · rw [if_pos (by rw [Nat.add_mul] at h2; omega), if_pos h2]
      · rw [if_neg (by rw [Nat.add_mul] at h2; omega), if_neg h2]
theorem made_rep (cs : Array Value) (zs : List Value) (F n : Nat) (hc : cs.toList = zs) (hF : zs.length = F) (hp : 0 < F) : (madeCells cs (n * F)).toList = (List.replicate n zs).flatten := by
  have hcs : cs.size = F := by rw [← Array.length_toList, hc, hF]
  apply List.ext_getElem?
  intro j
  rw [rep_get zs F hF]
  by_cases hj : j < n * F
  · have hm : j % F < F := Nat.mod_lt _ hp
    rw [if_pos hj]
    simp only [madeCells, hcs, Array.toList_map, Array.toList_range, List.getElem?_map, List.getElem?_range hj, Option.map_some]
    rw [getElem!_pos cs (j % F) (by omega), ← hc, Array.getElem?_toList, Array.getElem?_eq_getElem (by omega)]
  · rw [if_neg hj, List.getElem?_eq_none]
    rw [Array.length_toList, size_madeCells]; omega
section
variable {α : Type} {enc : α → List Value} {F : Nat}
/-- the first k records, then the records zs. -/
def fillZ (enc : α → List Value) (zs : List Value) (L : List α) (k : Nat) : List Value := (L.take k).flatMap enc ++ (List.replicate (L.length - k) zs).flatten
theorem fillZ_zero (zs : List Value) (L : List α) : fillZ enc zs L 0 = (List.replicate L.length zs).flatten := by simp [fillZ]
theorem fillZ_all (zs : List Value) (L : List α) : fillZ enc zs L L.length = L.flatMap enc := by simp [fillZ]
theorem fillZ_split (zs : List Value) (L : List α) {k : Nat} (hk : k < L.length) : fillZ enc zs L k = (L.take k).flatMap enc ++ (zs ++ (List.replicate (L.length - (k + 1)) zs).flatten) := by
  unfold fillZ
  rw [show L.length - k = (L.length - (k + 1)) + 1 by omega, List.replicate_succ, List.flatten_cons]
theorem fillZ_next (zs : List Value) (L : List α) {k : Nat} (hk : k < L.length) : fillZ enc zs L (k + 1) = (L.take k).flatMap enc ++ (enc L[k] ++ (List.replicate (L.length - (k + 1)) zs).flatten) := by
  unfold fillZ
  rw [← List.take_append_getElem hk, List.flatMap_append, List.append_assoc]
  simp
theorem take_len (he : Enc enc F) (L : List α) {k : Nat} (hk : k ≤ L.length) : ((L.take k).flatMap enc).length = k * F := by
  rw [he.flat, List.length_take, Nat.min_eq_left hk]
theorem fillZ_get (he : Enc enc F) (zs : List Value) (hF : zs.length = F) (L : List α) {k : Nat} (hk : k < L.length) {j : Nat} (hj : j < F) : (fillZ enc zs L k)[k * F + j]? = zs[j]? := by
  rw [fillZ_split zs L hk, List.getElem?_append_right (by rw [take_len he L (by omega)]; omega), take_len he L (by omega), show k * F + j - k * F = j by omega, List.getElem?_append_left (by omega)]
theorem fillZ_step2 (he : Enc enc 2) (z0 z1 u v : Value) (L : List α) {k : Nat} (hk : k < L.length) (hu : enc L[k] = [u, v]) : ((fillZ enc [z0, z1] L k).set (k * 2) u).set (k * 2 + 1) v = fillZ enc [z0, z1] L (k + 1) := by
  have hl := take_len he L (Nat.le_of_lt hk)
  rw [fillZ_split _ L hk, fillZ_next _ L hk, hu, List.set_append_right _ _ (by omega), hl, Nat.sub_self, List.set_append_right _ _ (by omega), hl, show k * 2 + 1 - k * 2 = 1 by omega]
  rfl
theorem fillZ_step3 (he : Enc enc 3) (z0 z1 z2 u v x : Value) (L : List α) {k : Nat} (hk : k < L.length) (hu : enc L[k] = [u, v, x]) : (((fillZ enc [z0, z1, z2] L k).set (k * 3) u).set (k * 3 + 1) v).set (k * 3 + 2) x = fillZ enc [z0, z1, z2] L (k + 1) := by
  have hl := take_len he L (Nat.le_of_lt hk)
  rw [fillZ_split _ L hk, fillZ_next _ L hk, hu, List.set_append_right _ _ (by omega), hl, Nat.sub_self, List.set_append_right _ _ (by omega), hl, show k * 3 + 1 - k * 3 = 1 by omega, List.set_append_right _ _ (by omega), hl, show k * 3 + 2 - k * 3 = 2 by omega]
  rfl
end
/-! rows that can be written: blocks from s on, below t. -/
def WrR (T F : Nat) (w : World) (s t : Nat) (A : Option Addr) (n : Nat) : Prop := n = 0 ∨ ∃ g cur, A = some ⟨g, 0, none⟩ ∧ s ≤ g ∧ g < t ∧ w.heap[g]? = some (.cells cur T (0, 0)) ∧ n * F ≤ cur.size
theorem heapB_lt {w : World} {g : Nat} {o : Obj} (h : w.heap[g]? = some o) : g < w.heap.size := by
  rcases Nat.lt_or_ge g w.heap.size with hl | hl
  · exact hl
  · rw [Array.getElem?_eq_none hl] at h; cases h
theorem WrR.below {T F : Nat} {w w' : World} {s t n : Nat} {A : Option Addr} (h : WrR T F w s t A n) (hb : Below w.heap.size w w') : WrR T F w' s t A n := by
  rcases h with h | ⟨g, cur, rfl, h1, h2, h3, h4⟩
  · exact .inl h
  · exact .inr ⟨g, cur, rfl, h1, h2, (hb.block g (heapB_lt h3)).trans h3, h4⟩
theorem WrR.mono {T F : Nat} {w : World} {s t s' t' n : Nat} {A : Option Addr} (h : WrR T F w s t A n) (hs : s' ≤ s) (ht : t ≤ t') : WrR T F w s' t' A n := by
  rcases h with h | ⟨g', cur, rfl, h1, h2, h3, h4⟩
  · exact .inl h
  · exact .inr ⟨g', cur, rfl, by omega, by omega, h3, h4⟩
theorem heap_setCell_at (w : World) (g j : Nat) (u : Value) (cur : Array Value) (T : TypeId) (h : w.heap[g]? = some (.cells cur T (0, 0))) : ∃ cur', (w.setCell ⟨g, j, none⟩ u).heap[g]? = some (.cells cur' T (0, 0)) ∧ cur'.size = cur.size ∧ ∀ i, i ≠ j → cur'[i]? = cur[i]? := by
  have hg := heapB_lt h
  have e : (w.setCell ⟨g, j, none⟩ u).heap[g]? = some (.cells (cur.setIfInBounds j u) T (0, 0)) := by
    simp only [World.setCell]
    rw [Array.getElem?_modify]
    simp [h]
  exact ⟨_, e, by simp, fun i hi => by rw [Array.getElem?_setIfInBounds_ne (by omega)]⟩
theorem WrR.set {T F : Nat} {w : World} {s t g j n : Nat} {A : Option Addr} (h : WrR T F w s t A n) (u : Value) : WrR T F (w.setCell ⟨g, j, none⟩ u) s t A n := by
  rcases h with h | ⟨g', cur, rfl, h1, h2, h3, h4⟩
  · exact .inl h
  · by_cases e : g' = g
    · subst e
      obtain ⟨cur', e1, e2, _⟩ := heap_setCell_at w g' j u cur T h3
      exact .inr ⟨g', cur', rfl, h1, h2, e1, by omega⟩
    · exact .inr ⟨g', cur, rfl, h1, h2, (Below.heap_setCell w _ _ g' e).trans h3, h4⟩
theorem WrR.own {α : Type} {enc : α → List Value} {T F : Nat} {w : World} {base g c t : Nat} {L : List α} (h : OwnE enc T F w base g c L) (ht : w.heap.size ≤ t) : WrR T F w base t (some ⟨g, 0, none⟩) L.length := by
  rcases h.2 with ⟨h', h0⟩ | ⟨g', cap, cur, hv, hg, hh, hnc, hcm, hcs, htake⟩
  · exact .inl h0
  · have h1 := (h.lt g rfl).2
    simp only [Value.slice.injEq, Option.some.injEq, Addr.mk.injEq, and_true, true_and] at hv
    obtain ⟨rfl, rfl⟩ := hv
    exact .inr ⟨_, cur, rfl, hg, by omega, hh, by rw [hcs]; exact Nat.mul_le_mul hnc (Nat.le_refl _)⟩
/-- outside the blocks from s on, below t, w' is as w was. -/
def ZoneR (s t : Nat) (w w' : World) : Prop := (w'.os = w.os ∧ w'.tape = w.tape ∧ w'.output = w.output) ∧ w.heap.size ≤ w'.heap.size ∧ ∀ k, k < w.heap.size → (k < s ∨ t ≤ k) → w'.heap[k]? = w.heap[k]?
theorem ZoneR.refl (s t : Nat) (w : World) : ZoneR s t w w := ⟨⟨rfl, rfl, rfl⟩, Nat.le_refl _, fun _ _ _ => rfl⟩
theorem ZoneR.trans {s t : Nat} {a b c : World} (h : ZoneR s t a b) (k : ZoneR s t b c) : ZoneR s t a c :=
  ⟨⟨k.1.1.trans h.1.1, k.1.2.1.trans h.1.2.1, k.1.2.2.trans h.1.2.2⟩, Nat.le_trans h.2.1 k.2.1, fun i hi hn => (k.2.2 i (Nat.lt_of_lt_of_le hi h.2.1) hn).trans (h.2.2 i hi hn)⟩
theorem ZoneR.setCell {s t g j : Nat} (w : World) (u : Value) (h1 : s ≤ g) (h2 : g < t) : ZoneR s t w (w.setCell ⟨g, j, none⟩ u) :=
  ⟨⟨rfl, rfl, rfl⟩, by simp [World.setCell], fun k _ hn => Below.heap_setCell w _ u k (by show k ≠ g; omega)⟩
theorem ZoneR.of {s t : Nat} {w w' : World} (h : Below w.heap.size w w') : ZoneR s t w w' := ⟨⟨h.os, h.tape, h.output⟩, h.size, fun k hk _ => h.block k hk⟩
theorem ZoneR.below {s t B : Nat} {w w' : World} (h : ZoneR s t w w') (hs : B ≤ s) (hB : B ≤ w.heap.size) : Below B w w' :=
  ⟨h.1.1, h.1.2.1, h.1.2.2, h.2.1, fun k hk => h.2.2 k (by omega) (.inl (by omega))⟩
theorem own_zoneR {w w' : World} {s t base e size n : Nat} {v : Value} {xs : List Value} (h : w.ownsRow base e size v n xs) (hz : ZoneR s t w w') (hne : ∀ k, v.ownBlock = some k → k < s ∨ t ≤ k) : w'.ownsRow base e size v n xs := by
  rcases h.2 with ⟨h', h0⟩ | ⟨g, cap, cur, hv, hg, hh, hnc, hcm, hcs, htake⟩
  · exact ⟨h.1, .inl ⟨h', h0⟩⟩
  · subst hv
    exact ⟨h.1, .inr ⟨g, cap, cur, rfl, hg, (hz.2.2 g (h.lt g rfl).2 (hne g rfl)).trans hh, hnc, hcm, hcs, htake⟩⟩
/-- what a marking of rows of type T keeps: all blocks of other types, and that rows can be written. -/
def KeepT (T : Nat) (w w' : World) : Prop := ∀ (b : Nat) (cur : Array Value) (T' : TypeId), T' ≠ T → w.heap[b]? = some (.cells cur T' (0, 0)) → w'.heap[b]? = some (.cells cur T' (0, 0))
def KeepR (s t : Nat) (w w' : World) : Prop := ∀ (T F : Nat) (A : Option Addr) (n : Nat), WrR T F w s t A n → WrR T F w' s t A n
theorem KeepR.refl (s t : Nat) (w : World) : KeepR s t w w := fun _ _ _ _ h => h
theorem KeepT.refl (T : Nat) (w : World) : KeepT T w w := fun _ _ _ _ h => h
theorem KeepR.of {s t : Nat} {w w' : World} (h : Below w.heap.size w w') : KeepR s t w w' := fun _ _ _ _ h2 => h2.below h
theorem KeepT.of {T : Nat} {w w' : World} (h : Below w.heap.size w w') : KeepT T w w' := fun b _ _ _ h2 => (h.block b (heapB_lt h2)).trans h2
theorem KeepR.set {s t : Nat} (w : World) (p : Addr) (u : Value) (hp : p.spot = none) : KeepR s t w (w.setCell p u) := fun _ _ _ _ h => by
  obtain ⟨g, j, sp⟩ := p
  obtain rfl : sp = none := hp
  exact h.set u
theorem KeepT.set {T g j : Nat} {w : World} {cur : Array Value} (hg : w.heap[g]? = some (.cells cur T (0, 0))) (u : Value) : KeepT T w (w.setCell ⟨g, j, none⟩ u) := fun b cur' T' hne h => by
  by_cases e : b = g
  · subst e
    rw [hg] at h
    injection h with h
    injection h with _ h
    exact absurd h.symm hne
  · exact (Below.heap_setCell w _ _ b e).trans h
theorem KeepR.trans {s t : Nat} {a b c : World} (h : KeepR s t a b) (k : KeepR s t b c) : KeepR s t a c := fun T F A n h2 => k T F A n (h T F A n h2)
theorem KeepT.trans {T : Nat} {a b c : World} (h : KeepT T a b) (k : KeepT T b c) : KeepT T a c := fun g cur T' hne h2 => k g cur T' hne (h g cur T' hne h2)
end Go.Proofs.YtaobgliimbmemaaGreatDoor
