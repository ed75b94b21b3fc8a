/-
  Contracts of what the exact laws call on rows of impl.Syn: szSynS, toSynS, eqSynS.
-/
import Derived.Test.YtaobgliimbmemaaGreatDoorTxt
namespace Go.Proofs.YtaobgliimbmemaaGreatDoor
open Go.RowKit Go.Sort
set_option linter.unusedVariables false

structure BgY (y : SynD) : Prop where
  fl : y.fr.length ≤ 9223372036854775807
  f1 : ∀ s ∈ y.fr, s.size ≤ 9223372036854775807
  t1 : y.tgt.size ≤ 9223372036854775807
theorem belowL {B : Nat} {w w' : World} (h : Below B w w') {b o : Nat} (hb : b < B) : w'.cell? ⟨b, o, none⟩ = w.cell? ⟨b, o, none⟩ := h.cell (p := ⟨b, o, none⟩) hb
theorem belowZ {B : Nat} {w w' : World} (h : Below B w w') {b o : Nat} (hb : b < B) : w'.frozen? ⟨b, o, none⟩ = w.frozen? ⟨b, o, none⟩ := h.frozen (p := ⟨b, o, none⟩) hb
/-- the header of a record in a row of the call's own. -/
structure HdY where
  g : Nat
  c : Nat
  y : SynD
def encH (h : HdY) : List Value := [.slice (some ⟨h.g, 0, none⟩) h.y.fr.length h.c, .string h.y.tgt]
theorem encH_ok : Enc encH 2 := ⟨fun _ => rfl, fun a u hu => by simp [encH] at hu; rcases hu with rfl | rfl <;> rfl⟩
def zsY : List Value := [.slice none 0 0, .string ⟨#[]⟩]
def fillH (hv : List HdY) (n : Nat) : List Value := hv.flatMap encH ++ (List.replicate (n - hv.length) zsY).flatten
theorem fillH_nil (n : Nat) : fillH [] n = (List.replicate n zsY).flatten := by simp [fillH]
theorem fillH_all {hv : List HdY} {n : Nat} (h : hv.length = n) : fillH hv n = hv.flatMap encH := by simp [fillH, h]
theorem fillH_get {hv : List HdY} {n k : Nat} (h : hv.length = k) (hk : k < n) {j : Nat} (hj : j < 2) : (fillH hv n)[k * 2 + j]? = zsY[j]? := by
  have hl : (hv.flatMap encH).length = k * 2 := by rw [encH_ok.flat, h]
  unfold fillH
  rw [show n - hv.length = (n - (k + 1)) + 1 by omega, List.replicate_succ, List.flatten_cons, List.getElem?_append_right (by omega), hl, show k * 2 + j - k * 2 = j by omega, List.getElem?_append_left (by simp [zsY]; omega)]
theorem fillH_step {hv : List HdY} {n k : Nat} (h : hv.length = k) (hk : k < n) (m : HdY) : ((fillH hv n).set (k * 2) (.slice (some ⟨m.g, 0, none⟩) m.y.fr.length m.c)).set (k * 2 + 1) (.string m.y.tgt) = fillH (hv ++ [m]) n := by
  have hl : (hv.flatMap encH).length = k * 2 := by rw [encH_ok.flat, h]
  unfold fillH
  rw [show n - hv.length = (n - (k + 1)) + 1 by omega, List.replicate_succ, List.flatten_cons, List.set_append_right _ _ (by omega), hl, Nat.sub_self, List.set_append_right _ _ (by omega), hl, show k * 2 + 1 - k * 2 = 1 by omega, List.flatMap_append, List.append_assoc, List.length_append, h]
  rfl
/-- rows of the call's own that the headers point to, no two the same. -/
structure OwnH (w : World) (s : Nat) (hv : List HdY) : Prop where
  own : ∀ h ∈ hv, OwnT w s h.g h.c h.y.fr
  dif : (hv.map (·.g)).Nodup
theorem OwnH.nil (w : World) (s : Nat) : OwnH w s [] := ⟨fun h hh => by simp at hh, by simp⟩
theorem OwnH.below {w w' : World} {s : Nat} {hv : List HdY} (h : OwnH w s hv) (hb : Below w.heap.size w w') : OwnH w' s hv := ⟨fun m hm => own_belowZ (h.own m hm) hb, h.dif⟩
theorem OwnH.lt {w : World} {s : Nat} {hv : List HdY} (h : OwnH w s hv) : ∀ m ∈ hv, s ≤ m.g ∧ m.g < w.heap.size := fun m hm => ⟨(OwnE.capOk (h.own m hm)).2.2.1, (OwnE.capOk (h.own m hm)).2.2.2⟩
/-- .. under a store to a row of another type. -/
theorem OwnH.kept {w w' : World} {s b2 g c n E F : Nat} {hv : List HdY} {xs : List Value} (h : OwnH w s hv) (hE : 9 ≠ E) (ho : w.ownsRow b2 E F (.slice (some ⟨g, 0, none⟩) n c) n xs) (hg : w.grownBy w' (some g)) : OwnH w' s hv :=
  ⟨fun m hm => own_other (h.own m hm) hg (own_ne (h.own m hm) ho hE _ _ rfl rfl), h.dif⟩
theorem OwnH.snoc {w : World} {s : Nat} {hv : List HdY} {m : HdY} (h : OwnH w s hv) (h1 : OwnT w s m.g m.c m.y.fr) (h2 : ∀ x ∈ hv, x.g ≠ m.g) : OwnH w s (hv ++ [m]) := by
  refine ⟨fun x hx => ?_, ?_⟩
  · rcases List.mem_append.1 hx with hx | hx
    · exact h.own x hx
    · simp at hx; subst hx; exact h1
  · rw [List.map_append, List.nodup_append]
    refine ⟨h.dif, by simp, fun a ha b hb => ?_⟩
    obtain ⟨x, hx, rfl⟩ := List.mem_map.1 ha
    simp at hb
    subst hb
    exact h2 x hx
end Go.Proofs.YtaobgliimbmemaaGreatDoor
