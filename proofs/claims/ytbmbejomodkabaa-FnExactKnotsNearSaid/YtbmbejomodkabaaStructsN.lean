/-
  A slice of structs all of whose cells are integers, that came in, opened.
-/
import Derived.Test.YtbmbejomodkabaaRecsN
import Derived.Deep.OwnShut
namespace Go.Proofs.Ytbmbejomodkabaa
open Go.RowKit Go.ChangeShapes Go.WideShapes Go.Deep
set_option linter.unusedVariables false

def unI : Value → Int
  | .int _ n => n
  | _ => 0
theorem ints_of {cs : List Value} (h : ∀ j, j < cs.length → ∃ v : Int, cs[j]? = some (.int .i64 v)) : cs = ints (cs.map unI) := by
  apply List.ext_getElem?
  intro j
  by_cases hj : j < cs.length
  · obtain ⟨v, hv⟩ := h j hj
    rw [hv]
    unfold ints
    rw [List.getElem?_map, List.getElem?_map, hv]
    rfl
  · rw [List.getElem?_eq_none (by omega), List.getElem?_eq_none (by simp [ints]; omega)]
section
variable {H : Type} {enc : TypeId × Value → H} {P : Program} {w : World} {base : Nat} {spare : Nat → Bool} {held : Bool}
/-- a type all of whose cells are integers. -/
def IntsT (enc : TypeId × Value → H) (P : Program) (w : World) (base : Nat) (spare : Nat → Bool) (held : Bool) (t : TypeId) : Prop :=
  ∀ n cs x, DataW.trod enc P w base spare held n t cs = some x → ∀ j, j < cs.length → ∃ v : Int, cs[j]? = some (.int .i64 v)
theorem intsT_int {t : TypeId} (ht : P.underlying t = some (.int .i64)) : IntsT enc P w base spare held t := by
  intro n cs x h j hj
  obtain ⟨v, e, _, _⟩ := DataW.trod_int ht h
  subst e
  simp at hj
  subst hj
  exact ⟨v, rfl⟩
theorem intsT_struct {t : TypeId} {fs : Array Field} (ht : P.underlying t = some (.struct fs))
    (hc : ∀ j, j < P.cellsOf t → ∃ (i : Nat) (f : Field), fs[i]? = some f ∧ f.offset ≤ j ∧ j < f.offset + P.cellsOf f.type ∧ IntsT enc P w base spare held f.type) : IntsT enc P w base spare held t := by
  intro n cs x h j hj
  obtain ⟨xs, n', _, _, hl, hxl, hf⟩ := DataW.trod_struct ht h
  obtain ⟨i, f, hi, h1, h2, hI⟩ := hc j (by omega)
  have h3 := hf i f hi
  have hil : i < xs.length := by rw [hxl]; exact (Array.getElem?_eq_some_iff.1 hi).1
  rw [List.getElem?_eq_getElem hil] at h3
  obtain ⟨v, hv⟩ := hI _ _ _ h3 (j - f.offset) (by rw [List.length_take, List.length_drop]; omega)
  refine ⟨v, ?_⟩
  rw [List.getElem?_take_of_lt (by omega), List.getElem?_drop] at hv
  rwa [show f.offset + (j - f.offset) = j by omega] at hv
theorem structsN_of {R : Type} {fl : R → List Int} {mk : List Int → R} {F : Nat} (hmk : ∀ X : List Int, X.length = F → fl (mk X) = X) (hfl : ∀ r, (fl r).length = F) (hF : 0 < F) {t e : TypeId} {fuel : Nat} {A : Option Addr} {len cap : Nat} {x : DataW H × List MemPlace} (ht : P.underlying t = some (.slice e)) (hC : P.cellsOf e = F) (hI : IntsT enc P w base spare held e)
    (h : DataW.trod enc P w base spare held fuel t [.slice A len cap] = some x) (hsp : ∀ b, spare b = true) :
    ∃ L : List R, L.length = len ∧ Rds w F A len (L.flatMap fun r => ints (fl r)) ∧ len ≤ cap ∧ cap ≤ maxLen := by
  rcases open_slice ht h with h0 | ⟨a, l, c, m, n, D, Pl, hcs, hb, hl, hm, hmm, hx, hi⟩
  · have h0 := h0.1
    simp at h0
    obtain ⟨rfl, rfl, rfl⟩ := h0
    exact ⟨[], rfl, Rds.none_ _ _ _, by omega, by unfold maxLen; omega⟩
  · simp at hcs
    obtain ⟨rfl, rfl, rfl⟩ := hcs
    rw [if_pos (hsp _)] at hmm
    subst hmm
    have hrec : ∀ i, i < m → ∃ r : R, ∀ j v, (fl r)[j]? = some v → w.cell? (a.add (i * F + j)) = some (.int .i64 v) := fun i him => by
      obtain ⟨cs', hc, ht'⟩ := hi i him
      rw [hC] at hc
      obtain ⟨_, hcl, hat⟩ := World.cells?_some hc
      have hX := ints_of (hI _ _ _ ht')
      refine ⟨mk (cs'.map unI), fun j v hv => ?_⟩
      rw [hmk _ (by simpa using hcl)] at hv
      have hj : j < F := by
        have := (List.getElem?_eq_some_iff.1 hv).1
        rw [List.length_map] at this; omega
      have h1 := hat j hj
      rw [Go.Deep.add_add] at h1
      rw [h1, hX]
      obtain ⟨hk, rfl⟩ := List.getElem?_eq_some_iff.1 hv
      exact ints_get hk
    have hL : ∀ k, k ≤ m → ∃ L : List R, L.length = k ∧ ∀ i (h : i < L.length), ∀ j v, (fl L[i])[j]? = some v → w.cell? (a.add (i * F + j)) = some (.int .i64 v) := by
      intro k
      induction k with
      | zero => exact fun _ => ⟨[], rfl, fun i h => by simp at h⟩
      | succ k ih =>
        intro hk
        obtain ⟨L, hl, hc⟩ := ih (by omega)
        obtain ⟨p, h1⟩ := hrec k (by omega)
        refine ⟨L ++ [p], by simp [hl], fun i hi => ?_⟩
        rcases Nat.lt_or_ge i L.length with h | h
        · rw [List.getElem_append_left h]; exact hc i h
        · have hik : i = k := by simp at hi; omega
          subst hik
          have e : (L ++ [p])[i]'hi = p := by simp [← hl]
          rw [e]
          exact h1
    obtain ⟨L, hlen, hLc⟩ := hL len hl
    have hfl2 := flat_len (enc := fun r => ints (fl r)) (F := F) (fun r => by rw [ints_len, hfl]) L
    refine ⟨L, hlen, ⟨by rw [hfl2, hlen], fun hn => ?_⟩, hl, hm⟩
    obtain ⟨b, off, spot⟩ := a
    have h0L : 0 < L.length := by omega
    have h0F : 0 < (fl L[0]).length := by rw [hfl]; exact hF
    obtain ⟨v0, hv0⟩ : ∃ v, (fl L[0])[0]? = some v := ⟨_, List.getElem?_eq_getElem h0F⟩
    have hspot : spot = none := by
      have h0 := hLc 0 (by omega) 0 v0 hv0
      simpa [Addr.add] using World.cell?_spot h0
    subst hspot
    have ha : ∀ i, (Addr.add ⟨b, off, none⟩ i) = ⟨b, off + i, none⟩ := fun i => by
      unfold Addr.add; split
      · rename_i h; subst h; rfl
      · rfl
    refine ⟨b, off, rfl, ?_, fun j u hu => ?_⟩
    · have := hLc 0 (by omega) 0 v0 hv0
      rw [ha] at this
      exact World.block_lt_of_cell? w _ this
    · have hj : j < L.length * F := by
        have := (List.getElem?_eq_some_iff.1 hu).1
        rwa [hfl2] at this
      have hjm : j % F < F := Nat.mod_lt _ hF
      have hjd : j / F < L.length := Nat.div_lt_of_lt_mul (by rw [Nat.mul_comm]; exact hj)
      have e : j / F * F + j % F = j := by rw [Nat.mul_comm]; exact Nat.div_add_mod j F
      have hq := flat_get (enc := fun r => ints (fl r)) (F := F) (fun r => by rw [ints_len, hfl]) (List.getElem?_eq_getElem hjd) hjm
      rw [e, hu] at hq
      have hjf : j % F < (fl L[j / F]).length := by rw [hfl]; exact hjm
      rw [ints_get hjf] at hq
      injection hq with hq
      have := hLc (j / F) hjd (j % F) _ (List.getElem?_eq_getElem hjf)
      rw [ha, e] at this
      rw [this, ← hq]
end
end Go.Proofs.Ytbmbejomodkabaa
