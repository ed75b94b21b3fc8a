/-
  A slice of structs of two integers that came in, opened.
-/
import Derived.Test.YteomiaffdbbpoaaSl
import Derived.Deep.OwnShut
namespace Go.Proofs.Yteomiaffdbbpoaa
open Go.RowKit Go.ChangeShapes Go.WideShapes Go.Deep
set_option linter.unusedVariables false

section
variable {H : Type} {enc : TypeId × Value → H} {P : Program} {w : World} {base : Nat} {spare : Nat → Bool} {held : Bool}
theorem open_slice_fields {t e : TypeId} {fs : Array Field} {fuel : Nat} {cs : List Value} {x : DataW H × List MemPlace} (ht : P.underlying t = some (.slice e)) (he : P.underlying e = some (.struct fs))
    (hone : oneCellFields P fs = true) (hC : P.cellsOf e = fs.size) (h : DataW.trod enc P w base spare held fuel t cs = some x) :
    (cs = [.slice none 0 0]) ∨
    ∃ (a : Addr) (len cap m : Nat), cs = [.slice (some a) len cap] ∧ len ≤ cap ∧ cap ≤ maxLen ∧ m = (if spare a.block then cap else len) ∧
      ∀ i, i < m → ∃ (ys : List (DataW H × List MemPlace)) (n : Nat),
        ∀ (j : Nat) (f : Field), fs[j]? = some f → ∃ (v : Value) (y : DataW H × List MemPlace), w.cell? (a.add (i * fs.size + j)) = some v ∧ ys[j]? = some y ∧ DataW.trod enc P w base spare held n f.type [v] = some y := by
  rcases open_slice ht h with h0 | ⟨a, len, cap, m, n, D, Pl, hcs, hb, hl, hm, hmm, hx, hi⟩
  · exact .inl h0.1
  · refine .inr ⟨a, len, cap, m, hcs, hl, hm, hmm, fun i him => ?_⟩
    obtain ⟨cs', hc, ht'⟩ := hi i him
    rw [hC] at hc
    obtain ⟨ys, n', hn', hy, hlen, hyl, hf⟩ := DataW.trod_struct he ht'
    obtain ⟨_, hcl, hat⟩ := World.cells?_some hc
    refine ⟨ys, n', fun j f hj => ?_⟩
    obtain ⟨ho, hk⟩ := hone_of hone j f hj
    have hjl : j < fs.size := (Array.getElem?_eq_some_iff.1 hj).1
    have hcell := hat j hjl
    have hv : cs'[j]? = some (cs'[j]'(by omega)) := List.getElem?_eq_getElem (by omega)
    have h1 := hf j f hj
    rw [ho, hk] at h1
    have hone' : (cs'.drop j).take 1 = [cs'[j]'(by omega)] := by
      rw [List.drop_eq_getElem_cons (by omega)]
      rfl
    rw [hone'] at h1
    have hys : ys[j]? = some (ys[j]'(by omega)) := List.getElem?_eq_getElem (by omega)
    refine ⟨_, _, ?_, hys, h1.trans hys⟩
    rw [← Go.Deep.add_add, hcell, hv]

/-- the slice of pairs of integers, as the walks take it. -/
theorem structs2_of {t e : TypeId} {f0 f1 : Field} {fuel : Nat} {A : Option Addr} {len cap : Nat} {x : DataW H × List MemPlace} (ht : P.underlying t = some (.slice e)) (he : P.underlying e = some (.struct #[f0, f1]))
    (hone : oneCellFields P #[f0, f1] = true) (hC : P.cellsOf e = 2) (hi0 : P.underlying f0.type = some (.int .i64)) (hi1 : P.underlying f1.type = some (.int .i64))
    (h : DataW.trod enc P w base spare held fuel t [.slice A len cap] = some x) (hsp : ∀ b, spare b = true) :
    ∃ L : List (Int × Int), L.length = len ∧ Rds w 2 A len (L.flatMap enc2) ∧ len ≤ cap ∧ cap ≤ maxLen := by
  rcases open_slice_fields ht he hone hC h with h0 | ⟨a, l, c, m, hcs, hl, hm, hmm, hf⟩
  · simp at h0
    obtain ⟨rfl, rfl, rfl⟩ := h0
    exact ⟨[], rfl, Rds.none_ _ _ _, by omega, by unfold maxLen; omega⟩
  · simp at hcs
    obtain ⟨rfl, rfl, rfl⟩ := hcs
    rw [if_pos (hsp _)] at hmm
    subst hmm
    have hcell : ∀ i, i < m → ∃ p : Int × Int, w.cell? (a.add (i * 2)) = some (.int .i64 p.1) ∧ w.cell? (a.add (i * 2 + 1)) = some (.int .i64 p.2) := fun i hi => by
      obtain ⟨ys, n, hg⟩ := hf i hi
      obtain ⟨v0, y0, c0, _, t0⟩ := hg 0 f0 rfl
      obtain ⟨v1, y1, c1, _, t1⟩ := hg 1 f1 rfl
      obtain ⟨n0, e0, _, _⟩ := DataW.trod_int hi0 t0
      obtain ⟨n1, e1, _, _⟩ := DataW.trod_int hi1 t1
      simp at e0 e1
      subst e0 e1
      exact ⟨(n0, n1), c0, c1⟩
    have hL : ∀ k, k ≤ m → ∃ L : List (Int × Int), L.length = k ∧ ∀ i (h : i < L.length), w.cell? (a.add (i * 2)) = some (.int .i64 L[i].1) ∧ w.cell? (a.add (i * 2 + 1)) = some (.int .i64 L[i].2) := by
      intro k
      induction k with
      | zero => exact fun _ => ⟨[], rfl, fun i h => by simp at h⟩
      | succ k ih =>
        intro hk
        obtain ⟨L, hl, hc⟩ := ih (by omega)
        obtain ⟨p, h1, h2⟩ := hcell k (by omega)
        refine ⟨L ++ [p], by simp [hl], fun i hi => ?_⟩
        rcases Nat.lt_or_ge i L.length with h | h
        · rw [List.getElem_append_left h]; exact hc i h
        · have hik : i = k := by simp at hi; omega
          subst hik
          have e : (L ++ [p])[i]'hi = p := by simp [← hl]
          rw [e]
          exact ⟨h1, h2⟩
    obtain ⟨L, hlen, hLc⟩ := hL len hl
    refine ⟨L, hlen, ⟨by rw [flat_len enc2_len, hlen], fun hn => ?_⟩, hl, hm⟩
    obtain ⟨b, off, spot⟩ := a
    have hspot : spot = none := by
      have h0 := (hLc 0 (by omega)).1
      simpa [Addr.add] using World.cell?_spot h0
    subst hspot
    have ha : ∀ i, (Addr.add ⟨b, off, none⟩ i) = ⟨b, off + i, none⟩ := fun i => by
      unfold Addr.add; split
      · rename_i h; subst h; rfl
      · rfl
    refine ⟨b, off, rfl, ?_, fun j u hu => ?_⟩
    · have := (hLc 0 (by omega)).1
      rw [ha] at this
      exact World.block_lt_of_cell? w _ this
    · have hj : j < L.length * 2 := by
        have := (List.getElem?_eq_some_iff.1 hu).1
        rwa [flat_len enc2_len] at this
      have hz : L[j / 2]? = some (L[j / 2]'(by omega)) := List.getElem?_eq_getElem (by omega)
      have hq := flat_get enc2_len hz (show j % 2 < 2 by omega)
      have e : j / 2 * 2 + j % 2 = j := by omega
      rw [e] at hq
      rw [hq] at hu
      obtain ⟨g1, g2⟩ := hLc (j / 2) (by omega)
      rw [ha] at g1 g2
      rcases Nat.mod_two_eq_zero_or_one j with hm | hm
      · rw [hm] at hu
        simp [enc2] at hu
        subst hu
        have e2 : j / 2 * 2 = j := by omega
        rw [e2] at g1
        exact g1
      · rw [hm] at hu
        simp [enc2] at hu
        subst hu
        have e2 : j / 2 * 2 + 1 = j := by omega
        rw [e2] at g2
        exact g2
end
end Go.Proofs.Yteomiaffdbbpoaa
