/-
  A Conf that came in, opened.
-/
import Derived.Test.YtaobgliimbmemaaDoorCopy
import Derived.Deep.Strs
import Derived.Lib.SmallJoins
import Derived.Deep.OwnShut
namespace Go.Proofs.YtaobgliimbmemaaDoor
open Go.RowKit Go.ChangeShapes Go.WideShapes Go.Deep Go.Joins
set_option linter.unusedVariables false

section
variable {H : Type} {enc : TypeId × Value → H} {P : Program} {w : World} {base : Nat} {spare : Nat → Bool} {held : Bool}
theorem list_of {α : Type} {Q : Nat → α → Prop} : ∀ n : Nat, (∀ i, i < n → ∃ a, Q i a) → ∃ L : List α, L.length = n ∧ ∀ i (h : i < L.length), Q i L[i]
  | 0, _ => ⟨[], rfl, fun i h => by simp at h⟩
  | n + 1, h => by
    obtain ⟨L, hl, hq⟩ := list_of n (fun i hi => h i (by omega))
    obtain ⟨x, hx⟩ := h n (by omega)
    refine ⟨L ++ [x], by simp [hl], fun i hi => ?_⟩
    rcases Nat.lt_or_ge i L.length with h1 | h1
    · rw [List.getElem_append_left h1]; exact hq i h1
    · have hin : i = n := by simp at hi; omega
      subst hin
      have e : (L ++ [x])[i]'hi = x := by simp [← hl]
      rw [e]; exact hx
theorem open_slice_fields {t e : TypeId} {fs : Array Field} {fuel : Nat} {cs : List Value} {x : DataW H × List MemPlace} (ht : P.underlying t = some (.slice e)) (he : P.underlying e = some (.struct fs))
    (hone : oneCellFields P fs = true) (hC : P.cellsOf e = fs.size) (h : DataW.trod enc P w base spare held fuel t cs = some x) :
    (cs = [.slice none 0 0]) ∨
    ∃ (a : Addr) (len cap m : Nat), cs = [.slice (some a) len cap] ∧ len ≤ cap ∧ cap ≤ maxLen ∧ m = (if spare a.block then cap else len) ∧
      ∀ i, i < m → ∃ (ys : List (DataW H × List MemPlace)) (n : Nat),
        ∀ (j : Nat) (f : Field), fs[j]? = some f → ∃ (v : Value) (y : DataW H × List MemPlace), w.cell? (a.add (i * fs.size + j)) = some v ∧ ys[j]? = some y ∧ DataW.trod enc P w base spare held n f.type [v] = some y := by
  rcases open_slice ht h with h0 | ⟨a, len, cap, m, n, D, Pl, hcs, hb, hl, hm, hmm, hx, hi⟩
  · exact .inl h0.1
  · refine .inr ⟨a, len, cap, m, hcs, hl, hm, hmm, fun i him => ?_⟩
    obtain ⟨cs', hc, ht'⟩ := hi i him
    rw [hC] at hc
    obtain ⟨ys, n', hn', hy, hlen, hyl, hf⟩ := DataW.trod_struct he ht'
    obtain ⟨_, hcl, hat⟩ := World.cells?_some hc
    refine ⟨ys, n', fun j f hj => ?_⟩
    obtain ⟨ho, hk⟩ := hone_of hone j f hj
    have hjl : j < fs.size := (Array.getElem?_eq_some_iff.1 hj).1
    have hcell := hat j hjl
    have hv : cs'[j]? = some (cs'[j]'(by omega)) := List.getElem?_eq_getElem (by omega)
    have h1 := hf j f hj
    rw [ho, hk] at h1
    have hone' : (cs'.drop j).take 1 = [cs'[j]'(by omega)] := by
      rw [List.drop_eq_getElem_cons (by omega)]
      rfl
    rw [hone'] at h1
    have hys : ys[j]? = some (ys[j]'(by omega)) := List.getElem?_eq_getElem (by omega)
    refine ⟨_, _, ?_, hys, h1.trans hys⟩
    rw [← Go.Deep.add_add, hcell, hv]
theorem addr_at (b off i : Nat) : (Addr.add ⟨b, off, none⟩ i) = ⟨b, off + i, none⟩ := by
  unfold Addr.add; split
  · rename_i h; subst h; rfl
  · rfl
theorem flat_encT (L : List ByteArray) : L.flatMap encT = L.map Value.string := by
  induction L with
  | nil => rfl
  | cons x r ih => rw [List.flatMap_cons, ih]; rfl
theorem strs_of {t e : TypeId} {fuel : Nat} {v : Value} {x : DataW H × List MemPlace} (ht : P.underlying t = some (.slice e)) (he : P.underlying e = some .string) (hc : P.cellsOf e = 1)
    (h : DataW.trod enc P w base spare held fuel t [v] = some x) :
    ∃ (A : Option Addr) (L : List ByteArray) (c : Nat), v = .slice A L.length c ∧ SrcT w A c L ∧ L.length ≤ 9223372036854775807 ∧ ∀ s ∈ L, s.size ≤ 9223372036854775807 := by
  rcases open_strs ht he hc h with ⟨e1, _⟩ | ⟨a, len, cap, m, Sx, e1, hb, hl, hm, hmm, _, hcell⟩
  · simp at e1
    subst e1
    exact ⟨none, [], 0, rfl, ⟨⟨rfl, fun h => absurd h (by simp)⟩, .inl ⟨rfl, rfl⟩⟩, by simp, by simp⟩
  · simp at e1
    subst e1
    have hml : len ≤ m := by rw [hmm]; split <;> omega
    unfold maxLen at hm hcell
    refine ⟨some a, (List.range len).map Sx, cap, by simp, ⟨⟨by rw [flat_encT]; simp, fun hn => ?_⟩, .inr ⟨_, rfl⟩⟩, by simp; omega, fun s hs => ?_⟩
    · have hn' : 0 < len := by simpa using hn
      obtain ⟨b, off, spot⟩ := a
      have h0 := (hcell 0 (by omega)).1
      have hspot : spot = none := by simpa [Addr.add] using World.cell?_spot h0
      subst hspot
      refine ⟨b, off, rfl, ?_, fun j u hu => ?_⟩
      · rw [addr_at] at h0
        exact World.block_lt_of_cell? w _ h0
      · rw [flat_encT] at hu
        have hj : j < len := by have := (List.getElem?_eq_some_iff.1 hu).1; simpa using this
        rw [List.getElem?_map, List.getElem?_map, List.getElem?_range hj] at hu
        simp at hu
        subst hu
        have := (hcell j (by omega)).1
        rwa [addr_at] at this
    · simp at hs
      obtain ⟨i, hi, rfl⟩ := hs
      exact (hcell i (by omega)).2
/-- a Conf, by its two fields. -/
theorem conf_of {es ey es2 : TypeId} {f0 f1 g0 g1 : Field} {v0 v1 : Value} {y0 y1 : DataW H × List MemPlace} {n : Nat} (h1 : P.underlying f0.type = some (.slice es)) (h1e : P.underlying es = some .string) (h1c : P.cellsOf es = 1)
    (h2 : P.underlying f1.type = some (.slice ey)) (h2e : P.underlying ey = some (.struct #[g0, g1])) (h2o : oneCellFields P #[g0, g1] = true) (h2C : P.cellsOf ey = 2)
    (hg0 : P.underlying g0.type = some (.slice es2)) (hg0e : P.underlying es2 = some .string) (hg0c : P.cellsOf es2 = 1) (hg1 : P.underlying g1.type = some .string)
    (t0 : DataW.trod enc P w base spare held n f0.type [v0] = some y0) (t1 : DataW.trod enc P w base spare held n f1.type [v1] = some y1) (hsp : ∀ b, spare b = true) :
    ∃ (d : ConfD) (A1 A2 : Option Addr) (c1 c2 : Nat), v0 = .slice A1 d.st.length c1 ∧ v1 = .slice A2 d.sy.length c2 ∧ HasC w d A1 c1 A2 ∧ BgC d := by
  obtain ⟨A1, L, c1, rfl, hL, hLl, hLs⟩ := strs_of h1 h1e h1c t0
  rcases open_slice_fields h2 h2e h2o h2C t1 with h0 | ⟨a, l, c, m, hcs, hl, hm, hmm, hf⟩
  · simp at h0
    subst h0
    exact ⟨⟨L, []⟩, A1, none, c1, 0, rfl, rfl, ⟨hL, fun k hk => absurd hk (by simp)⟩, ⟨hLl, hLs, by simp, fun y hy => by simp at hy⟩⟩
  · simp at hcs
    subst hcs
    rw [if_pos (hsp _)] at hmm
    subst hmm
    unfold maxLen at hm
    have hcell : ∀ i, i < l → ∃ y : SynD, (∃ A c, w.cell? (a.add (i * 2)) = some (.slice A y.fr.length c) ∧ w.cell? (a.add (i * 2 + 1)) = some (.string y.tgt) ∧ SrcT w A c y.fr) ∧ BgY y := fun i hi => by
      obtain ⟨ys, n', hg⟩ := hf i (by omega)
      obtain ⟨u0, z0, q0, _, p0⟩ := hg 0 g0 rfl
      obtain ⟨u1, z1, q1, _, p1⟩ := hg 1 g1 rfl
      obtain ⟨A, M, c', rfl, hM, hMl, hMs⟩ := strs_of hg0 hg0e hg0c p0
      obtain ⟨s1, e5, _, e6⟩ := DataW.trod_string hg1 p1
      simp at e5
      subst e5
      unfold maxLen at e6
      exact ⟨⟨M, s1⟩, ⟨A, c', q0, q1, hM⟩, ⟨hMl, hMs, e6⟩⟩
    obtain ⟨Y, hlen, hY⟩ := list_of l hcell
    subst hlen
    refine ⟨⟨L, Y⟩, A1, some a, c1, m, rfl, rfl, ⟨hL, fun k hk => ?_⟩, ⟨hLl, hLs, by show Y.length ≤ _; omega, fun y hy => ?_⟩⟩
    · obtain ⟨⟨A, c', e0, e1, e2⟩, _⟩ := hY k hk
      obtain ⟨b, off, spot⟩ := a
      have hspot : spot = none := by
        obtain ⟨⟨_, _, h0, _⟩, _⟩ := hY 0 (Nat.lt_of_le_of_lt (Nat.zero_le _) hk)
        simpa [Addr.add] using World.cell?_spot h0
      subst hspot
      rw [addr_at] at e0 e1
      rw [← Nat.add_assoc] at e1
      exact ⟨b, off, A, c', rfl, World.block_lt_of_cell? w _ e0, e0, e1, e2⟩
    · obtain ⟨i, hi, rfl⟩ := List.getElem_of_mem hy
      exact (hY i hi).2
end
end Go.Proofs.YtaobgliimbmemaaDoor
