/-
  A slice of documents that came in, opened.
-/
import Derived.Test.YteomiaffdbbpoaaExactDocs
import Derived.Test.YteomiaffdbbpoaaStructs
import Derived.Deep.Strs
import Derived.Lib.SmallJoins
namespace Go.Proofs.Yteomiaffdbbpoaa
open Go.RowKit Go.ChangeShapes Go.WideShapes Go.Deep Go.Joins
set_option linter.unusedVariables false

section
variable {H : Type} {enc : TypeId × Value → H} {P : Program} {w : World} {base : Nat} {spare : Nat → Bool} {held : Bool}
theorem list_of {α : Type} {Q : Nat → α → Prop} : ∀ n : Nat, (∀ i, i < n → ∃ a, Q i a) → ∃ L : List α, L.length = n ∧ ∀ i (h : i < L.length), Q i L[i]
  | 0, _ => ⟨[], rfl, fun i h => by simp at h⟩
  | n + 1, h => by
    obtain ⟨L, hl, hq⟩ := list_of n (fun i hi => h i (by omega))
    obtain ⟨x, hx⟩ := h n (by omega)
    refine ⟨L ++ [x], by simp [hl], fun i hi => ?_⟩
    rcases Nat.lt_or_ge i L.length with h1 | h1
    · rw [List.getElem_append_left h1]; exact hq i h1
    · have hin : i = n := by simp at hi; omega
      subst hin
      have e : (L ++ [x])[i]'hi = x := by simp [← hl]
      rw [e]; exact hx
theorem addr_at (b off i : Nat) : (Addr.add ⟨b, off, none⟩ i) = ⟨b, off + i, none⟩ := by
  unfold Addr.add; split
  · rename_i h; subst h; rfl
  · rfl
/-- a slice of structs of two cells each, by what its cells are. -/
theorem pairs_of {α : Type} {encα : α → List Value} {Q : α → Prop} {t e : TypeId} {f0 f1 : Field} {fuel : Nat} {A : Option Addr} {len cap : Nat} {x : DataW H × List MemPlace} (he2 : Enc encα 2) (ht : P.underlying t = some (.slice e)) (he : P.underlying e = some (.struct #[f0, f1]))
    (hone : oneCellFields P #[f0, f1] = true) (hC : P.cellsOf e = 2) (h : DataW.trod enc P w base spare held fuel t [.slice A len cap] = some x) (hsp : ∀ b, spare b = true)
    (hel : ∀ v0 v1 y0 y1 n, DataW.trod enc P w base spare held n f0.type [v0] = some y0 → DataW.trod enc P w base spare held n f1.type [v1] = some y1 → ∃ a : α, encα a = [v0, v1] ∧ Q a) :
    ∃ L : List α, L.length = len ∧ Rds w 2 A len (L.flatMap encα) ∧ len ≤ cap ∧ cap ≤ maxLen ∧ ∀ a ∈ L, Q a := by
  rcases open_slice_fields ht he hone hC h with h0 | ⟨a, l, c, m, hcs, hl, hm, hmm, hf⟩
  · simp at h0
    obtain ⟨rfl, rfl, rfl⟩ := h0
    exact ⟨[], rfl, Rds.none_ _ _ _, by omega, by unfold maxLen; omega, fun a ha => by simp at ha⟩
  · simp at hcs
    obtain ⟨rfl, rfl, rfl⟩ := hcs
    rw [if_pos (hsp _)] at hmm
    subst hmm
    have hcell : ∀ i, i < len → ∃ p : α, (∃ v0 v1, encα p = [v0, v1] ∧ w.cell? (a.add (i * 2)) = some v0 ∧ w.cell? (a.add (i * 2 + 1)) = some v1) ∧ Q p := fun i hi => by
      obtain ⟨ys, n, hg⟩ := hf i (by omega)
      obtain ⟨v0, y0, c0, _, t0⟩ := hg 0 f0 rfl
      obtain ⟨v1, y1, c1, _, t1⟩ := hg 1 f1 rfl
      obtain ⟨p, hp, hq⟩ := hel v0 v1 y0 y1 n t0 t1
      exact ⟨p, ⟨v0, v1, hp, c0, c1⟩, hq⟩
    obtain ⟨L, hlen, hL⟩ := list_of len hcell
    refine ⟨L, hlen, ⟨by rw [he2.flat, hlen], fun hn => ?_⟩, hl, hm, fun p hp => ?_⟩
    · obtain ⟨b, off, spot⟩ := a
      have hspot : spot = none := by
        obtain ⟨⟨v0, v1, _, h0, _⟩, _⟩ := hL 0 (by omega)
        simpa [Addr.add] using World.cell?_spot h0
      subst hspot
      refine ⟨b, off, rfl, ?_, fun j u hu => ?_⟩
      · obtain ⟨⟨v0, v1, _, h0, _⟩, _⟩ := hL 0 (by omega)
        rw [addr_at] at h0
        exact World.block_lt_of_cell? w _ h0
      · have hj : j < L.length * 2 := by
          have := (List.getElem?_eq_some_iff.1 hu).1
          rwa [he2.flat] at this
        have hz : L[j / 2]? = some (L[j / 2]'(by omega)) := List.getElem?_eq_getElem (by omega)
        have hq := flat_get he2.len hz (show j % 2 < 2 by omega)
        have e : j / 2 * 2 + j % 2 = j := by omega
        rw [e] at hq
        rw [hq] at hu
        obtain ⟨⟨v0, v1, hen, g1, g2⟩, _⟩ := hL (j / 2) (by omega)
        rw [addr_at] at g1 g2
        rw [hen] at hu
        rcases Nat.mod_two_eq_zero_or_one j with hm | hm
        · rw [hm] at hu
          simp at hu
          subst hu
          have e2 : j / 2 * 2 = j := by omega
          rw [e2] at g1
          exact g1
        · rw [hm] at hu
          simp at hu
          subst hu
          have e2 : j / 2 * 2 + 1 = j := by omega
          rw [e2] at g2
          exact g2
    · obtain ⟨i, hi, rfl⟩ := List.getElem_of_mem hp
      exact (hL i hi).2
/-- .. of documents. -/
theorem docs_of {t e ef ea : TypeId} {f0 f1 f2 g0 g1 k0 k1 : Field} {fuel : Nat} {A : Option Addr} {len cap : Nat} {x : DataW H × List MemPlace} (ht : P.underlying t = some (.slice e)) (he : P.underlying e = some (.struct #[f0, f1, f2]))
    (hone : oneCellFields P #[f0, f1, f2] = true) (hC : P.cellsOf e = 3) (hi0 : P.underlying f0.type = some (.int .i64))
    (h1 : P.underlying f1.type = some (.slice ef)) (h1e : P.underlying ef = some (.struct #[g0, g1])) (h1o : oneCellFields P #[g0, g1] = true) (h1C : P.cellsOf ef = 2) (hg0 : P.underlying g0.type = some .string) (hg1 : P.underlying g1.type = some .string)
    (h2 : P.underlying f2.type = some (.slice ea)) (h2e : P.underlying ea = some (.struct #[k0, k1])) (h2o : oneCellFields P #[k0, k1] = true) (h2C : P.cellsOf ea = 2) (hk0 : P.underlying k0.type = some .string) (hk1 : P.underlying k1.type = some (.int .i64))
    (h : DataW.trod enc P w base spare held fuel t [.slice A len cap] = some x) (hsp : ∀ b, spare b = true) :
    ∃ L : List DocD, L.length = len ∧ RdD w A L ∧ (len ≤ cap ∧ cap ≤ maxLen) ∧ ∀ d ∈ L, BgD d := by
  rcases open_slice_fields ht he hone hC h with h0 | ⟨a, l, c, m, hcs, hl, hm, hmm, hf⟩
  · simp at h0
    obtain ⟨rfl, rfl, rfl⟩ := h0
    exact ⟨[], rfl, RdD.nil_ _ _, ⟨by omega, by unfold maxLen; omega⟩, fun a ha => by simp at ha⟩
  · simp at hcs
    obtain ⟨rfl, rfl, rfl⟩ := hcs
    rw [if_pos (hsp _)] at hmm
    subst hmm
    have hcell : ∀ i, i < len → ∃ d : DocD, (∃ A1 c1 A2 c2, w.cell? (a.add (i * 3)) = some (.int .i64 d.id) ∧ w.cell? (a.add (i * 3 + 1)) = some (.slice A1 d.fs.length c1) ∧ w.cell? (a.add (i * 3 + 2)) = some (.slice A2 d.ns.length c2) ∧ HasD w d A1 A2) ∧ BgD d := fun i hi => by
      obtain ⟨ys, n, hg⟩ := hf i (by omega)
      obtain ⟨v0, y0, c0, _, t0⟩ := hg 0 f0 rfl
      obtain ⟨v1, y1, c1, _, t1⟩ := hg 1 f1 rfl
      obtain ⟨v2, y2, c2, _, t2⟩ := hg 2 f2 rfl
      obtain ⟨id, e0, _, _⟩ := DataW.trod_int hi0 t0
      simp at e0
      subst e0
      obtain ⟨B1, l1, d1, e1⟩ := slice_form h1 t1
      obtain ⟨B2, l2, d2, e2⟩ := slice_form h2 t2
      simp at e1 e2
      subst e1 e2
      obtain ⟨fs, hfl, hfr, hfm1, hfm2, hfq⟩ := pairs_of (Q := fun f : FldD => f.1.size ≤ 9223372036854775807 ∧ f.2.size ≤ 9223372036854775807) encF_ok h1 h1e h1o h1C t1 hsp (fun v0 v1 y0 y1 n q0 q1 => by
        obtain ⟨s0, e3, _, e4⟩ := DataW.trod_string hg0 q0
        obtain ⟨s1, e5, _, e6⟩ := DataW.trod_string hg1 q1
        simp at e3 e5
        subst e3 e5
        unfold maxLen at e4 e6
        exact ⟨(s0, s1), rfl, e4, e6⟩)
      obtain ⟨ns, hnl, hnr, hnm1, hnm2, hnq⟩ := pairs_of (Q := fun f : AttD => f.1.size ≤ 9223372036854775807) encA_ok h2 h2e h2o h2C t2 hsp (fun v0 v1 y0 y1 n q0 q1 => by
        obtain ⟨s0, e3, _, e4⟩ := DataW.trod_string hk0 q0
        obtain ⟨s1, e5, _, _⟩ := DataW.trod_int hk1 q1
        simp at e3 e5
        subst e3 e5
        unfold maxLen at e4
        exact ⟨(s0, s1), rfl, e4⟩)
      subst hfl hnl
      unfold maxLen at hfm2 hnm2
      exact ⟨⟨id, fs, ns⟩, ⟨B1, d1, B2, d2, c0, c1, c2, hfr, hnr⟩, ⟨by show fs.length ≤ _; omega, by show ns.length ≤ _; omega, hfq, hnq⟩⟩
    obtain ⟨L, hlen, hL⟩ := list_of len hcell
    refine ⟨L, hlen, fun k hk => ?_, ⟨hl, hm⟩, fun p hp => ?_⟩
    · obtain ⟨⟨A1, c1, A2, c2, e0, e1, e2, hd⟩, _⟩ := hL k hk
      obtain ⟨b, off, spot⟩ := a
      have hspot : spot = none := by
        obtain ⟨⟨_, _, _, _, h0, _⟩, _⟩ := hL 0 (by omega)
        simpa [Addr.add] using World.cell?_spot h0
      subst hspot
      rw [addr_at] at e0 e1 e2
      rw [← Nat.add_assoc] at e1 e2
      exact ⟨b, off, A1, c1, A2, c2, rfl, World.block_lt_of_cell? w _ e0, e0, e1, e2, hd⟩
    · obtain ⟨i, hi, rfl⟩ := List.getElem_of_mem hp
      exact (hL i hi).2
end
end Go.Proofs.Yteomiaffdbbpoaa
