/-
  A question that came in, opened. 
-/
import Derived.Test.YtaobgliimbmemaaDoorQd
import Derived.Deep.Strs
import Derived.Lib.SmallJoins
import Derived.Deep.OwnShut
namespace Go.Proofs.YtaobgliimbmemaaDoor
open Go.RowKit Go.ChangeShapes Go.WideShapes Go.Deep Go.Joins
set_option linter.unusedVariables false

section
variable {H : Type} {enc : TypeId × Value → H} {P : Program} {w : World} {base : Nat} {spare : Nat → Bool} {held : Bool}
theorem listQ_of {α : Type} {Q : Nat → α → Prop} : ∀ n : Nat, (∀ i, i < n → ∃ a, Q i a) → ∃ L : List α, L.length = n ∧ ∀ i (h : i < L.length), Q i L[i]
  | 0, _ => ⟨[], rfl, fun i h => by simp at h⟩
  | n + 1, h => by
    obtain ⟨L, hl, hq⟩ := listQ_of n (fun i hi => h i (by omega))
    obtain ⟨x, hx⟩ := h n (by omega)
    refine ⟨L ++ [x], by simp [hl], fun i hi => ?_⟩
    rcases Nat.lt_or_ge i L.length with h1 | h1
    · rw [List.getElem_append_left h1]; exact hq i h1
    · have hin : i = n := by simp at hi; omega
      subst hin
      have e : (L ++ [x])[i]'hi = x := by simp [← hl]
      rw [e]; exact hx
theorem addrQ_at (b off i : Nat) : (Addr.add ⟨b, off, none⟩ i) = ⟨b, off + i, none⟩ := by
  unfold Addr.add; split
  · rename_i h; subst h; rfl
  · rfl
theorem flatQ_encT (L : List ByteArray) : L.flatMap encT = L.map Value.string := by
  induction L with
  | nil => rfl
  | cons x r ih => rw [List.flatMap_cons, ih]; rfl
theorem strsQ_of {t e : TypeId} {fuel : Nat} {v : Value} {x : DataW H × List MemPlace} (ht : P.underlying t = some (.slice e)) (he : P.underlying e = some .string) (hc : P.cellsOf e = 1)
    (h : DataW.trod enc P w base spare held fuel t [v] = some x) :
    ∃ (A : Option Addr) (L : List ByteArray) (c : Nat), v = .slice A L.length c ∧ SrcQ w A c L ∧ L.length ≤ 9223372036854775807 ∧ ∀ s ∈ L, s.size ≤ 9223372036854775807 := by
  rcases open_strs ht he hc h with ⟨e1, _⟩ | ⟨a, len, cap, m, Sx, e1, hb, hl, hm, hmm, _, hcell⟩
  · simp at e1
    subst e1
    exact ⟨none, [], 0, rfl, ⟨⟨⟨rfl, fun h => absurd h (by simp)⟩, .inl ⟨rfl, rfl⟩⟩, Nat.le_refl _, Nat.zero_le _⟩, by simp, by simp⟩
  · simp at e1
    subst e1
    have hml : len ≤ m := by rw [hmm]; split <;> omega
    unfold maxLen at hm hcell
    refine ⟨some a, (List.range len).map Sx, cap, by simp, ⟨⟨⟨by rw [flatQ_encT]; simp, fun hn => ?_⟩, .inr ⟨_, rfl⟩⟩, by simp; omega, by unfold maxLen; omega⟩, by simp; omega, fun s hs => ?_⟩
    · have hn' : 0 < len := by simpa using hn
      obtain ⟨b, off, spot⟩ := a
      have h0 := (hcell 0 (by omega)).1
      have hspot : spot = none := by simpa [Addr.add] using World.cell?_spot h0
      subst hspot
      refine ⟨b, off, rfl, ?_, fun j u hu => ?_⟩
      · rw [addrQ_at] at h0
        exact World.block_lt_of_cell? w _ h0
      · rw [flatQ_encT] at hu
        have hj : j < len := by have := (List.getElem?_eq_some_iff.1 hu).1; simpa using this
        rw [List.getElem?_map, List.getElem?_map, List.getElem?_range hj] at hu
        simp at hu
        subst hu
        have := (hcell j (by omega)).1
        rwa [addrQ_at] at this
    · simp at hs
      obtain ⟨i, hi, rfl⟩ := hs
      exact (hcell i (by omega)).2
end
theorem cQ : Tryd.prog.cellsOf 38 = 6 := by kernel_rfl
theorem cQint : Tryd.prog.cellsOf 3 = 1 := by kernel_rfl
theorem cQstr : Tryd.prog.cellsOf 9 = 1 := by kernel_rfl
theorem cQws : Tryd.prog.cellsOf 23 = 1 := by kernel_rfl
theorem cQks : Tryd.prog.cellsOf 36 = 1 := by kernel_rfl
set_option maxRecDepth 20000 in
theorem query_of {H : Type} {enc : TypeId × Value → H} {w : World} {base : Nat} {spare : Nat → Bool} {held : Bool} (n : Nat) : ∀ (cs : List Value) (x : DataW H × List MemPlace), DataW.trod enc Tryd.prog w base spare held n 38 cs = some x →
    ∃ (q : QD) (A : Option Addr) (c : Nat) (B : Option Addr) (d : Nat), cs = encQ q A c B d ∧ HasQ (n / 2) w q A c B ∧ LmQ 9223372036854775807 (n / 2) q ∧ WfQ (n / 2) q := by
  induction n using Nat.strongRecOn with
  | _ n ih =>
  intro cs x h
  obtain ⟨xs, n1, rfl, _, hl, hxl, hf⟩ := DataW.trod_struct Tryd.underlying38 h
  rw [cQ] at hl
  match cs, hl with
  | [v0, v1, v2, v3, v4, v5], _ =>
  have hx6 : xs.length = 6 := hxl
  match xs, hx6 with
  | [y0, y1, y2, y3, y4, y5], _ =>
  have h0 : DataW.trod enc Tryd.prog w base spare held n1 3 [v0] = some y0 := by simpa [cQint] using hf 0 _ rfl
  have h1 : DataW.trod enc Tryd.prog w base spare held n1 9 [v1] = some y1 := by simpa [cQstr] using hf 1 _ rfl
  have h2 : DataW.trod enc Tryd.prog w base spare held n1 23 [v2] = some y2 := by simpa [cQws] using hf 2 _ rfl
  have h3 : DataW.trod enc Tryd.prog w base spare held n1 3 [v3] = some y3 := by simpa [cQint] using hf 3 _ rfl
  have h4 : DataW.trod enc Tryd.prog w base spare held n1 3 [v4] = some y4 := by simpa [cQint] using hf 4 _ rfl
  have h5 : DataW.trod enc Tryd.prog w base spare held n1 36 [v5] = some y5 := by simpa [cQks] using hf 5 _ rfl
  obtain ⟨p, rfl⟩ : ∃ p, n1 = p + 1 := by
    cases n1 with
    | zero => simp [DataW.trod] at h0
    | succ p => exact ⟨p, rfl⟩
  obtain ⟨kd, e0, _, wf0⟩ := DataW.trod_int Tryd.underlying3 h0
  obtain ⟨fr, e3, _, _⟩ := DataW.trod_int Tryd.underlying3 h3
  obtain ⟨tq, e4, _, _⟩ := DataW.trod_int Tryd.underlying3 h4
  obtain ⟨fd, e1, _, hfd⟩ := DataW.trod_string Tryd.underlying9 h1
  obtain ⟨A, L, c, rfl, hL, hLl, hLs⟩ := strsQ_of Tryd.underlying23 Tryd.underlying9 cQstr h2
  simp at e0 e1 e3 e4
  subst e0 e1 e3 e4
  unfold maxLen at hfd
  rw [show (p + 1 + 1) / 2 = p / 2 + 1 by omega]
  rcases DataW.trod_slice Tryd.underlying36 h5 with ⟨hk, _⟩ | ⟨a, len, cap, elems, rest, n2, hn2, hk, _, _, hlc, hcm, hel, hget, _, _⟩
  · simp at hk
    subst hk
    exact ⟨⟨kd, fd, L, fr, tq, []⟩, A, c, none, 0, rfl, ⟨hL, fun k hk => absurd hk (by simp)⟩, ⟨hfd, hLl, hLs, by simp, fun k hk => by simp at hk⟩, wf0, fun k hk => by simp at hk⟩
  · obtain rfl : n2 = p := by omega
    simp at hk
    subst hk
    unfold maxLen at hcm
    have hcell : ∀ i, i < len → ∃ y : QD, (∃ A1 c1 B1 d1, (∀ j u, (encQ y A1 c1 B1 d1)[j]? = some u → w.cell? (a.add (i * 6 + j)) = some u) ∧ HasQ (n2 / 2) w y A1 c1 B1) ∧ LmQ 9223372036854775807 (n2 / 2) y ∧ WfQ (n2 / 2) y := fun i hi => by
      have hg := hget i hi
      rw [List.getElem?_eq_getElem (by omega), cQ] at hg
      obtain ⟨cs', hc1, hc2⟩ := Option.bind_eq_some_iff.1 hg
      obtain ⟨y, A1, c1, B1, d1, rfl, hy, hby⟩ := ih n2 (by omega) _ _ hc2
      obtain ⟨_, _, hat⟩ := World.cells?_some hc1
      refine ⟨y, ⟨A1, c1, B1, d1, fun j u hu => ?_, hy⟩, hby⟩
      have hj : j < 6 := by have := (List.getElem?_eq_some_iff.1 hu).1; simpa [encQ] using this
      have := hat j hj
      rw [← Go.Deep.add_add, this, hu]
    obtain ⟨Y, hlen, hY⟩ := listQ_of len hcell
    subst hlen
    refine ⟨⟨kd, fd, L, fr, tq, Y⟩, A, c, some a, cap, rfl, ⟨hL, fun k hk => ?_⟩, ⟨hfd, hLl, hLs, by show Y.length ≤ _; omega, fun y hy => ?_⟩, wf0, fun y hy => ?_⟩
    · obtain ⟨⟨A1, c1, B1, d1, e0, e1⟩, _⟩ := hY k hk
      obtain ⟨b, off, spot⟩ := a
      have hspot : spot = none := by
        obtain ⟨⟨_, _, _, _, h0, _⟩, _⟩ := hY 0 (Nat.lt_of_le_of_lt (Nat.zero_le _) hk)
        simpa [Addr.add] using World.cell?_spot (h0 0 _ rfl)
      subst hspot
      have e2 : ∀ j u, (encQ Y[k] A1 c1 B1 d1)[j]? = some u → w.cell? ⟨b, off + k * 6 + j, none⟩ = some u := fun j u hu => by
        have := e0 j u hu
        rw [addrQ_at, ← Nat.add_assoc] at this
        exact this
      exact ⟨b, off, A1, c1, B1, d1, rfl, World.block_lt_of_cell? w _ (e2 0 _ rfl), e2, e1⟩
    · obtain ⟨i, hi, rfl⟩ := List.getElem_of_mem hy
      exact (hY i hi).2.1
    · obtain ⟨i, hi, rfl⟩ := List.getElem_of_mem hy
      exact (hY i hi).2.2
end Go.Proofs.YtaobgliimbmemaaDoor
