/-
  Slices of slices of integers in memory.
-/
import Derived.Test.YtbmbejomodkabaaSrc
import Derived.Test.YtbmbejomodkabaaExactInts
import Derived.Deep.Matrix
namespace Go.Proofs.Ytbmbejomodkabaa
open Go.RowKit
set_option linter.unusedVariables false

/-- the slice of slices at A reads as the lists Ls. -/
def RdSS (w : World) (A : Option Addr) (Ls : List (List Int)) : Prop :=
  ∀ k, (hk : k < Ls.length) → ∃ b off A' c', A = some ⟨b, off, none⟩ ∧ b < w.heap.size ∧ w.cell? ⟨b, off + k, none⟩ = some (.slice A' Ls[k].length c') ∧ Src w A' c' Ls[k]
theorem RdSS.below {w w' : World} {A : Option Addr} {Ls : List (List Int)} (h : RdSS w A Ls) (hb : Below w.heap.size w w') : RdSS w' A Ls := fun k hk => by
  obtain ⟨b, off, A', c', e, hlt, hc, hs⟩ := h k hk
  exact ⟨b, off, A', c', e, Nat.lt_of_lt_of_le hlt hb.size, (hb.cell (p := ⟨b, off + k, none⟩) hlt).trans hc, hs.below hb⟩
theorem Src.drawn {w : World} {A : Option Addr} {c : Nat} {L : List Int} (h : Src w A c L) (q : Nat) : Src (w.drewN q) A c L := h
theorem RdSS.drawn {w : World} {A : Option Addr} {Ls : List (List Int)} (h : RdSS w A Ls) (q : Nat) : RdSS (w.drewN q) A Ls := h
theorem RdSS.nil_ (w : World) (A : Option Addr) : RdSS w A [] := fun k hk => by simp at hk
/-- what a walk is told of a slice of slices that came in. -/
theorem rows_of {H : Type} {enc : TypeId × Value → H} {P : Program} {w : World} {base : Nat} {held : Bool} {t e q : TypeId} {fuel : Nat} {A : Option Addr} {len cap : Nat} {x : DataW H × List MemPlace} (ht : P.underlying t = some (.slice e)) (he : P.underlying e = some (.slice q)) (hq : P.underlying q = some (.int .i64))
    (ce : P.cellsOf e = 1) (cq : P.cellsOf q = 1) (h : DataW.trod enc P w base (fun _ => true) held fuel t [.slice A len cap] = some x) :
    ∃ Ls : List (List Int), Ls.length = len ∧ RdSS w A Ls ∧ len ≤ cap ∧ cap ≤ 9223372036854775807 ∧ ∀ L ∈ Ls, L.length ≤ 9223372036854775807 := by
  rcases Go.Deep.open_int_rows ht he hq ce cq h with ⟨hcs, _⟩ | ⟨a, l, c, As, Lf, Cf, Z, hcs, hb, hl, hm, _, hr⟩
  · simp only [List.cons.injEq, Value.slice.injEq, and_true] at hcs
    obtain ⟨rfl, rfl, rfl⟩ := hcs
    exact ⟨[], rfl, RdSS.nil_ _ _, by omega, by omega, fun L hL => by simp at hL⟩
  · simp only [List.cons.injEq, Value.slice.injEq, and_true] at hcs
    obtain ⟨rfl, rfl, rfl⟩ := hcs
    unfold maxLen at hm
    refine ⟨(List.range len).map fun r => (Z r).take (Lf r), by simp, fun k hk => ?_, hl, by omega, fun L hL => ?_⟩
    · have hk' : k < len := by simpa using hk
      obtain ⟨hcell, h1, h2, h3, h4, h5, h6⟩ := hr k (by omega)
      have hzl : ((Z k).take (Lf k)).length = Lf k := by simp; omega
      obtain ⟨b, off, spot⟩ := a
      have hspot : spot = none := by
        have h0 := (hr 0 (by omega)).1
        simpa [Addr.add] using World.cell?_spot h0
      subst hspot
      rw [add_at] at hcell
      simp only [List.getElem_map, List.getElem_range]
      refine ⟨b, off, As k, Cf k, rfl, World.block_lt_of_cell? w _ hcell, by rw [hzl]; exact hcell, ?_, ?_⟩
      · have hrow : IsRow .i64 w (As k) (Lf k) (Cf k) (Z k) := by
          cases ha : As k with
          | none =>
            have hc0 := h5 ha
            exact .inl ⟨rfl, by omega, hc0, List.length_eq_zero_iff.1 (by omega)⟩
          | some a' =>
            obtain ⟨_, hc⟩ := h6 a' ha
            exact .inr ⟨a', rfl, h1, h2, h3, fun i hi => hc i (by omega), h4⟩
        have := (Rds.row hrow).1
        unfold RdI
        rw [hzl]
        exact this
      · cases ha : As k with
        | none => exact .inl ⟨rfl, h5 ha⟩
        | some a' => exact .inr ⟨a', rfl⟩
    · simp only [List.mem_map, List.mem_range] at hL
      obtain ⟨r, hr', rfl⟩ := hL
      obtain ⟨_, h1, h2, h3, _⟩ := hr r (by omega)
      unfold maxLen at h2
      simp; omega

/-- a row of integers that can be written: it lies in the blocks from s on, below t. -/
def Wr (w : World) (s t : Nat) (A : Option Addr) (n : Nat) : Prop := n = 0 ∨ ∃ g cur, A = some ⟨g, 0, none⟩ ∧ s ≤ g ∧ g < t ∧ w.heap[g]? = some (.cells cur 3 (0, 0)) ∧ n ≤ cur.size
/-- .. and a slice of such rows. -/
def WrSS (w : World) (s t : Nat) (A : Option Addr) (Ls : List (List Int)) : Prop :=
  Ls = [] ∨ ∃ b hdrs, A = some ⟨b, 0, none⟩ ∧ s ≤ b ∧ b < t ∧ w.heap[b]? = some (.cells hdrs 72 (0, 0)) ∧ ∀ k, (hk : k < Ls.length) → ∃ A' c', hdrs[k]? = some (.slice A' Ls[k].length c') ∧ Wr w s t A' Ls[k].length
/-- outside the blocks from s on, below t, w' is as w was. -/
def Zone (s t : Nat) (w w' : World) : Prop := (w'.os = w.os ∧ w'.tape = w.tape ∧ w'.output = w.output) ∧ w.heap.size ≤ w'.heap.size ∧ ∀ k, k < w.heap.size → (k < s ∨ t ≤ k) → w'.heap[k]? = w.heap[k]?
theorem Zone.refl (s t : Nat) (w : World) : Zone s t w w := ⟨⟨rfl, rfl, rfl⟩, Nat.le_refl _, fun _ _ _ => rfl⟩
theorem Zone.trans {s t : Nat} {a b c : World} (h : Zone s t a b) (k : Zone s t b c) : Zone s t a c :=
  ⟨⟨k.1.1.trans h.1.1, k.1.2.1.trans h.1.2.1, k.1.2.2.trans h.1.2.2⟩, Nat.le_trans h.2.1 k.2.1, fun i hi hn => (k.2.2 i (Nat.lt_of_lt_of_le hi h.2.1) hn).trans (h.2.2 i hi hn)⟩
theorem Zone.setCell {s t g j : Nat} (w : World) (u : Value) (h1 : s ≤ g) (h2 : g < t) : Zone s t w (w.setCell ⟨g, j, none⟩ u) :=
  ⟨⟨rfl, rfl, rfl⟩, by simp [World.setCell], fun k _ hn => Below.heap_setCell w _ u k (by show k ≠ g; omega)⟩
theorem Zone.below {s t B : Nat} {w w' : World} (h : Zone s t w w') (hs : B ≤ s) (hB : B ≤ w.heap.size) : Below B w w' :=
  ⟨h.1.1, h.1.2.1, h.1.2.2, h.2.1, fun k hk => h.2.2 k (by omega) (.inl (by omega))⟩
theorem own_zone {w w' : World} {s t base e size n : Nat} {v : Value} {xs : List Value} (h : w.ownsRow base e size v n xs) (hz : Zone s t w w') (hne : ∀ k, v.ownBlock = some k → k < s ∨ t ≤ k) : w'.ownsRow base e size v n xs := by
  rcases h.2 with ⟨h', h0⟩ | ⟨g, cap, cur, hv, hg, hh, hnc, hcm, hcs, htake⟩
  · exact ⟨h.1, .inl ⟨h', h0⟩⟩
  · subst hv
    exact ⟨h.1, .inr ⟨g, cap, cur, rfl, hg, (hz.2.2 g (h.lt g rfl).2 (hne g rfl)).trans hh, hnc, hcm, hcs, htake⟩⟩
theorem Wr.set {w : World} {s t g j n : Nat} {A : Option Addr} (h : Wr w s t A n) (u : Value) : Wr (w.setCell ⟨g, j, none⟩ u) s t A n := by
  rcases h with h | ⟨g', cur, rfl, h1, h2, h3, h4⟩
  · exact .inl h
  · by_cases e : g' = g
    · subst e
      exact .inr ⟨g', cur.setIfInBounds j u, rfl, h1, h2, by simp [World.setCell, Array.getElem?_modify, h3], by simpa using h4⟩
    · exact .inr ⟨g', cur, rfl, h1, h2, (Below.heap_setCell w _ u g' e).trans h3, h4⟩
theorem Wr.below {w w' : World} {s t n : Nat} {A : Option Addr} (h : Wr w s t A n) (hb : Below w.heap.size w w') : Wr w' s t A n := by
  rcases h with h | ⟨g', cur, rfl, h1, h2, h3, h4⟩
  · exact .inl h
  · refine .inr ⟨g', cur, rfl, h1, h2, (hb.block g' ?_).trans h3, h4⟩
    rcases Nat.lt_or_ge g' w.heap.size with hl | hl
    · exact hl
    · rw [Array.getElem?_eq_none hl] at h3; cases h3
theorem Wr.mono {w : World} {s t s' t' n : Nat} {A : Option Addr} (h : Wr w s t A n) (hs : s' ≤ s) (ht : t ≤ t') : Wr w s' t' A n := by
  rcases h with h | ⟨g', cur, rfl, h1, h2, h3, h4⟩
  · exact .inl h
  · exact .inr ⟨g', cur, rfl, by omega, by omega, h3, h4⟩
theorem Wr.own {w : World} {base t c : Nat} {A : Option Addr} {L : List Int} (h : OwnI w base (.slice A L.length c) L) (ht : w.heap.size ≤ t) : Wr w base t A L.length := by
  rcases h.2 with ⟨h', h0⟩ | ⟨g, cap, cur, hv, hg, hh, hnc, hcm, hcs, htake⟩
  · exact .inl h0
  · have h1 := h.lt
    simp only [Value.slice.injEq, true_and] at hv
    obtain ⟨rfl, rfl⟩ := hv
    have := (h1 g rfl).2
    exact .inr ⟨g, cur, rfl, hg, by omega, hh, by omega⟩
theorem heap_lt {w : World} {g : Nat} {o : Obj} (h : w.heap[g]? = some o) : g < w.heap.size := by
  rcases Nat.lt_or_ge g w.heap.size with hl | hl
  · exact hl
  · rw [Array.getElem?_eq_none hl] at h; cases h
theorem WrSS.below {w w' : World} {s t : Nat} {A : Option Addr} {Ls : List (List Int)} (h : WrSS w s t A Ls) (hb : Below w.heap.size w w') : WrSS w' s t A Ls := by
  rcases h with h | ⟨b, hdrs, rfl, h1, h2, h3, h4⟩
  · exact .inl h
  · refine .inr ⟨b, hdrs, rfl, h1, h2, (hb.block b (heap_lt h3)).trans h3, fun k hk => ?_⟩
    obtain ⟨A', c', h5, h6⟩ := h4 k hk
    exact ⟨A', c', h5, h6.below hb⟩
/-- what toIntSS hands back. -/
def MakesSS (w : World) (Ls : List (List Int)) (e : Ending) (w' : World) : Prop :=
  ∃ (B : Option Addr) (d : Nat), (e = .returned (.slice B Ls.length d) ∧ RdSS w' B Ls ∧ WrSS w' w.heap.size w'.heap.size B Ls ∧ (Ls.length ≤ d ∧ d ≤ 9223372036854775807)) ∧ Below w.heap.size w w'
def total (Ls : List (List Int)) : Nat := Ls.length + (Ls.map List.length).sum
theorem total_mem {Ls : List (List Int)} {L : List Int} (h : L ∈ Ls) : L.length + Ls.length ≤ total Ls := by
  unfold total
  have : L.length ≤ (Ls.map List.length).sum := by
    induction Ls with
    | nil => simp at h
    | cons x r ih =>
      rw [List.map_cons, List.sum_cons]
      rcases List.mem_cons.1 h with rfl | h
      · omega
      · have := ih h; omega
  omega

def Sz1 (n : Nat) (left : Int) (w : World) (e : Ending) (w' : World) : Prop := ∃ r : Int, (e = .returned (.int .i64 r) ∧ (r = left - n ∨ r < 0) ∧ r ≤ left ∧ (r < 0 ∨ n ≤ 1048576)) ∧ w = w'
def Sz2 (n : Nat) (w : World) (e : Ending) (w' : World) : Prop := ∃ r : Int, (e = .returned (.int .i64 r) ∧ r ≤ 1048576 ∧ (r < 0 ∨ n ≤ 1048576)) ∧ w = w'
end Go.Proofs.Ytbmbejomodkabaa
