/-
  The walk of FnExactIndexNew.
-/
import Derived.Test.YtlgomipfhbkklaaIndexM
namespace Go.Proofs.Ytlgomipfhbkklaa
open Go.RowKit
set_option linter.unusedVariables false

theorem indexNew_t {d : ConfD} (hc : confB d = true) (A1 A2 : Option Addr) (c1 c2 : Nat) (w : World) (h : HasC w d A1 c1 A2) (hs : SmC d) :
    Calls Try.prog 26 #[.agg #[.slice A1 d.st.length c1, .slice A2 d.sy.length c2]] w fun e w' => ∃ (g1 c3 g2 c4 : Nat) (hv : List HdY) (A5 : Option Addr), (e = .returned (.agg #[.slice (some ⟨g1, 0, none⟩) d.st.length c3, .slice (some ⟨g2, 0, none⟩) d.sy.length c4, .slice A5 0 0]) ∧ OwnC w' w.heap.size d g1 c3 g2 c4 hv) ∧ Below w.heap.size w w' :=
  (indexNew_any d A1 A2 c1 c2 w h hs).mono fun e w' ⟨h1, h2⟩ => by
    rcases h1 with ⟨_, g1, c3, g2, c4, hv, A5, h3⟩ | ⟨h3, _⟩
    · exact ⟨g1, c3, g2, c4, hv, A5, h3, h2⟩
    · rw [hc] at h3; cases h3
theorem indexNew_f {d : ConfD} (hc : confB d = false) (A1 A2 : Option Addr) (c1 c2 : Nat) (w : World) (h : HasC w d A1 c1 A2) (hs : SmC d) :
    Calls Try.prog 26 #[.agg #[.slice A1 d.st.length c1, .slice A2 d.sy.length c2]] w fun e w' => e = .returned (.agg #[.slice none 0 0, .slice none 0 0, .slice none 0 0]) ∧ Below w.heap.size w w' :=
  (indexNew_any d A1 A2 c1 c2 w h hs).mono fun e w' ⟨h1, h2⟩ => by
    rcases h1 with ⟨h3, _⟩ | ⟨_, h3⟩
    · rw [hc] at h3; cases h3
    · exact ⟨h3, h2⟩
theorem specNew_t {d : ConfD} (hc : confB d = true) (A1 A2 : Option Addr) (c1 c2 : Nat) (w : World) (h : HasC w d A1 c1 A2) (hs : SmC d) :
    Calls Try.prog 25 #[.agg #[.slice A1 d.st.length c1, .slice A2 d.sy.length c2]] w fun e w' => ∃ (B1 : Option Addr) (b1 : Nat) (B2 : Option Addr) (b2 : Nat), (e = .returned (.agg #[.slice B1 d.st.length b1, .slice B2 d.sy.length b2, .slice none 0 0]) ∧ HasC w' d B1 b1 B2) ∧ Below w.heap.size w w' :=
  (specNew_any d A1 A2 c1 c2 w h hs).mono fun e w' ⟨h1, h2⟩ => by
    rcases h1 with ⟨_, B1, b1, B2, b2, h3⟩ | ⟨h3, _⟩
    · exact ⟨B1, b1, B2, b2, h3, h2⟩
    · rw [hc] at h3; cases h3
theorem specNew_f {d : ConfD} (hc : confB d = false) (A1 A2 : Option Addr) (c1 c2 : Nat) (w : World) (h : HasC w d A1 c1 A2) (hs : SmC d) :
    Calls Try.prog 25 #[.agg #[.slice A1 d.st.length c1, .slice A2 d.sy.length c2]] w fun e w' => e = .returned (.agg #[.slice none 0 0, .slice none 0 0, .slice none 0 0]) ∧ Below w.heap.size w w' :=
  (specNew_any d A1 A2 c1 c2 w h hs).mono fun e w' ⟨h1, h2⟩ => by
    rcases h1 with ⟨h3, _⟩ | ⟨_, h3⟩
    · rw [hc] at h3; cases h3
    · exact ⟨h3, h2⟩
theorem smC_nil : SmC ⟨[], []⟩ := ⟨⟨by simp, by simp⟩, by simp, by simp⟩
theorem eqIndex_nil (w : World) : Calls Try.prog 27 #[.agg #[.slice none 0 0, .slice none 0 0, .slice none 0 0], .agg #[.slice none 0 0, .slice none 0 0, .slice none 0 0]] w fun e w' => e = .returned (.bool true) ∧ Below w.heap.size w w' :=
  eqIndex_same ⟨[], []⟩ none none none none none none 0 0 0 0 0 0 w (hasC_nil w) (hasC_nil w) smC_nil
theorem heldIndex_nil (w : World) : Calls Try.prog 30 #[.agg #[.slice none 0 0, .slice none 0 0, .slice none 0 0], .int .i64 1] w fun e w' => e = .returned (.int .i64 1) ∧ Below w.heap.size w w' :=
  heldIndex_any [] [] none none none 0 0 0 1 w (hasC_nil w) smC_nil (by omega) (by omega)
theorem markConf_d {d : ConfD} {hv : List HdY} {g1 c1 g2 c2 base T : Nat} {w : World} (h : OwnC w base d g1 c1 g2 c2 hv) (hs : SmC d) (hT1 : g1 < T) (hT2 : g2 < T) (hT3 : ∀ m ∈ hv, m.g < T) (hTw : T ≤ w.heap.size) :
    Calls Try.prog 28 #[.agg #[.slice (some ⟨g1, 0, none⟩) d.st.length c1, .slice (some ⟨g2, 0, none⟩) d.sy.length c2], .int .i64 1] w fun e w' => ∃ q : Nat, e = .returned (.int .i64 q) ∧ ZoneR base T w w' := by
  obtain ⟨st, sy⟩ := d
  have e := h.eq
  dsimp only at e
  subst e
  rw [List.length_map]
  exact (markConf_any st hv g1 c1 g2 c2 base T 1 w h hs (by omega) (by omega) hT1 hT2 hT3 hTw).mono fun e w' ⟨⟨h1, _⟩, h2⟩ => ⟨_, h1, h2⟩
theorem markIndex_d {d : ConfD} {hv : List HdY} {A5 : Option Addr} {c5 g1 c1 g2 c2 base T : Nat} {w : World} (h : OwnC w base d g1 c1 g2 c2 hv) (hs : SmC d) (hT1 : g1 < T) (hT2 : g2 < T) (hT3 : ∀ m ∈ hv, m.g < T) (hTw : T ≤ w.heap.size) (hbT : base ≤ T) :
    Calls Try.prog 29 #[.agg #[.slice (some ⟨g1, 0, none⟩) d.st.length c1, .slice (some ⟨g2, 0, none⟩) d.sy.length c2, .slice A5 0 c5], .int .i64 1] w fun e w' => (e = .returned (.int .i64 ((endS (1 + d.st.length) d.sy : Nat) : Int)) ∧ HasC w' ⟨mkL 1 d.st.length, mkS (1 + d.st.length) d.sy⟩ (some ⟨g1, 0, none⟩) c1 (some ⟨g2, 0, none⟩)) ∧ ZoneR base T w w' := by
  obtain ⟨st, sy⟩ := d
  have e := h.eq
  dsimp only at e
  subst e
  rw [List.length_map]
  exact (markIndex_any st hv A5 c5 g1 c1 g2 c2 base T 1 w h hs (by omega) (by omega) hT1 hT2 hT3 hTw hbT).mono fun e w' ⟨⟨h1, h3⟩, h2⟩ => ⟨⟨h1, h3.has⟩, h2⟩
set_option maxHeartbeats 4000000 in
theorem walk_FnExactIndexNew (d : ConfD) (A1 A2 : Option Addr) (c1 c2 : Nat) (w : World) (h : HasC w d A1 c1 A2) (hb : BgC d) :
    Calls Try.prog 7 #[.agg #[.slice A1 d.st.length c1, .slice A2 d.sy.length c2]] w fun e w' => e = .returned (.bool true) ∧ Below w.heap.size w w' := by
  have hB0 : Below w.heap.size w (w.alloc (.cells #[.slice A1 d.st.length c1, .slice A2 d.sy.length c2] 38)) := by (repeat' (first | exact Below.refl _ _ | apply Below.alloc | apply Below.setCell | apply Below.drew | apply below_draws)) <;> (first | omega | (simp <;> omega))
  have hv0 : (w.alloc (.cells #[.slice A1 d.st.length c1, .slice A2 d.sy.length c2] 38)).heap[w.heap.size]? = some (.cells #[.slice A1 d.st.length c1, .slice A2 d.sy.length c2] 38 (0, 0)) := heap_alloc_new _ _
  have hz0 : w.heap.size < (w.alloc (.cells #[.slice A1 d.st.length c1, .slice A2 d.sy.length c2] 38)).heap.size := by simp
  go_enter Try.func7, Try.ntmps7
  go_wp2_with fail
  generalize (w.alloc (.cells #[.slice A1 d.st.length c1, .slice A2 d.sy.length c2] 38)) = W0 at hB0 hv0 hz0 ⊢
  refine (szConf_any d A1 A2 c1 c2 1048576 _ (h.below hB0) hb (by omega) (by omega)).mono ?_
  rintro e w1 ⟨r, ⟨rfl, hr1, hr3⟩, hb1⟩
  have hB1 := hB0.trans (hb1.mono (by omega))
  have hv1 := (hb1.block w.heap.size hz0).trans hv0
  by_cases hr : r < 0
  · go_wp2
    go_ret
    exact ⟨rfl, hB1⟩
  · have hs : SmC d := hr3.resolve_left hr
    have hz1 : w.heap.size < w1.heap.size := by have := hb1.size; omega
    have a0 := cell_of_row w1 w.heap.size 0 _ _ _ hv1
    have a1 := cell_of_row w1 w.heap.size 1 _ _ _ hv1
    clear hr1 hr3 hb hv0 hb1 hB0 hz0
    go_wp2_with fail
    refine (toConf_any d A1 A2 c1 c2 _ (h.below hB1) hs).mono ?_
    rintro e w2 ⟨g1, g2, hv, ⟨rfl, o2⟩, hb2⟩
    have hB2 := hB1.trans (hb2.mono hB1.size)
    by_cases hc : confB d = true
    · have HC := Lib.hid hc
      clear hc
      go_wp2_with fail
      refine (specNew_t HC.out _ _ _ _ _ o2.has hs).mono ?_
      rintro e w3 ⟨B1, b1, B2, b2, ⟨rfl, hS⟩, hb3⟩
      have hB3 := hB2.trans (hb3.mono hB2.size)
      have hv3 := ((hb2.trans (hb3.mono hb2.size)).block w.heap.size hz1).trans hv1
      have hz3 : w.heap.size < w3.heap.size := by have := hb2.size; have := hb3.size; omega
      have fW4 : Below w3.heap.size w3 (w3.alloc (.cells #[.slice B1 d.st.length b1, .slice B2 d.sy.length b2, .slice none 0 0] 54)) := (Below.refl _ _).alloc (Nat.le_refl _) _
      have rW4 : (w3.alloc (.cells #[.slice B1 d.st.length b1, .slice B2 d.sy.length b2, .slice none 0 0] 54)).heap[w3.heap.size]? = some (.cells #[.slice B1 d.st.length b1, .slice B2 d.sy.length b2, .slice none 0 0] 54 (0, 0)) := heap_alloc_new _ _
      have hzW4 : w3.heap.size < (w3.alloc (.cells #[.slice B1 d.st.length b1, .slice B2 d.sy.length b2, .slice none 0 0] 54)).heap.size := by simp
      have hvW4 := (fW4.block w.heap.size hz3).trans hv3
      have a40 := cell_of_row (w3.alloc (.cells #[.slice B1 d.st.length b1, .slice B2 d.sy.length b2, .slice none 0 0] 54)) w.heap.size 0 _ _ _ hvW4
      have a41 := cell_of_row (w3.alloc (.cells #[.slice B1 d.st.length b1, .slice B2 d.sy.length b2, .slice none 0 0] 54)) w.heap.size 1 _ _ _ hvW4
      have b30 := cell_of_row w3 w.heap.size 0 _ _ _ hv3
      have b31 := cell_of_row w3 w.heap.size 1 _ _ _ hv3
      have ne3 : ¬ w3.heap.size = w.heap.size := by omega
      have hB4 := hB3.trans (fW4.mono hB3.size)
      have hS4 := hS.below fW4
      go_wp2_with fail
      clear a40 a41 b30 b31 ne3 hS hb2 hb3 hv1 hv3 hz1 o2 a0 a1 hB1 hB2 hB3 fW4
      generalize (w3.alloc (.cells #[.slice B1 d.st.length b1, .slice B2 d.sy.length b2, .slice none 0 0] 54)) = W4 at rW4 hvW4 hB4 hS4 hzW4 ⊢
      generalize w3.heap.size = p0 at rW4 hz3 hzW4 ⊢
      have hz4 : w.heap.size < W4.heap.size := by omega
      have kb0 : ∀ V, Below W4.heap.size W4 V → V.cell? ⟨w.heap.size, 0, none⟩ = some (.slice A1 d.st.length c1) := fun V hV => (belowL hV hz4).trans (cell_of_row W4 w.heap.size 0 _ _ _ hvW4)
      have kb1 : ∀ V, Below W4.heap.size W4 V → V.cell? ⟨w.heap.size, 1, none⟩ = some (.slice A2 d.sy.length c2) := fun V hV => (belowL hV hz4).trans (cell_of_row W4 w.heap.size 1 _ _ _ hvW4)
      have ks0 : ∀ V, Below W4.heap.size W4 V → V.cell? ⟨p0, 0, none⟩ = some (.slice B1 d.st.length b1) := fun V hV => (belowL hV hzW4).trans (cell_of_row W4 p0 0 _ _ _ rW4)
      have ks1 : ∀ V, Below W4.heap.size W4 V → V.cell? ⟨p0, 1, none⟩ = some (.slice B2 d.sy.length b2) := fun V hV => (belowL hV hzW4).trans (cell_of_row W4 p0 1 _ _ _ rW4)
      have ks2 : ∀ V, Below W4.heap.size W4 V → V.cell? ⟨p0, 2, none⟩ = some (.slice none 0 0) := fun V hV => (belowL hV hzW4).trans (cell_of_row W4 p0 2 _ _ _ rW4)
      have KB0 := Lib.hid kb0
      have KB1 := Lib.hid kb1
      have KS0 := Lib.hid ks0
      have KS1 := Lib.hid ks1
      have KS2 := Lib.hid ks2
      have HS := Lib.hid (fun V (hV : Below W4.heap.size W4 V) => hS4.below hV)
      have HA := Lib.hid (fun V (hV : Below W4.heap.size W4 V) => (h.below hB4).below hV)
      clear kb0 kb1 ks0 ks1 ks2 hvW4 rW4 hS4
      refine (toConf_any d A1 A2 c1 c2 _ (HA.out _ (Below.refl _ _)) hs).mono ?_
      rintro e w5 ⟨x1, x2, hx, ⟨rfl, o5⟩, hb5⟩
      have fW6 : Below w5.heap.size w5 (w5.alloc (.cells #[.slice (some ⟨x1, 0, none⟩) d.st.length d.st.length, .slice (some ⟨x2, 0, none⟩) d.sy.length d.sy.length] 26)) := (Below.refl _ _).alloc (Nat.le_refl _) _
      have rW6 : (w5.alloc (.cells #[.slice (some ⟨x1, 0, none⟩) d.st.length d.st.length, .slice (some ⟨x2, 0, none⟩) d.sy.length d.sy.length] 26)).heap[w5.heap.size]? = some (.cells #[.slice (some ⟨x1, 0, none⟩) d.st.length d.st.length, .slice (some ⟨x2, 0, none⟩) d.sy.length d.sy.length] 26 (0, 0)) := heap_alloc_new _ _
      have hzW6 : w5.heap.size < (w5.alloc (.cells #[.slice (some ⟨x1, 0, none⟩) d.st.length d.st.length, .slice (some ⟨x2, 0, none⟩) d.sy.length d.sy.length] 26)).heap.size := by simp
      have o6 := o5.below fW6
      have H6 := hb5.trans (fW6.mono hb5.size)
      have HT := Lib.hid o5.lt
      have s5 := hb5.size
      have s6 := fW6.size
      have q60 := cell_of_row (w5.alloc (.cells #[.slice (some ⟨x1, 0, none⟩) d.st.length d.st.length, .slice (some ⟨x2, 0, none⟩) d.sy.length d.sy.length] 26)) w5.heap.size 0 _ _ _ rW6
      have q61 := cell_of_row (w5.alloc (.cells #[.slice (some ⟨x1, 0, none⟩) d.st.length d.st.length, .slice (some ⟨x2, 0, none⟩) d.sy.length d.sy.length] 26)) w5.heap.size 1 _ _ _ rW6
      go_wp2_with fail
      clear q60 q61 fW6 o5
      generalize (w5.alloc (.cells #[.slice (some ⟨x1, 0, none⟩) d.st.length d.st.length, .slice (some ⟨x2, 0, none⟩) d.sy.length d.sy.length] 26)) = W6 at rW6 o6 hzW6 H6 s6 ⊢
      refine (indexNew_t HC.out _ _ _ _ _ o6.has hs).mono ?_
      rintro e w7 ⟨y1, y3, y2, y4, hy, A5, ⟨rfl, o7⟩, hb7⟩
      have H7 := H6.trans (hb7.mono (by omega))
      have fW8 : Below w7.heap.size w7 (w7.alloc (.cells #[.slice (some ⟨y1, 0, none⟩) d.st.length y3, .slice (some ⟨y2, 0, none⟩) d.sy.length y4, .slice A5 0 0] 54)) := (Below.refl _ _).alloc (Nat.le_refl _) _
      have rW8 : (w7.alloc (.cells #[.slice (some ⟨y1, 0, none⟩) d.st.length y3, .slice (some ⟨y2, 0, none⟩) d.sy.length y4, .slice A5 0 0] 54)).heap[w7.heap.size]? = some (.cells #[.slice (some ⟨y1, 0, none⟩) d.st.length y3, .slice (some ⟨y2, 0, none⟩) d.sy.length y4, .slice A5 0 0] 54 (0, 0)) := heap_alloc_new _ _
      have hzW8 : w7.heap.size < (w7.alloc (.cells #[.slice (some ⟨y1, 0, none⟩) d.st.length y3, .slice (some ⟨y2, 0, none⟩) d.sy.length y4, .slice A5 0 0] 54)).heap.size := by simp
      have H8 := H7.trans (fW8.mono (by have := hb7.size; omega))
      have o8 := o7.below fW8
      have x8 := (o6.below hb7).below fW8
      have rx8 := (fW8.block w5.heap.size (by have := hb7.size; omega)).trans ((hb7.block w5.heap.size hzW6).trans rW6)
      have s8 := fW8.size
      have s7 := hb7.size
      have g80 := cell_of_row (w7.alloc (.cells #[.slice (some ⟨y1, 0, none⟩) d.st.length y3, .slice (some ⟨y2, 0, none⟩) d.sy.length y4, .slice A5 0 0] 54)) w7.heap.size 0 _ _ _ rW8
      have g81 := cell_of_row (w7.alloc (.cells #[.slice (some ⟨y1, 0, none⟩) d.st.length y3, .slice (some ⟨y2, 0, none⟩) d.sy.length y4, .slice A5 0 0] 54)) w7.heap.size 1 _ _ _ rW8
      have g82 := cell_of_row (w7.alloc (.cells #[.slice (some ⟨y1, 0, none⟩) d.st.length y3, .slice (some ⟨y2, 0, none⟩) d.sy.length y4, .slice A5 0 0] 54)) w7.heap.size 2 _ _ _ rW8
      have m80 := KS0.out _ H8
      have m81 := KS1.out _ H8
      have m82 := KS2.out _ H8
      have m70 := KS0.out _ H7
      have m71 := KS1.out _ H7
      have m72 := KS2.out _ H7
      have ne7 : ¬ w7.heap.size = p0 := by omega
      go_wp2_with fail
      clear g80 g81 g82 m80 m81 m82 m70 m71 m72 ne7 fW8
      generalize (w7.alloc (.cells #[.slice (some ⟨y1, 0, none⟩) d.st.length y3, .slice (some ⟨y2, 0, none⟩) d.sy.length y4, .slice A5 0 0] 54)) = W8 at rW8 o8 x8 rx8 hzW8 H8 s8 ⊢
      refine (eqIndex_same d _ _ _ _ _ _ _ _ _ _ _ _ _ o8.has (HS.out _ H8) hs).mono ?_
      rintro e w9 ⟨rfl, hb9⟩
      have H9 := H8.trans (hb9.mono (by omega))
      have s9 := hb9.size
      have x9 := x8.below hb9
      have o9 := o8.below hb9
      have rx9 := (hb9.block w5.heap.size (by omega)).trans rx8
      have HG := Lib.hid o7.lt
      have rg9 := (hb9.block w7.heap.size (by omega)).trans rW8
      clear o7 rW6 x8 o8 rx8 rW8 hb7 hb9 H7 H6
      have kx0 : ∀ V, Below w9.heap.size w9 V → V.cell? ⟨w5.heap.size, 0, none⟩ = some (.slice (some ⟨x1, 0, none⟩) d.st.length d.st.length) := fun V hV => (belowL hV (by omega)).trans (cell_of_row w9 w5.heap.size 0 _ _ _ rx9)
      have kx1 : ∀ V, Below w9.heap.size w9 V → V.cell? ⟨w5.heap.size, 1, none⟩ = some (.slice (some ⟨x2, 0, none⟩) d.sy.length d.sy.length) := fun V hV => (belowL hV (by omega)).trans (cell_of_row w9 w5.heap.size 1 _ _ _ rx9)
      have kb0 : ∀ V, Below w9.heap.size w9 V → V.cell? ⟨w.heap.size, 0, none⟩ = some (.slice A1 d.st.length c1) := fun V hV => KB0.out V (H9.trans (hV.mono (by omega)))
      have kb1 : ∀ V, Below w9.heap.size w9 V → V.cell? ⟨w.heap.size, 1, none⟩ = some (.slice A2 d.sy.length c2) := fun V hV => KB1.out V (H9.trans (hV.mono (by omega)))
      have HA9 := Lib.hid (fun V (hV : Below w9.heap.size w9 V) => HA.out V (H9.trans (hV.mono (by omega))))
      have X9 := Lib.hid x9
      go_wp2_with fail
      go_region_held3 (fun V => Below w9.heap.size w9 V)
        ((repeat' (first | exact Below.refl _ _ | assumption | apply Below.alloc | apply Below.setCell | apply Below.drew | (refine Below.trans ?_ (Below.mono (by assumption) ?_)))) <;> (first | exact Below.size (by assumption) | omega | (simp; done) | (simp; omega) | (refine Nat.le_trans ?_ (Below.size (by assumption)); (first | omega | (simp <;> omega)))))
        (first
        | (go_at_call 16; refine (toConf_any d A1 A2 c1 c2 _ (HA9.out _ (by assumption)) hs).mono ?_; rintro e w10 ⟨x3, x4, hx2, ⟨rfl, o10⟩, hb10⟩; have O10 := Lib.hid o10.has)
        | (go_at_call 18; refine (eqConf_same d _ _ _ _ _ _ _ _ _ (X9.out.below (by assumption)).has O10.out hs).mono ?_; rintro e w11 ⟨rfl, hb11⟩))
      rename_i hH
      clear kx0 kx1 kb0 kb1 HA9 X9
      have H11 := H9.trans (hH.mono (by omega))
      have x11 := x9.below hH
      have o11 := o9.below hH
      have s11 := hH.size
      have rx11 := (hH.block w5.heap.size (by omega)).trans rx9
      have rg11 := (hH.block w7.heap.size (by omega)).trans rg9
      have q0 := cell_of_row w11 w5.heap.size 0 _ _ _ rx11
      have q1 := cell_of_row w11 w5.heap.size 1 _ _ _ rx11
      clear x9 o9 rx9 rg9
      go_wp2_with fail
      clear q0 q1
      obtain ⟨l1, l2, l3⟩ := HT.out
      have LT := Lib.hid l3
      clear l3
      refine (markConf_d (T := w5.heap.size) x11 hs l1.2 l2.2 (fun m hm => (LT.out m hm).2) (by omega)).mono ?_
      rintro e w12 ⟨q, rfl, z12⟩
      have H12 := H11.trans (z12.below (Nat.le_refl _) H11.size)
      obtain ⟨m1, m2, m3⟩ := HG.out
      have LG := Lib.hid m3
      clear m3
      have o12 := o11.zone z12 (.inr (by omega)) (.inr (by omega)) (fun m hm => .inr (by have := LG.out m hm; omega))
      have rg12 := (z12.2.2 w7.heap.size (by omega) (.inr (by omega))).trans rg11
      have s12 := z12.2.1
      have nq : ¬ ((q : Int) < 0) := by omega
      have g0 := cell_of_row w12 w7.heap.size 0 _ _ _ rg12
      have g1 := cell_of_row w12 w7.heap.size 1 _ _ _ rg12
      have g2 := cell_of_row w12 w7.heap.size 2 _ _ _ rg12
      have t0 := KS0.out _ H12
      have t1 := KS1.out _ H12
      have t2 := KS2.out _ H12
      clear x11 o11 rx11 rg11 z12 HT
      go_wp2_with fail
      clear g0 g1 g2 t0 t1 t2
      refine (eqIndex_same d _ _ _ _ _ _ _ _ _ _ _ _ _ o12.has (HS.out _ H12) hs).mono ?_
      rintro e w13 ⟨rfl, b13⟩
      have H13 := H12.trans (b13.mono (by omega))
      have s13 := b13.size
      have o13 := o12.below b13
      have rg13 := (b13.block w7.heap.size (by omega)).trans rg12
      have g0 := cell_of_row w13 w7.heap.size 0 _ _ _ rg13
      have g1 := cell_of_row w13 w7.heap.size 1 _ _ _ rg13
      have g2 := cell_of_row w13 w7.heap.size 2 _ _ _ rg13
      clear o12 rg12 nq
      go_wp2_with fail
      clear g0 g1 g2
      refine (markIndex_d (T := w7.heap.size) o13 hs m1.2 m2.2 (fun m hm => (LG.out m hm).2) (by omega) (by omega)).mono ?_
      rintro e w14 ⟨⟨rfl, k14⟩, z14⟩
      have HD := Lib.hid (fun A5 c5 V h => heldIndex_any d.st d.sy (some ⟨y1, 0, none⟩) (some ⟨y2, 0, none⟩) A5 y3 y4 c5 1 V h hs (by omega) (by omega))
      generalize endS (1 + d.st.length) d.sy = E at HD ⊢
      have nE : ¬ ((E : Int) < 0) := by omega
      have H14 := H13.trans (z14.below (by omega) (by omega))
      have s14 := z14.2.1
      have rg14 := (z14.2.2 w7.heap.size (by omega) (.inr (by omega))).trans rg13
      have K14 := Lib.hid (fun V (hV : Below w14.heap.size w14 V) => k14.below hV)
      have g0 := cell_of_row w14 w7.heap.size 0 _ _ _ rg14
      have g1 := cell_of_row w14 w7.heap.size 1 _ _ _ rg14
      have g2 := cell_of_row w14 w7.heap.size 2 _ _ _ rg14
      clear o13 rg13 k14 z14
      go_wp2_with fail
      clear g0 g1 g2
      refine (HD.out _ _ _ (K14.out _ (Below.refl _ _))).mono ?_
      rintro e w15 ⟨rfl, b15⟩
      have H15 := H14.trans (b15.mono (by omega))
      have s15 := b15.size
      have c0 := KB0.out _ H15
      have c1x := KB1.out _ H15
      go_wp2_with fail
      clear c0 c1x
      refine (toConf_any d A1 A2 c1 c2 _ (HA.out _ H15) hs).mono ?_
      rintro e w16 ⟨u1, u2, hu, ⟨rfl, o16⟩, b16⟩
      have s16 := b16.size
      go_wp2_with fail
      refine (indexNew_t HC.out _ _ _ _ _ o16.has hs).mono ?_
      rintro e w17 ⟨v1, v3, v2, v4, hw, A6, ⟨rfl, o17⟩, b17⟩
      have s17 := b17.size
      have B17 : Below w14.heap.size w14 w17 := (b15.trans (b16.mono s15)).trans (b17.mono (by omega))
      have fW18 : Below w17.heap.size w17 (w17.alloc (.cells #[.slice (some ⟨v1, 0, none⟩) d.st.length v3, .slice (some ⟨v2, 0, none⟩) d.sy.length v4, .slice A6 0 0] 54)) := (Below.refl _ _).alloc (Nat.le_refl _) _
      have rW18 : (w17.alloc (.cells #[.slice (some ⟨v1, 0, none⟩) d.st.length v3, .slice (some ⟨v2, 0, none⟩) d.sy.length v4, .slice A6 0 0] 54)).heap[w17.heap.size]? = some (.cells #[.slice (some ⟨v1, 0, none⟩) d.st.length v3, .slice (some ⟨v2, 0, none⟩) d.sy.length v4, .slice A6 0 0] 54 (0, 0)) := heap_alloc_new _ _
      have hzW18 : w17.heap.size < (w17.alloc (.cells #[.slice (some ⟨v1, 0, none⟩) d.st.length v3, .slice (some ⟨v2, 0, none⟩) d.sy.length v4, .slice A6 0 0] 54)).heap.size := by simp
      have B18 := B17.trans (fW18.mono (by omega))
      have H18 := H14.trans (B18.mono (by omega))
      have H17 := H14.trans (B17.mono (by omega))
      have o18 := o17.below fW18
      have s18 := fW18.size
      have g0 := cell_of_row (w17.alloc (.cells #[.slice (some ⟨v1, 0, none⟩) d.st.length v3, .slice (some ⟨v2, 0, none⟩) d.sy.length v4, .slice A6 0 0] 54)) w17.heap.size 0 _ _ _ rW18
      have g1 := cell_of_row (w17.alloc (.cells #[.slice (some ⟨v1, 0, none⟩) d.st.length v3, .slice (some ⟨v2, 0, none⟩) d.sy.length v4, .slice A6 0 0] 54)) w17.heap.size 1 _ _ _ rW18
      have g2 := cell_of_row (w17.alloc (.cells #[.slice (some ⟨v1, 0, none⟩) d.st.length v3, .slice (some ⟨v2, 0, none⟩) d.sy.length v4, .slice A6 0 0] 54)) w17.heap.size 2 _ _ _ rW18
      have t0 := KS0.out _ H18
      have t1 := KS1.out _ H18
      have t2 := KS2.out _ H18
      have ta0 := KS0.out _ H17
      have ta1 := KS1.out _ H17
      have ta2 := KS2.out _ H17
      have ne17 : ¬ w17.heap.size = p0 := by omega
      have s8x : W4.heap.size ≤ w14.heap.size := H14.size
      go_wp2_with fail
      clear g0 g1 g2 t0 t1 t2 ta0 ta1 ta2 ne17 fW18
      generalize (w17.alloc (.cells #[.slice (some ⟨v1, 0, none⟩) d.st.length v3, .slice (some ⟨v2, 0, none⟩) d.sy.length v4, .slice A6 0 0] 54)) = W18 at rW18 o18 hzW18 H18 B18 s18 ⊢
      refine (eqIndex_same d _ _ _ _ _ _ _ _ _ _ _ _ _ o18.has (HS.out _ H18) hs).mono ?_
      rintro e w19 ⟨rfl, b19⟩
      have B19 := B18.trans (b19.mono (by omega))
      have rg19 := (B19.block w7.heap.size (by omega)).trans rg14
      have g0 := cell_of_row w19 w7.heap.size 0 _ _ _ rg19
      have g1 := cell_of_row w19 w7.heap.size 1 _ _ _ rg19
      have g2 := cell_of_row w19 w7.heap.size 2 _ _ _ rg19
      go_wp2_with fail
      clear g0 g1 g2
      refine (HD.out _ _ _ (K14.out _ B19)).mono ?_
      rintro e w20 ⟨rfl, b20⟩
      have F := Lib.hid (hB4.trans (((H14.trans (B19.mono s8x))).trans (b20.mono (by have := B19.size; omega)) |>.mono (by omega)))
      go_wp2
      go_ret
      exact ⟨rfl, F.out⟩
    · have HC := Lib.hid (show confB d = false by simpa using hc)
      clear hc
      go_wp2_with fail
      refine (specNew_f HC.out _ _ _ _ _ o2.has hs).mono ?_
      rintro e w3 ⟨rfl, hb3⟩
      have hB3 := hB2.trans (hb3.mono hB2.size)
      have hv3 := ((hb2.trans (hb3.mono hb2.size)).block w.heap.size hz1).trans hv1
      have hz3 : w.heap.size < w3.heap.size := by have := hb2.size; have := hb3.size; omega
      have fW4 : Below w3.heap.size w3 (w3.alloc (.cells #[.slice none 0 0, .slice none 0 0, .slice none 0 0] 54)) := (Below.refl _ _).alloc (Nat.le_refl _) _
      have rW4 : (w3.alloc (.cells #[.slice none 0 0, .slice none 0 0, .slice none 0 0] 54)).heap[w3.heap.size]? = some (.cells #[.slice none 0 0, .slice none 0 0, .slice none 0 0] 54 (0, 0)) := heap_alloc_new _ _
      have hzW4 : w3.heap.size < (w3.alloc (.cells #[.slice none 0 0, .slice none 0 0, .slice none 0 0] 54)).heap.size := by simp
      have hvW4 := (fW4.block w.heap.size hz3).trans hv3
      have a40 := cell_of_row (w3.alloc (.cells #[.slice none 0 0, .slice none 0 0, .slice none 0 0] 54)) w.heap.size 0 _ _ _ hvW4
      have a41 := cell_of_row (w3.alloc (.cells #[.slice none 0 0, .slice none 0 0, .slice none 0 0] 54)) w.heap.size 1 _ _ _ hvW4
      have b30 := cell_of_row w3 w.heap.size 0 _ _ _ hv3
      have b31 := cell_of_row w3 w.heap.size 1 _ _ _ hv3
      have ne3 : ¬ w3.heap.size = w.heap.size := by omega
      have hB4 := hB3.trans (fW4.mono hB3.size)
      go_wp2_with fail
      clear a40 a41 b30 b31 ne3 hb2 hb3 hv1 hv3 hz1 o2 a0 a1 hB1 hB2 hB3 fW4
      generalize (w3.alloc (.cells #[.slice none 0 0, .slice none 0 0, .slice none 0 0] 54)) = W4 at rW4 hvW4 hB4 hzW4 ⊢
      generalize w3.heap.size = p0 at rW4 hz3 hzW4 ⊢
      have hz4 : w.heap.size < W4.heap.size := by omega
      have kb0 : ∀ V, Below W4.heap.size W4 V → V.cell? ⟨w.heap.size, 0, none⟩ = some (.slice A1 d.st.length c1) := fun V hV => (belowL hV hz4).trans (cell_of_row W4 w.heap.size 0 _ _ _ hvW4)
      have kb1 : ∀ V, Below W4.heap.size W4 V → V.cell? ⟨w.heap.size, 1, none⟩ = some (.slice A2 d.sy.length c2) := fun V hV => (belowL hV hz4).trans (cell_of_row W4 w.heap.size 1 _ _ _ hvW4)
      have ks0 : ∀ V, Below W4.heap.size W4 V → V.cell? ⟨p0, 0, none⟩ = some (.slice none 0 0) := fun V hV => (belowL hV hzW4).trans (cell_of_row W4 p0 0 _ _ _ rW4)
      have ks1 : ∀ V, Below W4.heap.size W4 V → V.cell? ⟨p0, 1, none⟩ = some (.slice none 0 0) := fun V hV => (belowL hV hzW4).trans (cell_of_row W4 p0 1 _ _ _ rW4)
      have ks2 : ∀ V, Below W4.heap.size W4 V → V.cell? ⟨p0, 2, none⟩ = some (.slice none 0 0) := fun V hV => (belowL hV hzW4).trans (cell_of_row W4 p0 2 _ _ _ rW4)
      have KB0 := Lib.hid kb0
      have KB1 := Lib.hid kb1
      have KS0 := Lib.hid ks0
      have KS1 := Lib.hid ks1
      have KS2 := Lib.hid ks2
      have HA := Lib.hid (fun V (hV : Below W4.heap.size W4 V) => (h.below hB4).below hV)
      clear kb0 kb1 ks0 ks1 ks2 hvW4 rW4
      refine (toConf_any d A1 A2 c1 c2 _ (HA.out _ (Below.refl _ _)) hs).mono ?_
      rintro e w5 ⟨x1, x2, hx, ⟨rfl, o5⟩, hb5⟩
      have fW6 : Below w5.heap.size w5 (w5.alloc (.cells #[.slice (some ⟨x1, 0, none⟩) d.st.length d.st.length, .slice (some ⟨x2, 0, none⟩) d.sy.length d.sy.length] 26)) := (Below.refl _ _).alloc (Nat.le_refl _) _
      have rW6 : (w5.alloc (.cells #[.slice (some ⟨x1, 0, none⟩) d.st.length d.st.length, .slice (some ⟨x2, 0, none⟩) d.sy.length d.sy.length] 26)).heap[w5.heap.size]? = some (.cells #[.slice (some ⟨x1, 0, none⟩) d.st.length d.st.length, .slice (some ⟨x2, 0, none⟩) d.sy.length d.sy.length] 26 (0, 0)) := heap_alloc_new _ _
      have hzW6 : w5.heap.size < (w5.alloc (.cells #[.slice (some ⟨x1, 0, none⟩) d.st.length d.st.length, .slice (some ⟨x2, 0, none⟩) d.sy.length d.sy.length] 26)).heap.size := by simp
      have o6 := o5.below fW6
      have H6 := hb5.trans (fW6.mono hb5.size)
      have HT := Lib.hid o5.lt
      have s5 := hb5.size
      have s6 := fW6.size
      have q60 := cell_of_row (w5.alloc (.cells #[.slice (some ⟨x1, 0, none⟩) d.st.length d.st.length, .slice (some ⟨x2, 0, none⟩) d.sy.length d.sy.length] 26)) w5.heap.size 0 _ _ _ rW6
      have q61 := cell_of_row (w5.alloc (.cells #[.slice (some ⟨x1, 0, none⟩) d.st.length d.st.length, .slice (some ⟨x2, 0, none⟩) d.sy.length d.sy.length] 26)) w5.heap.size 1 _ _ _ rW6
      go_wp2_with fail
      clear q60 q61 fW6 o5
      generalize (w5.alloc (.cells #[.slice (some ⟨x1, 0, none⟩) d.st.length d.st.length, .slice (some ⟨x2, 0, none⟩) d.sy.length d.sy.length] 26)) = W6 at rW6 o6 hzW6 H6 s6 ⊢
      refine (indexNew_f HC.out _ _ _ _ _ o6.has hs).mono ?_
      rintro e w7 ⟨rfl, hb7⟩
      have H7 := H6.trans (hb7.mono (by omega))
      have fW8 : Below w7.heap.size w7 (w7.alloc (.cells #[.slice none 0 0, .slice none 0 0, .slice none 0 0] 54)) := (Below.refl _ _).alloc (Nat.le_refl _) _
      have rW8 : (w7.alloc (.cells #[.slice none 0 0, .slice none 0 0, .slice none 0 0] 54)).heap[w7.heap.size]? = some (.cells #[.slice none 0 0, .slice none 0 0, .slice none 0 0] 54 (0, 0)) := heap_alloc_new _ _
      have hzW8 : w7.heap.size < (w7.alloc (.cells #[.slice none 0 0, .slice none 0 0, .slice none 0 0] 54)).heap.size := by simp
      have H8 := H7.trans (fW8.mono (by have := hb7.size; omega))
      have x8 := (o6.below hb7).below fW8
      have rx8 := (fW8.block w5.heap.size (by have := hb7.size; omega)).trans ((hb7.block w5.heap.size hzW6).trans rW6)
      have s8 := fW8.size
      have s7 := hb7.size
      have g80 := cell_of_row (w7.alloc (.cells #[.slice none 0 0, .slice none 0 0, .slice none 0 0] 54)) w7.heap.size 0 _ _ _ rW8
      have g81 := cell_of_row (w7.alloc (.cells #[.slice none 0 0, .slice none 0 0, .slice none 0 0] 54)) w7.heap.size 1 _ _ _ rW8
      have g82 := cell_of_row (w7.alloc (.cells #[.slice none 0 0, .slice none 0 0, .slice none 0 0] 54)) w7.heap.size 2 _ _ _ rW8
      have m80 := KS0.out _ H8
      have m81 := KS1.out _ H8
      have m82 := KS2.out _ H8
      have m70 := KS0.out _ H7
      have m71 := KS1.out _ H7
      have m72 := KS2.out _ H7
      have ne7 : ¬ w7.heap.size = p0 := by omega
      go_wp2_with fail
      clear g80 g81 g82 m80 m81 m82 m70 m71 m72 ne7 fW8
      generalize (w7.alloc (.cells #[.slice none 0 0, .slice none 0 0, .slice none 0 0] 54)) = W8 at rW8 x8 rx8 hzW8 H8 s8 ⊢
      refine (eqIndex_nil _).mono ?_
      rintro e w9 ⟨rfl, hb9⟩
      have H9 := H8.trans (hb9.mono (by omega))
      have s9 := hb9.size
      have x9 := x8.below hb9
      have rx9 := (hb9.block w5.heap.size (by omega)).trans rx8
      have rg9 := (hb9.block w7.heap.size (by omega)).trans rW8
      clear rW6 x8 rx8 rW8 hb7 hb9 H7 H6
      have kx0 : ∀ V, Below w9.heap.size w9 V → V.cell? ⟨w5.heap.size, 0, none⟩ = some (.slice (some ⟨x1, 0, none⟩) d.st.length d.st.length) := fun V hV => (belowL hV (by omega)).trans (cell_of_row w9 w5.heap.size 0 _ _ _ rx9)
      have kx1 : ∀ V, Below w9.heap.size w9 V → V.cell? ⟨w5.heap.size, 1, none⟩ = some (.slice (some ⟨x2, 0, none⟩) d.sy.length d.sy.length) := fun V hV => (belowL hV (by omega)).trans (cell_of_row w9 w5.heap.size 1 _ _ _ rx9)
      have kb0 : ∀ V, Below w9.heap.size w9 V → V.cell? ⟨w.heap.size, 0, none⟩ = some (.slice A1 d.st.length c1) := fun V hV => KB0.out V (H9.trans (hV.mono (by omega)))
      have kb1 : ∀ V, Below w9.heap.size w9 V → V.cell? ⟨w.heap.size, 1, none⟩ = some (.slice A2 d.sy.length c2) := fun V hV => KB1.out V (H9.trans (hV.mono (by omega)))
      have HA9 := Lib.hid (fun V (hV : Below w9.heap.size w9 V) => HA.out V (H9.trans (hV.mono (by omega))))
      have X9 := Lib.hid x9
      go_wp2_with fail
      go_region_held3 (fun V => Below w9.heap.size w9 V)
        ((repeat' (first | exact Below.refl _ _ | assumption | apply Below.alloc | apply Below.setCell | apply Below.drew | (refine Below.trans ?_ (Below.mono (by assumption) ?_)))) <;> (first | exact Below.size (by assumption) | omega | (simp; done) | (simp; omega) | (refine Nat.le_trans ?_ (Below.size (by assumption)); (first | omega | (simp <;> omega)))))
        (first
        | (go_at_call 16; refine (toConf_any d A1 A2 c1 c2 _ (HA9.out _ (by assumption)) hs).mono ?_; rintro e w10 ⟨x3, x4, hx2, ⟨rfl, o10⟩, hb10⟩; have O10 := Lib.hid o10.has)
        | (go_at_call 18; refine (eqConf_same d _ _ _ _ _ _ _ _ _ (X9.out.below (by assumption)).has O10.out hs).mono ?_; rintro e w11 ⟨rfl, hb11⟩))
      rename_i hH
      clear kx0 kx1 kb0 kb1 HA9 X9
      have H11 := H9.trans (hH.mono (by omega))
      have x11 := x9.below hH
      have s11 := hH.size
      have rx11 := (hH.block w5.heap.size (by omega)).trans rx9
      have rg11 := (hH.block w7.heap.size (by omega)).trans rg9
      have q0 := cell_of_row w11 w5.heap.size 0 _ _ _ rx11
      have q1 := cell_of_row w11 w5.heap.size 1 _ _ _ rx11
      clear x9 rx9 rg9
      go_wp2_with fail
      clear q0 q1
      obtain ⟨l1, l2, l3⟩ := HT.out
      have LT := Lib.hid l3
      clear l3
      refine (markConf_d (T := w5.heap.size) x11 hs l1.2 l2.2 (fun m hm => (LT.out m hm).2) (by omega)).mono ?_
      rintro e w12 ⟨q, rfl, z12⟩
      have H12 := H11.trans (z12.below (Nat.le_refl _) H11.size)
      have rg12 := (z12.2.2 w7.heap.size (by omega) (.inr (by omega))).trans rg11
      have s12 := z12.2.1
      have nq : ¬ ((q : Int) < 0) := by omega
      have g0 := cell_of_row w12 w7.heap.size 0 _ _ _ rg12
      have g1 := cell_of_row w12 w7.heap.size 1 _ _ _ rg12
      have g2 := cell_of_row w12 w7.heap.size 2 _ _ _ rg12
      have t0 := KS0.out _ H12
      have t1 := KS1.out _ H12
      have t2 := KS2.out _ H12
      clear x11 rx11 rg11 z12 HT
      go_wp2_with fail
      clear g0 g1 g2 t0 t1 t2
      refine (eqIndex_nil _).mono ?_
      rintro e w13 ⟨rfl, b13⟩
      have H13 := H12.trans (b13.mono (by omega))
      have s13 := b13.size
      have rg13 := (b13.block w7.heap.size (by omega)).trans rg12
      have g0 := cell_of_row w13 w7.heap.size 0 _ _ _ rg13
      have g1 := cell_of_row w13 w7.heap.size 1 _ _ _ rg13
      have g2 := cell_of_row w13 w7.heap.size 2 _ _ _ rg13
      clear rg12 nq
      go_wp2_with fail
      clear g0 g1 g2
      refine (markIndex_nil 1 _).mono ?_
      rintro e w14 ⟨rfl, b14⟩
      have H14 := H13.trans (b14.mono (by omega))
      have s14 := b14.size
      have rg14 := (b14.block w7.heap.size (by omega)).trans rg13
      have g0 := cell_of_row w14 w7.heap.size 0 _ _ _ rg14
      have g1 := cell_of_row w14 w7.heap.size 1 _ _ _ rg14
      have g2 := cell_of_row w14 w7.heap.size 2 _ _ _ rg14
      clear rg13
      go_wp2_with fail
      clear g0 g1 g2
      refine (heldIndex_nil _).mono ?_
      rintro e w15 ⟨rfl, b15⟩
      have H15 := H14.trans (b15.mono (by omega))
      have s15 := b15.size
      have c0 := KB0.out _ H15
      have c1x := KB1.out _ H15
      go_wp2_with fail
      clear c0 c1x
      refine (toConf_any d A1 A2 c1 c2 _ (HA.out _ H15) hs).mono ?_
      rintro e w16 ⟨u1, u2, hu, ⟨rfl, o16⟩, b16⟩
      have s16 := b16.size
      go_wp2_with fail
      refine (indexNew_f HC.out _ _ _ _ _ o16.has hs).mono ?_
      rintro e w17 ⟨rfl, b17⟩
      have s17 := b17.size
      have B17 : Below w14.heap.size w14 w17 := (b15.trans (b16.mono s15)).trans (b17.mono (by omega))
      have fW18 : Below w17.heap.size w17 (w17.alloc (.cells #[.slice none 0 0, .slice none 0 0, .slice none 0 0] 54)) := (Below.refl _ _).alloc (Nat.le_refl _) _
      have rW18 : (w17.alloc (.cells #[.slice none 0 0, .slice none 0 0, .slice none 0 0] 54)).heap[w17.heap.size]? = some (.cells #[.slice none 0 0, .slice none 0 0, .slice none 0 0] 54 (0, 0)) := heap_alloc_new _ _
      have hzW18 : w17.heap.size < (w17.alloc (.cells #[.slice none 0 0, .slice none 0 0, .slice none 0 0] 54)).heap.size := by simp
      have B18 := B17.trans (fW18.mono (by omega))
      have H18 := H14.trans (B18.mono (by omega))
      have H17 := H14.trans (B17.mono (by omega))
      have s18 := fW18.size
      have g0 := cell_of_row (w17.alloc (.cells #[.slice none 0 0, .slice none 0 0, .slice none 0 0] 54)) w17.heap.size 0 _ _ _ rW18
      have g1 := cell_of_row (w17.alloc (.cells #[.slice none 0 0, .slice none 0 0, .slice none 0 0] 54)) w17.heap.size 1 _ _ _ rW18
      have g2 := cell_of_row (w17.alloc (.cells #[.slice none 0 0, .slice none 0 0, .slice none 0 0] 54)) w17.heap.size 2 _ _ _ rW18
      have t0 := KS0.out _ H18
      have t1 := KS1.out _ H18
      have t2 := KS2.out _ H18
      have ta0 := KS0.out _ H17
      have ta1 := KS1.out _ H17
      have ta2 := KS2.out _ H17
      have ne17 : ¬ w17.heap.size = p0 := by omega
      have s8x : W4.heap.size ≤ w14.heap.size := H14.size
      go_wp2_with fail
      clear g0 g1 g2 t0 t1 t2 ta0 ta1 ta2 ne17 fW18
      generalize (w17.alloc (.cells #[.slice none 0 0, .slice none 0 0, .slice none 0 0] 54)) = W18 at rW18 hzW18 H18 B18 s18 ⊢
      refine (eqIndex_nil _).mono ?_
      rintro e w19 ⟨rfl, b19⟩
      have B19 := B18.trans (b19.mono (by omega))
      have rg19 := (B19.block w7.heap.size (by omega)).trans rg14
      have g0 := cell_of_row w19 w7.heap.size 0 _ _ _ rg19
      have g1 := cell_of_row w19 w7.heap.size 1 _ _ _ rg19
      have g2 := cell_of_row w19 w7.heap.size 2 _ _ _ rg19
      go_wp2_with fail
      clear g0 g1 g2
      refine (heldIndex_nil _).mono ?_
      rintro e w20 ⟨rfl, b20⟩
      have F := Lib.hid (hB4.trans (((H14.trans (B19.mono s8x))).trans (b20.mono (by have := B19.size; omega)) |>.mono (by omega)))
      go_wp2
      go_ret
      exact ⟨rfl, F.out⟩
end Go.Proofs.Ytlgomipfhbkklaa
