/-
  Contracts of eqIndex, markIndex, heldIndex.
-/
import Derived.Test.YtlgomipfhbkklaaIndexN
namespace Go.Proofs.Ytlgomipfhbkklaa
open Go.RowKit Go.Sort
set_option linter.unusedVariables false

set_option maxHeartbeats 1600000 in
theorem eqIndex_same (d : ConfD) (A1 A2 A5 B1 B2 B5 : Option Addr) (c1 c2 c5 b1 b2 b5 : Nat) (w : World) (h : HasC w d A1 c1 A2) (h' : HasC w d B1 b1 B2) (hs : SmC d) :
    Calls Try.prog 27 #[.agg #[.slice A1 d.st.length c1, .slice A2 d.sy.length c2, .slice A5 0 c5], .agg #[.slice B1 d.st.length b1, .slice B2 d.sy.length b2, .slice B5 0 b5]] w fun e w' => e = .returned (.bool true) ∧ Below w.heap.size w w' := by
  have EQ := fun w' h h' => eqConf_same d A1 A2 B1 B2 c1 c2 b1 b2 w' h h' hs
  generalize d.st.length = n1 at EQ ⊢
  generalize d.sy.length = n2 at EQ ⊢
  have hB : Below w.heap.size w ((w.alloc (.cells #[.slice A1 n1 c1, .slice A2 n2 c2, .slice A5 0 c5] 54)).alloc (.cells #[.slice B1 n1 b1, .slice B2 n2 b2, .slice B5 0 b5] 54)) := by (repeat' (first | exact Below.refl _ _ | apply Below.alloc | apply Below.setCell | apply Below.drew | apply below_draws)) <;> (first | omega | (simp <;> omega))
  have k0 : ((w.alloc (.cells #[.slice A1 n1 c1, .slice A2 n2 c2, .slice A5 0 c5] 54)).alloc (.cells #[.slice B1 n1 b1, .slice B2 n2 b2, .slice B5 0 b5] 54)).cell? ⟨w.heap.size, 2, none⟩ = some (.slice A5 0 c5) := by simp [go_sem]
  have l0 : ((w.alloc (.cells #[.slice A1 n1 c1, .slice A2 n2 c2, .slice A5 0 c5] 54)).alloc (.cells #[.slice B1 n1 b1, .slice B2 n2 b2, .slice B5 0 b5] 54)).cell? ⟨w.heap.size + 1, 2, none⟩ = some (.slice B5 0 b5) := by simp [go_sem]
  have hsz : w.heap.size + 2 ≤ ((w.alloc (.cells #[.slice A1 n1 c1, .slice A2 n2 c2, .slice A5 0 c5] 54)).alloc (.cells #[.slice B1 n1 b1, .slice B2 n2 b2, .slice B5 0 b5] 54)).heap.size := by simp
  have ha := h.below hB
  have hb := h'.below hB
  go_enter Try.func27, Try.ntmps27
  go_wp2_with fail
  refine (EQ _ ha hb).mono ?_
  rintro e w1 ⟨rfl, hb1⟩
  have k1 := (belowL hb1 (show w.heap.size < _ by omega)).trans k0
  have l1 := (belowL hb1 (show w.heap.size + 1 < _ by omega)).trans l0
  have hB1 := hB.trans (hb1.mono (by omega))
  have hs1 := hB1.size
  clear k0 l0 hb1 hsz EQ ha hb hB
  go_wp2_with fail
  refine (eqLiveS_zero _ _ _ _ _).mono ?_
  rintro e w2 ⟨rfl, hb2⟩
  have hB2 := hB1.trans (hb2.mono hs1)
  clear k1 l1
  go_wp2
  go_ret
  exact ⟨rfl, hB2⟩
set_option maxHeartbeats 1600000 in
theorem heldIndex_any (st : List ByteArray) (sy : List SynD) (A1 A2 A5 : Option Addr) (c1 c2 c5 k : Nat) (w : World) (h : HasC w ⟨mkL k st.length, mkS (k + st.length) sy⟩ A1 c1 A2) (hs : SmC ⟨st, sy⟩) (h0 : 1 ≤ k) (h1 : k ≤ 1000000) :
    Calls Try.prog 30 #[.agg #[.slice A1 st.length c1, .slice A2 sy.length c2, .slice A5 0 c5], .int .i64 k] w fun e w' => e = .returned (.int .i64 ((endS (k + st.length) sy : Nat) : Int)) ∧ Below w.heap.size w w' := by
  have EQ := fun w' h => heldConf_any st sy A1 A2 c1 c2 k w' h hs h0 h1
  generalize endS (k + st.length) sy = E at EQ ⊢
  have hB : Below w.heap.size w (w.alloc (.cells #[.slice A1 st.length c1, .slice A2 sy.length c2, .slice A5 0 c5] 54)) := by (repeat' (first | exact Below.refl _ _ | apply Below.alloc | apply Below.setCell | apply Below.drew | apply below_draws)) <;> (first | omega | (simp <;> omega))
  have k0 : (w.alloc (.cells #[.slice A1 st.length c1, .slice A2 sy.length c2, .slice A5 0 c5] 54)).cell? ⟨w.heap.size, 2, none⟩ = some (.slice A5 0 c5) := by simp [go_sem]
  have hsz : w.heap.size + 1 ≤ (w.alloc (.cells #[.slice A1 st.length c1, .slice A2 sy.length c2, .slice A5 0 c5] 54)).heap.size := by simp
  have ha := h.below hB
  go_enter Try.func30, Try.ntmps30
  go_wp2_with fail
  refine (EQ _ ha).mono ?_
  rintro e w1 ⟨rfl, hb1⟩
  have k1 := (belowL hb1 (show w.heap.size < _ by omega)).trans k0
  have hB1 := hB.trans (hb1.mono (by omega))
  have hs1 := hB1.size
  have e0 : ¬ ((E : Int) < 0) := by omega
  clear k0 hb1 hsz EQ ha hB
  go_wp2_with fail
  refine (heldLiveS_zero _ _ _ _).mono ?_
  rintro e w2 ⟨rfl, hb2⟩
  have hB2 := hB1.trans (hb2.mono hs1)
  clear k1
  go_wp2
  go_ret
  exact ⟨rfl, hB2⟩
set_option maxHeartbeats 1600000 in
theorem markIndex_nil (k : Nat) (w : World) :
    Calls Try.prog 29 #[.agg #[.slice none 0 0, .slice none 0 0, .slice none 0 0], .int .i64 k] w fun e w' => e = .returned (.int .i64 k) ∧ Below w.heap.size w w' := by
  have hB : Below w.heap.size w (w.alloc (.cells #[.slice none 0 0, .slice none 0 0, .slice none 0 0] 54)) := by (repeat' (first | exact Below.refl _ _ | apply Below.alloc | apply Below.setCell | apply Below.drew | apply below_draws)) <;> (first | omega | (simp <;> omega))
  have k0 : (w.alloc (.cells #[.slice none 0 0, .slice none 0 0, .slice none 0 0] 54)).cell? ⟨w.heap.size, 2, none⟩ = some (.slice none 0 0) := by simp [go_sem]
  have hsz : w.heap.size + 1 ≤ (w.alloc (.cells #[.slice none 0 0, .slice none 0 0, .slice none 0 0] 54)).heap.size := by simp
  go_enter Try.func29, Try.ntmps29
  go_wp2_with fail
  refine (markConf_nil none none 0 0 k _).mono ?_
  rintro e w1 ⟨rfl, hb1⟩
  have k1 := (belowL hb1 (show w.heap.size < _ by omega)).trans k0
  have hB1 := hB.trans (hb1.mono (by omega))
  have hs1 := hB1.size
  clear k0 hb1 hsz hB
  go_wp2_with fail
  refine (markLiveS_zero _ _ _ _).mono ?_
  rintro e w2 ⟨rfl, hb2⟩
  have hB2 := hB1.trans (hb2.mono hs1)
  clear k1
  go_wp2
  go_ret
  exact ⟨rfl, hB2⟩
set_option maxHeartbeats 1600000 in
theorem markIndex_any (st : List ByteArray) (hv : List HdY) (A5 : Option Addr) (c5 g1 c1 g2 c2 base T k : Nat) (w : World) (h : OwnC w base ⟨st, hv.map (·.y)⟩ g1 c1 g2 c2 hv) (hs : SmC ⟨st, hv.map (·.y)⟩) (h0 : 1 ≤ k) (h1 : k ≤ 1000000) (hT1 : g1 < T) (hT2 : g2 < T) (hT3 : ∀ m ∈ hv, m.g < T) (hTw : T ≤ w.heap.size) (hbT : base ≤ T) :
    Calls Try.prog 29 #[.agg #[.slice (some ⟨g1, 0, none⟩) st.length c1, .slice (some ⟨g2, 0, none⟩) hv.length c2, .slice A5 0 c5], .int .i64 k] w fun e w' => (e = .returned (.int .i64 ((endH (k + st.length) hv : Nat) : Int)) ∧ OwnC w' base ⟨mkL k st.length, mkS (k + st.length) (hv.map (·.y))⟩ g1 c1 g2 c2 (mkH (k + st.length) hv)) ∧ ZoneR base T w w' := by
  have hB : Below w.heap.size w (w.alloc (.cells #[.slice (some ⟨g1, 0, none⟩) st.length c1, .slice (some ⟨g2, 0, none⟩) hv.length c2, .slice A5 0 c5] 54)) := by (repeat' (first | exact Below.refl _ _ | apply Below.alloc | apply Below.setCell | apply Below.drew | apply below_draws)) <;> (first | omega | (simp <;> omega))
  have k0 : (w.alloc (.cells #[.slice (some ⟨g1, 0, none⟩) st.length c1, .slice (some ⟨g2, 0, none⟩) hv.length c2, .slice A5 0 c5] 54)).heap[w.heap.size]? = some (.cells #[.slice (some ⟨g1, 0, none⟩) st.length c1, .slice (some ⟨g2, 0, none⟩) hv.length c2, .slice A5 0 c5] 54 (0, 0)) := heap_alloc_new w _
  have hsz : w.heap.size + 1 ≤ (w.alloc (.cells #[.slice (some ⟨g1, 0, none⟩) st.length c1, .slice (some ⟨g2, 0, none⟩) hv.length c2, .slice A5 0 c5] 54)).heap.size := by simp
  have ha := h.below hB
  have EQ := fun w' h hT => markConf_any st hv g1 c1 g2 c2 base T k w' h hs h0 h1 hT1 hT2 hT3 hT
  generalize endH (k + st.length) hv = E at EQ ⊢
  go_enter Try.func29, Try.ntmps29
  go_wp2_with fail
  refine (EQ _ ha (by omega)).mono ?_
  rintro e w1 ⟨⟨rfl, hO⟩, hz1⟩
  have i1 := (hz1.2.2 w.heap.size (by omega) (.inr hTw)).trans k0
  have k1 : w1.cell? ⟨w.heap.size, 2, none⟩ = some (.slice A5 0 c5) := by simp [World.cell?, i1]
  have hz := (ZoneR.of (s := base) (t := T) hB).trans hz1
  have HO := Lib.hid hO
  clear k0 hsz EQ ha hB hO h hs i1
  go_wp2_with fail
  refine (markLiveS_zero _ _ _ _).mono ?_
  rintro e w2 ⟨rfl, hb2⟩
  have HZ := Lib.hid (hz.trans (ZoneR.of hb2))
  have HO2 := Lib.hid (HO.out.below hb2)
  clear k1 hz HO
  go_wp2
  go_ret
  exact ⟨⟨rfl, HO2.out⟩, HZ.out⟩
end Go.Proofs.Ytlgomipfhbkklaa
