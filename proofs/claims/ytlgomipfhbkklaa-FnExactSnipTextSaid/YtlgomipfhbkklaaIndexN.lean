/-
  Contracts of IndexNew, eqIndex, markIndex, heldIndex.
-/
import Derived.Test.YtlgomipfhbkklaaCopy
import Derived.Test.YtlgomipfhbkklaaConfOk
import Derived.Test.YtlgomipfhbkklaaConfSpec
import Derived.Test.YtlgomipfhbkklaaConfMark
namespace Go.Proofs.Ytlgomipfhbkklaa
open Go.RowKit Go.Sort
set_option linter.unusedVariables false

/-- what an index that is new holds. -/
def newB (d : ConfD) : ConfD := if confB d then d else ⟨[], []⟩
theorem newB_small {d : ConfD} (h : SmC d) : SmC (newB d) := by
  unfold newB
  split
  · exact h
  · exact ⟨⟨by simp, by simp⟩, by simp, by simp⟩
theorem hasC_nil (w : World) : HasC w ⟨[], []⟩ none 0 none := ⟨⟨⟨rfl, fun h => absurd h (by simp)⟩, .inl ⟨rfl, rfl⟩⟩, fun k hk => absurd hk (by simp)⟩
theorem OwnC.monoB {w : World} {base base' g1 c1 g2 c2 : Nat} {d : ConfD} {hv : List HdY} (h : OwnC w base d g1 c1 g2 c2 hv) (hb : base' ≤ base) : OwnC w base' d g1 c1 g2 c2 hv :=
  ⟨own_monoZ h.st hb, ⟨own_monoZ h.sy.hd hb, ⟨fun m hm => own_monoZ (h.sy.fr.own m hm) hb, h.sy.fr.dif⟩⟩, h.eq, h.ne⟩
/-- what IndexNew hands back. -/
def NewI (d : ConfD) (R : Bool) (n1 n2 base : Nat) (e : Ending) (w' : World) : Prop :=
  (R = true ∧ ∃ (g1 c3 g2 c4 : Nat) (hv : List HdY) (A5 : Option Addr), e = .returned (.agg #[.slice (some ⟨g1, 0, none⟩) n1 c3, .slice (some ⟨g2, 0, none⟩) n2 c4, .slice A5 0 0]) ∧ OwnC w' base d g1 c3 g2 c4 hv) ∨ (R = false ∧ e = .returned (.agg #[.slice none 0 0, .slice none 0 0, .slice none 0 0]))
def NewS (d : ConfD) (R : Bool) (n1 n2 : Nat) (e : Ending) (w' : World) : Prop :=
  (R = true ∧ ∃ (B1 : Option Addr) (b1 : Nat) (B2 : Option Addr) (b2 : Nat), e = .returned (.agg #[.slice B1 n1 b1, .slice B2 n2 b2, .slice none 0 0]) ∧ HasC w' d B1 b1 B2) ∨ (R = false ∧ e = .returned (.agg #[.slice none 0 0, .slice none 0 0, .slice none 0 0]))
set_option maxHeartbeats 1600000 in
theorem indexNew_any (d : ConfD) (A1 A2 : Option Addr) (c1 c2 : Nat) (w : World) (h : HasC w d A1 c1 A2) (hs : SmC d) :
    Calls Try.prog 26 #[.agg #[.slice A1 d.st.length c1, .slice A2 d.sy.length c2]] w fun e w' => NewI d (confB d) d.st.length d.sy.length w.heap.size e w' ∧ Below w.heap.size w w' := by
  obtain ⟨R, hR⟩ : ∃ R, R = confB d := ⟨_, rfl⟩
  have CO := fun w' h => confOk_any d A1 A2 c1 c2 w' h hs
  have CL := fun w' h => cloneConf_any d A1 A2 c1 c2 w' h hs
  rw [← hR] at CO ⊢
  clear hR
  generalize hn1 : d.st.length = n1 at CO CL ⊢
  generalize hn2 : d.sy.length = n2 at CO CL ⊢
  have HN := Lib.hid (And.intro hn1 hn2)
  clear hn1 hn2
  have hB : Below w.heap.size w ((w.alloc (.cells #[.slice A1 n1 c1, .slice A2 n2 c2] 26)).alloc (.cells #[.slice none 0 0, .slice none 0 0, .slice none 0 0] 54)) := by (repeat' (first | exact Below.refl _ _ | apply Below.alloc | apply Below.setCell | apply Below.drew | apply below_draws)) <;> (first | omega | (simp <;> omega))
  have k0 : ((w.alloc (.cells #[.slice A1 n1 c1, .slice A2 n2 c2] 26)).alloc (.cells #[.slice none 0 0, .slice none 0 0, .slice none 0 0] 54)).cell? ⟨w.heap.size, 0, none⟩ = some (.slice A1 n1 c1) := by simp [go_sem]
  have k1 : ((w.alloc (.cells #[.slice A1 n1 c1, .slice A2 n2 c2] 26)).alloc (.cells #[.slice none 0 0, .slice none 0 0, .slice none 0 0] 54)).cell? ⟨w.heap.size, 1, none⟩ = some (.slice A2 n2 c2) := by simp [go_sem]
  have hi : ((w.alloc (.cells #[.slice A1 n1 c1, .slice A2 n2 c2] 26)).alloc (.cells #[.slice none 0 0, .slice none 0 0, .slice none 0 0] 54)).heap[w.heap.size + 1]? = some (.cells #[.slice none 0 0, .slice none 0 0, .slice none 0 0] 54 (0, 0)) := by
    have := heap_alloc_new (w.alloc (.cells #[.slice A1 n1 c1, .slice A2 n2 c2] 26)) (.cells #[.slice none 0 0, .slice none 0 0, .slice none 0 0] 54)
    simpa using this
  have hsz : w.heap.size + 2 ≤ ((w.alloc (.cells #[.slice A1 n1 c1, .slice A2 n2 c2] 26)).alloc (.cells #[.slice none 0 0, .slice none 0 0, .slice none 0 0] 54)).heap.size := by simp
  go_enter Try.func26, Try.ntmps26
  go_wp2_with fail
  generalize ((w.alloc (.cells #[.slice A1 n1 c1, .slice A2 n2 c2] 26)).alloc (.cells #[.slice none 0 0, .slice none 0 0, .slice none 0 0] 54)) = W0 at hB k0 k1 hi hsz ⊢
  cases R
  · go_wp2_with (go_at_call 38; refine (CO _ (h.below hB)).mono ?_; rintro e w1 ⟨rfl, hb1⟩; have k10 := (belowL hb1 (show w.heap.size < W0.heap.size by omega)).trans k0; have k11 := (belowL hb1 (show w.heap.size < W0.heap.size by omega)).trans k1; have hi1 := (hb1.block (w.heap.size + 1) (by omega)).trans hi; have hB1 := hB.trans (hb1.mono (by omega)); have hsz1 := hb1.size; have a0 := cell_of_row w1 (w.heap.size + 1) 0 _ _ _ hi1; have a1 := cell_of_row w1 (w.heap.size + 1) 1 _ _ _ hi1; have a2 := cell_of_row w1 (w.heap.size + 1) 2 _ _ _ hi1; have az : ∀ j, w1.frozen? ⟨w.heap.size + 1, j, none⟩ = false := fun j => by simp [World.frozen?, hi1])
    have HBZ : Hid (Below w.heap.size w (((w1.setCell ⟨w.heap.size + 1, 0, none⟩ (.slice none 0 0)).setCell ⟨w.heap.size + 1, 1, none⟩ (.slice none 0 0)).setCell ⟨w.heap.size + 1, 2, none⟩ (.slice none 0 0))) := ((hB1.setCell (p := ⟨w.heap.size + 1, 0, none⟩) (by show _ ≤ _ + 1; omega) _).setCell (p := ⟨w.heap.size + 1, 1, none⟩) (by show _ ≤ _ + 1; omega) _).setCell (p := ⟨w.heap.size + 1, 2, none⟩) (by show _ ≤ _ + 1; omega) _
    exact bodyPost_ret (v := .agg #[.slice none 0 0, .slice none 0 0, .slice none 0 0]) (by simp [results, Try.results26, go_sem, *]) rfl ⟨.inr ⟨rfl, rfl⟩, HBZ.out⟩
  · go_wp2_with (go_at_call 38; refine (CO _ (h.below hB)).mono ?_; rintro e w1 ⟨rfl, hb1⟩; have k10 := (belowL hb1 (show w.heap.size < W0.heap.size by omega)).trans k0; have k11 := (belowL hb1 (show w.heap.size < W0.heap.size by omega)).trans k1; have hi1 := (hb1.block (w.heap.size + 1) (by omega)).trans hi; have hB1 := hB.trans (hb1.mono (by omega)); have hsz1 := hb1.size; have a0 := cell_of_row w1 (w.heap.size + 1) 0 _ _ _ hi1; have a1 := cell_of_row w1 (w.heap.size + 1) 1 _ _ _ hi1; have a2 := cell_of_row w1 (w.heap.size + 1) 2 _ _ _ hi1; have az : ∀ j, w1.frozen? ⟨w.heap.size + 1, j, none⟩ = false := fun j => by simp [World.frozen?, hi1])
    refine (CL w1 (h.below hB1)).mono ?_
    rintro e w2 ⟨g1, c3, g2, c4, hv, ⟨rfl, hO⟩, hb2⟩
    have hs2 := hb2.size
    have hi2 := (hb2.block (w.heap.size + 1) (by omega)).trans hi1
    have ib : ∀ o, (w2.alloc o).heap[w.heap.size + 1]? = some (.cells #[.slice none 0 0, .slice none 0 0, .slice none 0 0] 54 (0, 0)) := fun o => (((Below.refl _ w2).alloc (Nat.le_refl _) o).block (w.heap.size + 1) (by omega)).trans hi2
    have i0 : ∀ o, (w2.alloc o).cell? ⟨w.heap.size + 1, 0, none⟩ = some (.slice none 0 0) := fun o => by simp [World.cell?, ib o]
    have i1 : ∀ o, (w2.alloc o).cell? ⟨w.heap.size + 1, 1, none⟩ = some (.slice none 0 0) := fun o => by simp [World.cell?, ib o]
    have i2 : ∀ o, (w2.alloc o).cell? ⟨w.heap.size + 1, 2, none⟩ = some (.slice none 0 0) := fun o => by simp [World.cell?, ib o]
    have iz : ∀ o j, (w2.alloc o).frozen? ⟨w.heap.size + 1, j, none⟩ = false := fun o j => by simp [World.frozen?, ib o]
    have HL := Lib.hid hO.lt
    have HO : Hid (∀ o u0 u1 u2, OwnC ((((w2.alloc o).setCell ⟨w.heap.size + 1, 0, none⟩ u0).setCell ⟨w.heap.size + 1, 1, none⟩ u1).setCell ⟨w.heap.size + 1, 2, none⟩ u2) w.heap.size d g1 c3 g2 c4 hv) := fun o u0 u1 u2 => by
        have hz : ZoneR (w.heap.size + 1) (w.heap.size + 2) w2 ((((w2.alloc o).setCell ⟨w.heap.size + 1, 0, none⟩ u0).setCell ⟨w.heap.size + 1, 1, none⟩ u1).setCell ⟨w.heap.size + 1, 2, none⟩ u2) :=
          (((ZoneR.of ((Below.refl _ w2).alloc (Nat.le_refl _) o)).trans (ZoneR.setCell _ _ (by omega) (by omega))).trans (ZoneR.setCell _ _ (by omega) (by omega))).trans (ZoneR.setCell _ _ (by omega) (by omega))
        have hl := HL.out
        refine (hO.zone hz (.inr (by omega)) (.inr (by omega)) (fun m hm => .inr (by have := hl.2.2 m hm; omega))).monoB (by omega)
    have HB2 : Hid (∀ o u0 u1 u2, Below w.heap.size w ((((w2.alloc o).setCell ⟨w.heap.size + 1, 0, none⟩ u0).setCell ⟨w.heap.size + 1, 1, none⟩ u1).setCell ⟨w.heap.size + 1, 2, none⟩ u2)) := fun o u0 u1 u2 =>
        (hB1.trans (hb2.mono (by omega))).trans (((((Below.refl _ w2).alloc (by omega) o).setCell (p := ⟨w.heap.size + 1, 0, none⟩) (by show _ ≤ _ + 1; omega) _).setCell (p := ⟨w.heap.size + 1, 1, none⟩) (by show _ ≤ _ + 1; omega) _).setCell (p := ⟨w.heap.size + 1, 2, none⟩) (by show _ ≤ _ + 1; omega) _)
    go_wp2_with fail
    exact bodyPost_ret (v := .agg #[.slice (some ⟨g1, 0, none⟩) n1 c3, .slice (some ⟨g2, 0, none⟩) n2 c4, .slice (some ⟨w2.heap.size, 0, none⟩) 0 0]) (by simp [results, Try.results26, go_sem, *]) rfl ⟨.inl ⟨rfl, g1, c3, g2, c4, hv, _, rfl, HO.out _ _ _ _⟩, HB2.out _ _ _ _⟩
set_option maxHeartbeats 1600000 in
theorem specNew_any (d : ConfD) (A1 A2 : Option Addr) (c1 c2 : Nat) (w : World) (h : HasC w d A1 c1 A2) (hs : SmC d) :
    Calls Try.prog 25 #[.agg #[.slice A1 d.st.length c1, .slice A2 d.sy.length c2]] w fun e w' => NewS d (confB d) d.st.length d.sy.length e w' ∧ Below w.heap.size w w' := by
  obtain ⟨R, hR⟩ : ∃ R, R = confB d := ⟨_, rfl⟩
  have CO := fun w' h => l2Ok_any d A1 A2 c1 c2 w' h hs
  have CL := fun w' h => copyConf_any d A1 A2 c1 c2 w' h hs
  rw [← hR] at CO ⊢
  clear hR
  generalize hn1 : d.st.length = n1 at CO CL ⊢
  generalize hn2 : d.sy.length = n2 at CO CL ⊢
  have HN := Lib.hid (And.intro hn1 hn2)
  clear hn1 hn2
  have hB : Below w.heap.size w ((w.alloc (.cells #[.slice A1 n1 c1, .slice A2 n2 c2] 26)).alloc (.cells #[.slice none 0 0, .slice none 0 0, .slice none 0 0] 54)) := by (repeat' (first | exact Below.refl _ _ | apply Below.alloc | apply Below.setCell | apply Below.drew | apply below_draws)) <;> (first | omega | (simp <;> omega))
  have k0 : ((w.alloc (.cells #[.slice A1 n1 c1, .slice A2 n2 c2] 26)).alloc (.cells #[.slice none 0 0, .slice none 0 0, .slice none 0 0] 54)).cell? ⟨w.heap.size, 0, none⟩ = some (.slice A1 n1 c1) := by simp [go_sem]
  have k1 : ((w.alloc (.cells #[.slice A1 n1 c1, .slice A2 n2 c2] 26)).alloc (.cells #[.slice none 0 0, .slice none 0 0, .slice none 0 0] 54)).cell? ⟨w.heap.size, 1, none⟩ = some (.slice A2 n2 c2) := by simp [go_sem]
  have hi : ((w.alloc (.cells #[.slice A1 n1 c1, .slice A2 n2 c2] 26)).alloc (.cells #[.slice none 0 0, .slice none 0 0, .slice none 0 0] 54)).heap[w.heap.size + 1]? = some (.cells #[.slice none 0 0, .slice none 0 0, .slice none 0 0] 54 (0, 0)) := by
    have := heap_alloc_new (w.alloc (.cells #[.slice A1 n1 c1, .slice A2 n2 c2] 26)) (.cells #[.slice none 0 0, .slice none 0 0, .slice none 0 0] 54)
    simpa using this
  have hsz : w.heap.size + 2 ≤ ((w.alloc (.cells #[.slice A1 n1 c1, .slice A2 n2 c2] 26)).alloc (.cells #[.slice none 0 0, .slice none 0 0, .slice none 0 0] 54)).heap.size := by simp
  go_enter Try.func25, Try.ntmps25
  go_wp2_with fail
  generalize ((w.alloc (.cells #[.slice A1 n1 c1, .slice A2 n2 c2] 26)).alloc (.cells #[.slice none 0 0, .slice none 0 0, .slice none 0 0] 54)) = W0 at hB k0 k1 hi hsz ⊢
  cases R
  · go_wp2_with (go_at_call 44; refine (CO _ (h.below hB)).mono ?_; rintro e w1 ⟨rfl, hb1⟩; have k10 := (belowL hb1 (show w.heap.size < W0.heap.size by omega)).trans k0; have k11 := (belowL hb1 (show w.heap.size < W0.heap.size by omega)).trans k1; have hi1 := (hb1.block (w.heap.size + 1) (by omega)).trans hi; have hB1 := hB.trans (hb1.mono (by omega)); have hsz1 := hb1.size; have a0 := cell_of_row w1 (w.heap.size + 1) 0 _ _ _ hi1; have a1 := cell_of_row w1 (w.heap.size + 1) 1 _ _ _ hi1; have a2 := cell_of_row w1 (w.heap.size + 1) 2 _ _ _ hi1; have az : ∀ j, w1.frozen? ⟨w.heap.size + 1, j, none⟩ = false := fun j => by simp [World.frozen?, hi1])
    have HBZ : Hid (Below w.heap.size w (((w1.setCell ⟨w.heap.size + 1, 0, none⟩ (.slice none 0 0)).setCell ⟨w.heap.size + 1, 1, none⟩ (.slice none 0 0)).setCell ⟨w.heap.size + 1, 2, none⟩ (.slice none 0 0))) := ((hB1.setCell (p := ⟨w.heap.size + 1, 0, none⟩) (by show _ ≤ _ + 1; omega) _).setCell (p := ⟨w.heap.size + 1, 1, none⟩) (by show _ ≤ _ + 1; omega) _).setCell (p := ⟨w.heap.size + 1, 2, none⟩) (by show _ ≤ _ + 1; omega) _
    exact bodyPost_ret (v := .agg #[.slice none 0 0, .slice none 0 0, .slice none 0 0]) (by simp [results, Try.results25, go_sem, *]) rfl ⟨.inr ⟨rfl, rfl⟩, HBZ.out⟩
  · go_wp2_with (go_at_call 44; refine (CO _ (h.below hB)).mono ?_; rintro e w1 ⟨rfl, hb1⟩; have k10 := (belowL hb1 (show w.heap.size < W0.heap.size by omega)).trans k0; have k11 := (belowL hb1 (show w.heap.size < W0.heap.size by omega)).trans k1; have hi1 := (hb1.block (w.heap.size + 1) (by omega)).trans hi; have hB1 := hB.trans (hb1.mono (by omega)); have hsz1 := hb1.size; have a0 := cell_of_row w1 (w.heap.size + 1) 0 _ _ _ hi1; have a1 := cell_of_row w1 (w.heap.size + 1) 1 _ _ _ hi1; have a2 := cell_of_row w1 (w.heap.size + 1) 2 _ _ _ hi1; have az : ∀ j, w1.frozen? ⟨w.heap.size + 1, j, none⟩ = false := fun j => by simp [World.frozen?, hi1])
    refine (CL w1 (h.below hB1)).mono ?_
    rintro e w2 ⟨B1, b1, B2, b2, ⟨rfl, hO⟩, hb2⟩
    have hs2 := hb2.size
    have hi2 := (hb2.block (w.heap.size + 1) (by omega)).trans hi1
    have ib : w2.heap[w.heap.size + 1]? = some (.cells #[.slice none 0 0, .slice none 0 0, .slice none 0 0] 54 (0, 0)) := hi2
    have i0 : w2.cell? ⟨w.heap.size + 1, 0, none⟩ = some (.slice none 0 0) := by simp [World.cell?, ib]
    have i1 : w2.cell? ⟨w.heap.size + 1, 1, none⟩ = some (.slice none 0 0) := by simp [World.cell?, ib]
    have i2 : w2.cell? ⟨w.heap.size + 1, 2, none⟩ = some (.slice none 0 0) := by simp [World.cell?, ib]
    have iz : ∀ j, w2.frozen? ⟨w.heap.size + 1, j, none⟩ = false := fun j => by simp [World.frozen?, ib]
    have HO : Hid (∀ u0 u1 u2, HasC (((w2.setCell ⟨w.heap.size + 1, 0, none⟩ u0).setCell ⟨w.heap.size + 1, 1, none⟩ u1).setCell ⟨w.heap.size + 1, 2, none⟩ u2) d B1 b1 B2) := fun u0 u1 u2 => hO _ (((ZoneR.setCell _ _ (by omega) (by omega)).trans (ZoneR.setCell _ _ (by omega) (by omega))).trans (ZoneR.setCell _ _ (by omega) (by omega)))
    have HB2 : Hid (∀ u0 u1 u2, Below w.heap.size w (((w2.setCell ⟨w.heap.size + 1, 0, none⟩ u0).setCell ⟨w.heap.size + 1, 1, none⟩ u1).setCell ⟨w.heap.size + 1, 2, none⟩ u2)) := fun u0 u1 u2 =>
        (hB1.trans (hb2.mono (by omega))).trans ((((Below.refl w.heap.size w2).setCell (p := ⟨w.heap.size + 1, 0, none⟩) (by show _ ≤ _ + 1; omega) _).setCell (p := ⟨w.heap.size + 1, 1, none⟩) (by show _ ≤ _ + 1; omega) _).setCell (p := ⟨w.heap.size + 1, 2, none⟩) (by show _ ≤ _ + 1; omega) _)
    go_wp2_with fail
    exact bodyPost_ret (v := .agg #[.slice B1 n1 b1, .slice B2 n2 b2, .slice none 0 0]) (by simp [results, Try.results25, go_sem, *]) rfl ⟨.inl ⟨rfl, B1, b1, B2, b2, rfl, HO.out _ _ _⟩, HB2.out _ _ _⟩
end Go.Proofs.Ytlgomipfhbkklaa
