/-
  Contracts of markConf, heldConf; of markings of nothing.
-/
import Derived.Test.YtaobgliimbmemaaDoorMark2
namespace Go.Proofs.YtaobgliimbmemaaDoor
open Go.RowKit Go.Sort
set_option linter.unusedVariables false

theorem ZoneR.cell {s t : Nat} {w w' : World} (h : ZoneR s t w w') {b o : Nat} (hb : b < w.heap.size) (hn : b < s ∨ t ≤ b) : w'.cell? ⟨b, o, none⟩ = w.cell? ⟨b, o, none⟩ := World.cell?_of_block (w := w) (a := ⟨b, o, none⟩) (h.2.2 b hb hn)
theorem OwnC.zone {w w' : World} {base g1 c1 g2 c2 s t : Nat} {d : ConfD} {hv : List HdY} (h : OwnC w base d g1 c1 g2 c2 hv) (hz : ZoneR s t w w') (h1 : g1 < s ∨ t ≤ g1) (h2 : g2 < s ∨ t ≤ g2) (h3 : ∀ m ∈ hv, m.g < s ∨ t ≤ m.g) : OwnC w' base d g1 c1 g2 c2 hv :=
  ⟨own_zoneR h.st hz (fun k hk => by cases hk; exact h1), ⟨own_zoneR h.sy.hd hz (fun k hk => by cases hk; exact h2), ⟨fun m hm => own_zoneR (h.sy.fr.own m hm) hz (fun k hk => by cases hk; exact h3 m hm), h.sy.fr.dif⟩⟩, h.eq, h.ne⟩
/-- where the rows lie. -/
theorem OwnC.lt {w : World} {base g1 c1 g2 c2 : Nat} {d : ConfD} {hv : List HdY} (h : OwnC w base d g1 c1 g2 c2 hv) : (base ≤ g1 ∧ g1 < w.heap.size) ∧ (base ≤ g2 ∧ g2 < w.heap.size) ∧ ∀ m ∈ hv, base ≤ m.g ∧ m.g < w.heap.size :=
  ⟨(OwnE.capOk h.st).2.2, (OwnE.capOk h.sy.hd).2.2, h.sy.fr.lt⟩
set_option maxHeartbeats 1600000 in
theorem markConf_any (st : List ByteArray) (hv : List HdY) (g1 c1 g2 c2 base T k : Nat) (w : World) (h : OwnC w base ⟨st, hv.map (·.y)⟩ g1 c1 g2 c2 hv) (hs : SmC ⟨st, hv.map (·.y)⟩) (h0 : 1 ≤ k) (h1 : k ≤ 1000000) (hT1 : g1 < T) (hT2 : g2 < T) (hT3 : ∀ m ∈ hv, m.g < T) (hTw : T ≤ w.heap.size) :
    Calls Tryd.prog 34 #[.agg #[.slice (some ⟨g1, 0, none⟩) st.length c1, .slice (some ⟨g2, 0, none⟩) hv.length c2], .int .i64 k] w fun e w' => (e = .returned (.int .i64 ((endH (k + st.length) hv : Nat) : Int)) ∧ OwnC w' base ⟨mkL k st.length, mkS (k + st.length) (hv.map (·.y))⟩ g1 c1 g2 c2 (mkH (k + st.length) hv)) ∧ ZoneR base T w w' := by
  obtain ⟨⟨hs1, _⟩, hs2, hs3⟩ := hs
  dsimp only at hs1 hs2 hs3
  rw [List.length_map] at hs2
  have hf : ∀ m ∈ hv, m.y.fr.length ≤ 1048576 := fun m hm => (hs3 m.y (List.mem_map.2 ⟨m, hm, rfl⟩)).1.1
  clear hs3
  obtain ⟨⟨p1, p2⟩, ⟨p3, p4⟩, p5⟩ := h.lt
  have HF := Lib.hid hf
  have HT3 := Lib.hid hT3
  clear hf hT3
  have hB : Below w.heap.size w (w.alloc (.cells #[.slice (some ⟨g1, 0, none⟩) st.length c1, .slice (some ⟨g2, 0, none⟩) hv.length c2] 44)) := by (repeat' (first | exact Below.refl _ _ | apply Below.alloc | apply Below.setCell | apply Below.drew | apply below_draws)) <;> (first | omega | (simp <;> omega))
  have b1 : (w.alloc (.cells #[.slice (some ⟨g1, 0, none⟩) st.length c1, .slice (some ⟨g2, 0, none⟩) hv.length c2] 44)).cell? ⟨w.heap.size, 1, none⟩ = some (.slice (some ⟨g2, 0, none⟩) hv.length c2) := by simp [go_sem]
  have hsz : w.heap.size < (w.alloc (.cells #[.slice (some ⟨g1, 0, none⟩) st.length c1, .slice (some ⟨g2, 0, none⟩) hv.length c2] 44)).heap.size := by simp
  have hc := h.below hB
  have hz0 : ZoneR base T w (w.alloc (.cells #[.slice (some ⟨g1, 0, none⟩) st.length c1, .slice (some ⟨g2, 0, none⟩) hv.length c2] 44)) := ZoneR.of hB
  clear h hB
  go_enter Tryd.func34, Tryd.ntmps34
  go_wp2_with fail
  generalize (w.alloc (.cells #[.slice (some ⟨g1, 0, none⟩) st.length c1, .slice (some ⟨g2, 0, none⟩) hv.length c2] 44)) = W0 at b1 hsz hc hz0 ⊢
  refine (markStringS_any g1 c1 base st k _ hc.st hs1 h0 (by omega)).mono ?_
  rintro e w1 ⟨⟨rfl, o1⟩, hg1⟩
  have hz1 : ZoneR base T W0 w1 := zone_grown hg1 p1 hT1
  have b2 := (hz1.cell (o := 1) hsz (.inr hTw)).trans b1
  have oy : OwnY w1 base g2 c2 hv := ⟨own_other hc.sy.hd hg1 (own_ne hc.sy.hd hc.st (by decide) _ _ rfl rfl), ⟨fun m hm => own_other (hc.sy.fr.own m hm) hg1 (hc.ne m hm), hc.sy.fr.dif⟩⟩
  have hne := hc.ne
  clear hc b1
  go_wp2_with fail
  refine (markSynS_any g2 c2 base hv (k + st.length) _ oy hs2 HF.out (by omega) (by omega)).mono ?_
  rintro e w2 ⟨⟨rfl, o2⟩, hz2⟩
  have hf2 := own_ne o1 oy.hd (by decide) _ _ rfl rfl
  have HC : Hid (OwnC w2 base ⟨mkL k st.length, mkS (k + st.length) (hv.map (·.y))⟩ g1 c1 g2 c2 (mkH (k + st.length) hv)) := by
    refine ⟨?_, o2, mkH_y _ _, fun m hm => ?_⟩
    · have := own_only o1 hz2 (fun hS => by
        rcases hS with e | ⟨m, hm, e⟩
        · exact hf2 e
        · exact hne m hm e)
      exact this
    · have hmg : m.g ∈ (mkH (k + st.length) hv).map (·.g) := List.mem_map.2 ⟨m, hm, rfl⟩
      rw [mkH_g] at hmg
      obtain ⟨m', hm', e⟩ := List.mem_map.1 hmg
      rw [← e]; exact hne m' hm'
  have hz := (hz0.trans hz1).trans (hz2.zone (s := base) (t := T) (fun b hS => by
    rcases hS with rfl | ⟨m, hm, rfl⟩
    · exact ⟨p3, hT2⟩
    · exact ⟨(p5 m hm).1, HT3.out m hm⟩))
  have HZ := Lib.hid hz
  clear hz0 hz1 hz2 hz o1 o2 oy hne hf2 b2
  go_wp2
  go_ret
  exact ⟨⟨rfl, HC.out⟩, HZ.out⟩
theorem markStringS_zero (A : Option Addr) (c k : Nat) (w : World) :
    Calls Tryd.prog 35 #[.slice A 0 c, .int .i64 k] w fun e w' => e = .returned (.int .i64 k) ∧ Below w.heap.size w w' := by
  go_enter Tryd.func35, Tryd.ntmps35
  go_wp2
  go_loopw [1, 5] (fun m i wr => m = .int .i64 k ∧ i = .int .i64 0 ∧ wr = w) (fun _ _ _ => 0)
  case atStart => exact ⟨rfl, rfl, rfl⟩
  case round =>
    obtain ⟨rfl, rfl, rfl⟩ := hrel
    go_wp2
    go_ret
    exact ⟨rfl, Below.refl _ _⟩
theorem markSynS_zero (A : Option Addr) (c k : Nat) (w : World) :
    Calls Tryd.prog 65 #[.slice A 0 c, .int .i64 k] w fun e w' => e = .returned (.int .i64 k) ∧ Below w.heap.size w w' := by
  go_enter Tryd.func65, Tryd.ntmps65
  go_wp2
  go_loopw [1, 5] (fun m i wr => m = .int .i64 k ∧ i = .int .i64 0 ∧ wr = w) (fun _ _ _ => 0)
  case atStart => exact ⟨rfl, rfl, rfl⟩
  case round =>
    obtain ⟨rfl, rfl, rfl⟩ := hrel
    go_wp2
    go_ret
    exact ⟨rfl, Below.refl _ _⟩
theorem markConf_nil (A1 A2 : Option Addr) (c1 c2 k : Nat) (w : World) :
    Calls Tryd.prog 34 #[.agg #[.slice A1 0 c1, .slice A2 0 c2], .int .i64 k] w fun e w' => e = .returned (.int .i64 k) ∧ Below w.heap.size w w' := by
  have hB : Below w.heap.size w (w.alloc (.cells #[.slice A1 0 c1, .slice A2 0 c2] 44)) := by (repeat' (first | exact Below.refl _ _ | apply Below.alloc | apply Below.setCell | apply Below.drew | apply below_draws)) <;> (first | omega | (simp <;> omega))
  have b1 : (w.alloc (.cells #[.slice A1 0 c1, .slice A2 0 c2] 44)).cell? ⟨w.heap.size, 1, none⟩ = some (.slice A2 0 c2) := by simp [go_sem]
  have hsz : w.heap.size < (w.alloc (.cells #[.slice A1 0 c1, .slice A2 0 c2] 44)).heap.size := by simp
  go_enter Tryd.func34, Tryd.ntmps34
  go_wp2_with fail
  generalize (w.alloc (.cells #[.slice A1 0 c1, .slice A2 0 c2] 44)) = W0 at hB b1 hsz ⊢
  refine (markStringS_zero A1 c1 k _).mono ?_
  rintro e w1 ⟨rfl, hb1⟩
  have b2 := (hb1.cell (p := ⟨w.heap.size, 1, none⟩) hsz).trans b1
  have hB1 := hB.trans (hb1.mono hB.size)
  clear b1 hB hb1
  go_wp2_with fail
  refine (markSynS_zero A2 c2 k _).mono ?_
  rintro e w2 ⟨rfl, hb2⟩
  go_wp2
  go_ret
  exact ⟨rfl, hB1.trans (hb2.mono hB1.size)⟩
end Go.Proofs.YtaobgliimbmemaaDoor
