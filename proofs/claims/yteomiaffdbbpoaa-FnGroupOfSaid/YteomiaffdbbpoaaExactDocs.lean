/-
  Contracts of what the exact laws call on slices of documents: szDocS, toDocS, eqDocS, markDocS.
-/
import Derived.Test.YteomiaffdbbpoaaExactFld
import Derived.RegionTactic
namespace Go.Proofs.Yteomiaffdbbpoaa
open Go.RowKit Go.Sort
set_option linter.unusedVariables false

theorem belowL {B : Nat} {w w' : World} (h : Below B w w') {b o : Nat} (hb : b < B) : w'.cell? ⟨b, o, none⟩ = w.cell? ⟨b, o, none⟩ := h.cell (p := ⟨b, o, none⟩) hb
theorem belowZ {B : Nat} {w w' : World} (h : Below B w w') {b o : Nat} (hb : b < B) : w'.frozen? ⟨b, o, none⟩ = w.frozen? ⟨b, o, none⟩ := h.frozen (p := ⟨b, o, none⟩) hb
theorem own_monoZ {w : World} {base base' e size n : Nat} {v : Value} {xs : List Value} (h : w.ownsRow base e size v n xs) (hb : base' ≤ base) : w.ownsRow base' e size v n xs :=
  ⟨h.1, h.2.imp id fun ⟨g, cap, cur, h1, h2, h3⟩ => ⟨g, cap, cur, h1, Nat.le_trans hb h2, h3⟩⟩
theorem infoDoc : (Try.prog.info? 42).map (fun i => (i.zero, i.size, i.bytes)) = some (some (.agg #[.int .i64 0, .slice none 0 0, .slice none 0 0]), 3, 56) := by kernel_rfl
structure BgD (d : DocD) : Prop where
  fl : d.fs.length ≤ 9223372036854775807
  nl : d.ns.length ≤ 9223372036854775807
  f1 : ∀ f ∈ d.fs, f.1.size ≤ 9223372036854775807 ∧ f.2.size ≤ 9223372036854775807
  n1 : ∀ a ∈ d.ns, a.1.size ≤ 9223372036854775807
theorem szDoc_any (d : DocD) (A1 A2 : Option Addr) (c1 c2 : Nat) (left : Int) (w : World) (h : HasD w d A1 A2) (hb : BgD d) (h0 : 0 ≤ left) (h1 : left ≤ 1048576) :
    Calls Try.prog 68 #[.agg #[.int .i64 d.id, .slice A1 d.fs.length c1, .slice A2 d.ns.length c2], .int .i64 left] w (SzE left (SmD d) w) := by
  have hB0 : Below w.heap.size w (w.alloc (.cells #[.int .i64 d.id, .slice A1 d.fs.length c1, .slice A2 d.ns.length c2] 98)) := (Below.refl _ _).alloc (Nat.le_refl _) _
  have f2 : (w.alloc (.cells #[.int .i64 d.id, .slice A1 d.fs.length c1, .slice A2 d.ns.length c2] 98)).cell? ⟨w.heap.size, 2, none⟩ = some (.slice A2 d.ns.length c2) := by simp [go_sem]
  have hs0 : w.heap.size < (w.alloc (.cells #[.int .i64 d.id, .slice A1 d.fs.length c1, .slice A2 d.ns.length c2] 98)).heap.size := by simp
  have hh := h.below hB0
  go_enter Try.func68, Try.ntmps68
  go_wp2_with fail
  generalize (w.alloc (.cells #[.int .i64 d.id, .slice A1 d.fs.length c1, .slice A2 d.ns.length c2] 98)) = W0 at hB0 f2 hs0 hh ⊢
  refine (szFieldS_any A1 c1 d.fs left _ hh.1 hb.fl hb.f1 h0 h1).mono ?_
  rintro e w1 ⟨r, ⟨rfl, hr1, hr2⟩, hb1⟩
  have hB1 := hB0.trans (hb1.mono hB0.size)
  by_cases hn : r < 0
  · go_wp2
    go_ret
    exact ⟨-1, ⟨rfl, by omega, .inl (by omega)⟩, hB1⟩
  · have hn' := hn
    have g2 := (hb1.cell (p := ⟨w.heap.size, 2, none⟩) hs0).trans f2
    go_wp2_with fail
    refine (szAttrS_any A2 c2 d.ns r _ (hh.2.below hb1) hb.nl hb.n1 (by omega) (by omega)).mono ?_
    rintro e w2 ⟨r2, ⟨rfl, hr3, hr4⟩, hb2⟩
    have hB2 := hB1.trans (hb2.mono hB1.size)
    by_cases hn2 : r2 < 0
    · go_wp2
      go_ret
      exact ⟨-1, ⟨rfl, by omega, .inl (by omega)⟩, hB2⟩
    · have h5 := hr2.resolve_left (by omega)
      have h6 := hr4.resolve_left (by omega)
      have hsm : SmD d := ⟨h5.1, h6.1, fun f hf => (h5.2 f hf).1, fun f hf => (h5.2 f hf).2, h6.2⟩
      go_wp2
      go_ret
      exact ⟨r2, ⟨rfl, by omega, .inr hsm⟩, hB2⟩
theorem szDocS_any (A : Option Addr) (c : Nat) (Ds : List DocD) (left : Int) (w : World) (h : RdD w A Ds) (hl : Ds.length ≤ 9223372036854775807) (hb : ∀ d ∈ Ds, BgD d) (h0 : 0 ≤ left) (h1 : left ≤ 1048576) :
    Calls Try.prog 30 #[.slice A Ds.length c, .int .i64 left] w (SzE left (SmDs Ds) w) := by
  by_cases h2 : left - (Ds.length : Int) < 0
  · go_enter Try.func30, Try.ntmps30
    go_wp2
    go_ret
    exact ⟨-1, ⟨rfl, by omega, .inl (by omega)⟩, Below.refl _ _⟩
  · have HL := Lib.hid hb
    clear hb
    have hl6 : Ds.length ≤ 1048576 := by omega
    go_enter Try.func30, Try.ntmps30
    go_wp2_with fail
    go_loopw [1, 5] (fun m i wr => ∃ k : Nat, k ≤ Ds.length ∧ i = .int .i64 k ∧ ∃ r : Int, m = .int .i64 r ∧ 0 ≤ r ∧ r ≤ left ∧ Hid (∀ d ∈ Ds.take k, SmD d) ∧ Below w.heap.size w wr) (fun _ i _ => Ds.length - (intOf i).toNat)
    case atStart => exact ⟨0, Nat.zero_le _, rfl, _, rfl, by omega, by omega, fun f hf => by simp at hf, Below.refl _ _⟩
    case round =>
      obtain ⟨k, hk, rfl, r, rfl, hr0, hrl, hr, hB⟩ := hrel
      have hr1 : r ≤ 1048576 := by omega
      by_cases hlt : k < Ds.length
      · obtain ⟨b, off, A1, c1, A2, c2, rfl, hbb, x0, x1, x2, hh⟩ := (h.below hB) k hlt
        have hi0 : (k : Int) < (Ds.length : Int) := by omega
        have hb1 := HL.out Ds[k] (List.getElem_mem _)
        go_wp2_with fail
        refine (szDoc_any Ds[k] A1 A2 c1 c2 r _ hh hb1 hr0 hr1).mono ?_
        rintro e w1 ⟨r2, ⟨rfl, h3, h4⟩, hb2⟩
        have hB2 := hB.trans (hb2.mono hB.size)
        by_cases hneg : r2 < 0
        · go_wp2
          go_ret
          exact ⟨-1, ⟨rfl, by omega, .inl (by omega)⟩, hB2⟩
        · have h5 := h4.resolve_left (by omega)
          have hr2 : Hid (∀ d ∈ Ds.take (k + 1), SmD d) := fun f hf => by
            rw [← List.take_append_getElem hlt, List.mem_append] at hf
            rcases hf with hf | hf
            · exact hr.out f hf
            · simp at hf; rw [hf]; exact h5
          clear hr h4 h5
          go_wp2
          go_roundw
          case rel => exact ⟨k + 1, by omega, by go_num, _, rfl, by omega, by omega, hr2, hB2⟩
          case measure => simp [intOf]; omega
      · have hr2 : Hid (SmDs Ds) := ⟨hl6, fun f hf => hr.out f (by rw [List.take_of_length_le (by omega)]; exact hf)⟩
        clear hr
        go_wp2
        go_ret
        exact ⟨_, ⟨rfl, by omega, .inr hr2.out⟩, hB⟩
theorem toDoc_any (d : DocD) (A1 A2 : Option Addr) (c1 c2 : Nat) (w : World) (h : HasD w d A1 A2) (hs : SmD d) :
    Calls Try.prog 69 #[.agg #[.int .i64 d.id, .slice A1 d.fs.length c1, .slice A2 d.ns.length c2]] w fun e w' => ∃ g1 g2 : Nat, (e = .returned (.agg #[.int .i64 d.id, .slice (some ⟨g1, 0, none⟩) d.fs.length d.fs.length, .slice (some ⟨g2, 0, none⟩) d.ns.length d.ns.length]) ∧ OwnE encF 117 2 w' w.heap.size g1 d.fs.length d.fs ∧ OwnE encA 88 2 w' w.heap.size g2 d.ns.length d.ns) ∧ Below w.heap.size w w' := by
  obtain ⟨id, fs, ns⟩ := d
  obtain ⟨hF, hA⟩ := h
  obtain ⟨hs1, hs2, _, _, _⟩ := hs
  dsimp only at hF hA hs1 hs2 ⊢
  go_enter Try.func69, Try.ntmps69
  go_wp2_with fail
  refine (toFieldS_any A1 c1 fs _ (hF.below (by (repeat' (first | exact Below.refl _ _ | apply Below.alloc | apply Below.setCell | apply Below.drew | apply below_draws)) <;> (first | omega | (simp <;> omega)))) hs1).mono ?_
  rintro e w1 ⟨g1, ⟨rfl, r1⟩, hb1⟩
  have hB : Below w.heap.size w (((w.alloc (.cells #[.int .i64 id, .slice A1 fs.length c1, .slice A2 ns.length c2] 98)).alloc (.cells #[.int .i64 0, .slice none 0 0, .slice none 0 0] 42)).alloc (.cells #[.int .i64 id, .slice none 0 0, .slice none 0 0] 42)) := by (repeat' (first | exact Below.refl _ _ | apply Below.alloc | apply Below.setCell | apply Below.drew | apply below_draws)) <;> (first | omega | (simp <;> omega))
  have b2 : ((((w.alloc (.cells #[.int .i64 id, .slice A1 fs.length c1, .slice A2 ns.length c2] 98)).alloc (.cells #[.int .i64 0, .slice none 0 0, .slice none 0 0] 42)).alloc (.cells #[.int .i64 id, .slice none 0 0, .slice none 0 0] 42))).cell? ⟨w.heap.size, 2, none⟩ = some (.slice A2 ns.length c2) := by simp [go_sem]
  have o0 : ((((w.alloc (.cells #[.int .i64 id, .slice A1 fs.length c1, .slice A2 ns.length c2] 98)).alloc (.cells #[.int .i64 0, .slice none 0 0, .slice none 0 0] 42)).alloc (.cells #[.int .i64 id, .slice none 0 0, .slice none 0 0] 42))).cell? ⟨w.heap.size + 1 + 1, 0, none⟩ = some (.int .i64 id) := by simp [go_sem]
  have o1 : ((((w.alloc (.cells #[.int .i64 id, .slice A1 fs.length c1, .slice A2 ns.length c2] 98)).alloc (.cells #[.int .i64 0, .slice none 0 0, .slice none 0 0] 42)).alloc (.cells #[.int .i64 id, .slice none 0 0, .slice none 0 0] 42))).cell? ⟨w.heap.size + 1 + 1, 1, none⟩ = some (.slice none 0 0) := by simp [go_sem]
  have o2 : ((((w.alloc (.cells #[.int .i64 id, .slice A1 fs.length c1, .slice A2 ns.length c2] 98)).alloc (.cells #[.int .i64 0, .slice none 0 0, .slice none 0 0] 42)).alloc (.cells #[.int .i64 id, .slice none 0 0, .slice none 0 0] 42))).cell? ⟨w.heap.size + 1 + 1, 2, none⟩ = some (.slice none 0 0) := by simp [go_sem]
  have s0 : ((((w.alloc (.cells #[.int .i64 id, .slice A1 fs.length c1, .slice A2 ns.length c2] 98)).alloc (.cells #[.int .i64 0, .slice none 0 0, .slice none 0 0] 42)).alloc (.cells #[.int .i64 id, .slice none 0 0, .slice none 0 0] 42))).cell? ⟨w.heap.size + 1, 0, none⟩ = some (.int .i64 0) := by simp [go_sem]
  have s1 : ((((w.alloc (.cells #[.int .i64 id, .slice A1 fs.length c1, .slice A2 ns.length c2] 98)).alloc (.cells #[.int .i64 0, .slice none 0 0, .slice none 0 0] 42)).alloc (.cells #[.int .i64 id, .slice none 0 0, .slice none 0 0] 42))).cell? ⟨w.heap.size + 1, 1, none⟩ = some (.slice none 0 0) := by simp [go_sem]
  have s2 : ((((w.alloc (.cells #[.int .i64 id, .slice A1 fs.length c1, .slice A2 ns.length c2] 98)).alloc (.cells #[.int .i64 0, .slice none 0 0, .slice none 0 0] 42)).alloc (.cells #[.int .i64 id, .slice none 0 0, .slice none 0 0] 42))).cell? ⟨w.heap.size + 1, 2, none⟩ = some (.slice none 0 0) := by simp [go_sem]
  have z : ∀ j, ((((w.alloc (.cells #[.int .i64 id, .slice A1 fs.length c1, .slice A2 ns.length c2] 98)).alloc (.cells #[.int .i64 0, .slice none 0 0, .slice none 0 0] 42)).alloc (.cells #[.int .i64 id, .slice none 0 0, .slice none 0 0] 42))).frozen? ⟨w.heap.size + 1 + 1, j, none⟩ = false := fun j => by simp [go_sem]
  have z' : ∀ j, ((((w.alloc (.cells #[.int .i64 id, .slice A1 fs.length c1, .slice A2 ns.length c2] 98)).alloc (.cells #[.int .i64 0, .slice none 0 0, .slice none 0 0] 42)).alloc (.cells #[.int .i64 id, .slice none 0 0, .slice none 0 0] 42))).frozen? ⟨w.heap.size + 1, j, none⟩ = false := fun j => by simp [go_sem]
  have hsz : ((((w.alloc (.cells #[.int .i64 id, .slice A1 fs.length c1, .slice A2 ns.length c2] 98)).alloc (.cells #[.int .i64 0, .slice none 0 0, .slice none 0 0] 42)).alloc (.cells #[.int .i64 id, .slice none 0 0, .slice none 0 0] 42))).heap.size = w.heap.size + 3 := by simp
  have hA0 := hA.below hB
  generalize (((w.alloc (.cells #[.int .i64 id, .slice A1 fs.length c1, .slice A2 ns.length c2] 98)).alloc (.cells #[.int .i64 0, .slice none 0 0, .slice none 0 0] 42)).alloc (.cells #[.int .i64 id, .slice none 0 0, .slice none 0 0] 42)) = W at hB b2 o0 o1 o2 s0 s1 s2 z z' hsz hA0 hb1 r1
  replace b2 := (belowL hb1 (by omega)).trans b2
  replace o0 := (belowL hb1 (by omega)).trans o0
  replace o1 := (belowL hb1 (by omega)).trans o1
  replace o2 := (belowL hb1 (by omega)).trans o2
  replace s0 := (belowL hb1 (by omega)).trans s0
  replace s1 := (belowL hb1 (by omega)).trans s1
  replace s2 := (belowL hb1 (by omega)).trans s2
  replace z : ∀ j, w1.frozen? ⟨w.heap.size + 1 + 1, j, none⟩ = false := fun j => (belowZ hb1 (by omega)).trans (z j)
  replace z' : ∀ j, w1.frozen? ⟨w.heap.size + 1, j, none⟩ = false := fun j => (belowZ hb1 (by omega)).trans (z' j)
  have hB1 := hB.trans (hb1.mono hB.size)
  have hsz1 := hb1.size
  have hA1 := hA0.below hb1
  have e1 := z 1
  have z00 := z' 0
  have z01 := z' 1
  have z02 := z' 2
  have r1' : OwnE encF 117 2 (w1.setCell ⟨w.heap.size + 1 + 1, 1, none⟩ (.slice (some ⟨g1, 0, none⟩) fs.length fs.length)) W.heap.size g1 fs.length fs :=
    own_zoneR r1 (ZoneR.setCell (s := w.heap.size + 2) (t := w.heap.size + 3) w1 _ (by omega) (by omega)) (fun k hk => .inr (by have := (r1.lt k hk).1; omega))
  have hB2 : Below w.heap.size w (w1.setCell ⟨w.heap.size + 1 + 1, 1, none⟩ (.slice (some ⟨g1, 0, none⟩) fs.length fs.length)) := hB1.setCell (p := ⟨w.heap.size + 1 + 1, 1, none⟩) (by show _ ≤ w.heap.size + 1 + 1; omega) _
  have hA2 := hA.below hB2
  go_wp2_with fail
  clear hB hb1 r1 hF hA hA0 hA1
  refine (toAttrS_any A2 c2 ns _ hA2 hs2).mono ?_
  rintro e w2 ⟨g2, ⟨rfl, r2⟩, hb2⟩
  have hq : (w1.setCell ⟨w.heap.size + 1 + 1, 1, none⟩ (.slice (some ⟨g1, 0, none⟩) fs.length fs.length)).heap.size = w1.heap.size := by simp [World.setCell]
  have n0 : w2.cell? ⟨w.heap.size + 1 + 1, 0, none⟩ = some (.int .i64 id) := (belowL hb2 (by omega)).trans (by simp [go_sem, *])
  have n1 : w2.cell? ⟨w.heap.size + 1 + 1, 1, none⟩ = some (.slice (some ⟨g1, 0, none⟩) fs.length fs.length) := (belowL hb2 (by omega)).trans (by simp [go_sem, *])
  have n2 : w2.cell? ⟨w.heap.size + 1 + 1, 2, none⟩ = some (.slice none 0 0) := (belowL hb2 (by omega)).trans (by simp [go_sem, *])
  have m0 : w2.cell? ⟨w.heap.size + 1, 0, none⟩ = some (.int .i64 0) := (belowL hb2 (by omega)).trans (by simp [go_sem, *])
  have m1 : w2.cell? ⟨w.heap.size + 1, 1, none⟩ = some (.slice none 0 0) := (belowL hb2 (by omega)).trans (by simp [go_sem, *])
  have m2 : w2.cell? ⟨w.heap.size + 1, 2, none⟩ = some (.slice none 0 0) := (belowL hb2 (by omega)).trans (by simp [go_sem, *])
  have y : ∀ j, w2.frozen? ⟨w.heap.size + 1 + 1, j, none⟩ = false := fun j => (belowZ hb2 (by omega)).trans (by simp [go_sem, *])
  have y' : ∀ j, w2.frozen? ⟨w.heap.size + 1, j, none⟩ = false := fun j => (belowZ hb2 (by omega)).trans (by simp [go_sem, *])
  have hB3 := hB2.trans (hb2.mono hB2.size)
  have hsz2 := hb2.size
  have r1b := own_belowZ r1' hb2
  have hl1 := fun k hk => (r1'.lt k hk).1
  have hl2 := fun k hk => (r2.lt k hk).1
  rw [hq] at r2 hsz2 hl2
  have R1 := Lib.hid r1b
  have R2 := Lib.hid r2
  have HB3 := Lib.hid hB3
  clear o0 o1 o2 s0 s1 s2 z z' e1 z00 z01 z02 r1' r1b r2 hB3 hB2 hB1 hb2 hA2 hq b2
  have y2 := y 2
  have y0' := y' 0
  have y1' := y' 1
  have y2' := y' 2
  go_wp2
  have hz : ZoneR (w.heap.size + 1) (w.heap.size + 3) w2 ((((w2.setCell ⟨w.heap.size + 1 + 1, 2, none⟩ (.slice (some ⟨g2, 0, none⟩) ns.length ns.length)).setCell ⟨w.heap.size + 1, 0, none⟩ (.int .i64 id)).setCell ⟨w.heap.size + 1, 1, none⟩ (.slice (some ⟨g1, 0, none⟩) fs.length fs.length)).setCell ⟨w.heap.size + 1, 2, none⟩ (.slice (some ⟨g2, 0, none⟩) ns.length ns.length)) :=
    (((ZoneR.setCell w2 _ (by omega) (by omega)).trans (ZoneR.setCell _ _ (by omega) (by omega))).trans (ZoneR.setCell _ _ (by omega) (by omega))).trans (ZoneR.setCell _ _ (by omega) (by omega))
  have hBz := (HB3.out.setCell (p := ⟨w.heap.size + 1 + 1, 2, none⟩) (by show _ ≤ w.heap.size + 1 + 1; omega) (.slice (some ⟨g2, 0, none⟩) ns.length ns.length)).setCell (p := ⟨w.heap.size + 1, 0, none⟩) (by show _ ≤ w.heap.size + 1; omega) (.int .i64 id)
  have hBy := (hBz.setCell (p := ⟨w.heap.size + 1, 1, none⟩) (by show _ ≤ w.heap.size + 1; omega) (.slice (some ⟨g1, 0, none⟩) fs.length fs.length)).setCell (p := ⟨w.heap.size + 1, 2, none⟩) (by show _ ≤ w.heap.size + 1; omega) (.slice (some ⟨g2, 0, none⟩) ns.length ns.length)
  have R1b := own_zoneR R1.out hz (fun k hk => .inr (by have := hl1 k hk; omega))
  have R2b := own_zoneR R2.out hz (fun k hk => .inr (by have := hl2 k hk; omega))
  exact bodyPost_ret (v := .agg #[.int .i64 id, .slice (some ⟨g1, 0, none⟩) fs.length fs.length, .slice (some ⟨g2, 0, none⟩) ns.length ns.length]) (by simp [results, Try.results69, go_sem, *]) rfl ⟨g1, g2, ⟨rfl, own_monoZ R1b (by omega), own_monoZ R2b (by omega)⟩, hBy⟩
/-- the cells of a document's header. -/
abbrev HdrD := Int × (Nat × Nat) × (Nat × Nat)
def encM (m : HdrD) : List Value := [.int .i64 m.1, .slice (some ⟨m.2.1.1, 0, none⟩) m.2.1.2 m.2.1.2, .slice (some ⟨m.2.2.1, 0, none⟩) m.2.2.2 m.2.2.2]
theorem encM_ok : Enc encM 3 := ⟨fun _ => rfl, fun a u hu => by simp [encM] at hu; rcases hu with rfl | rfl | rfl <;> rfl⟩
def zsD : List Value := [.int .i64 0, .slice none 0 0, .slice none 0 0]
def fillP (hv : List HdrD) (n : Nat) : List Value := hv.flatMap encM ++ (List.replicate (n - hv.length) zsD).flatten
theorem fillP_nil (n : Nat) : fillP [] n = (List.replicate n zsD).flatten := by simp [fillP]
theorem fillP_all {hv : List HdrD} {n : Nat} (h : hv.length = n) : fillP hv n = hv.flatMap encM := by simp [fillP, h]
theorem fillP_get {hv : List HdrD} {n k : Nat} (h : hv.length = k) (hk : k < n) {j : Nat} (hj : j < 3) : (fillP hv n)[k * 3 + j]? = zsD[j]? := by
  have hl : (hv.flatMap encM).length = k * 3 := by rw [encM_ok.flat, h]
  unfold fillP
  rw [show n - hv.length = (n - (k + 1)) + 1 by omega, List.replicate_succ, List.flatten_cons, List.getElem?_append_right (by omega), hl, show k * 3 + j - k * 3 = j by omega, List.getElem?_append_left (by simp [zsD]; omega)]
theorem fillP_step {hv : List HdrD} {n k : Nat} (h : hv.length = k) (hk : k < n) (m : HdrD) : (((fillP hv n).set (k * 3) (.int .i64 m.1)).set (k * 3 + 1) (.slice (some ⟨m.2.1.1, 0, none⟩) m.2.1.2 m.2.1.2)).set (k * 3 + 2) (.slice (some ⟨m.2.2.1, 0, none⟩) m.2.2.2 m.2.2.2) = fillP (hv ++ [m]) n := by
  have hl : (hv.flatMap encM).length = k * 3 := by rw [encM_ok.flat, h]
  unfold fillP
  rw [show n - hv.length = (n - (k + 1)) + 1 by omega, List.replicate_succ, List.flatten_cons, List.set_append_right _ _ (by omega), hl, Nat.sub_self, List.set_append_right _ _ (by omega), hl, show k * 3 + 1 - k * 3 = 1 by omega, List.set_append_right _ _ (by omega), hl, show k * 3 + 2 - k * 3 = 2 by omega, List.flatMap_append, List.append_assoc, List.length_append, h]
  rfl
/-- headers of rows of the call's own that hold the first k documents. -/
def HdD (w : World) (s : Nat) (hv : List HdrD) (Ds : List DocD) (k : Nat) : Prop :=
  hv.length = k ∧ ∀ i, (hi : i < Ds.length) → i < k → ∃ g1 g2, hv[i]? = some (Ds[i].id, (g1, Ds[i].fs.length), (g2, Ds[i].ns.length)) ∧ OwnE encF 117 2 w s g1 Ds[i].fs.length Ds[i].fs ∧ OwnE encA 88 2 w s g2 Ds[i].ns.length Ds[i].ns
theorem HdD.below {w w' : World} {s k : Nat} {hv : List HdrD} {Ds : List DocD} (h : HdD w s hv Ds k) (hb : Below w.heap.size w w') : HdD w' s hv Ds k :=
  ⟨h.1, fun i hi hk => by
    obtain ⟨g1, g2, h1, h2, h3⟩ := h.2 i hi hk
    exact ⟨g1, g2, h1, own_belowZ h2 hb, own_belowZ h3 hb⟩⟩
theorem HdD.kept {w w' : World} {s k b2 g c n : Nat} {hv : List HdrD} {xs : List Value} {Ds : List DocD} (h : HdD w s hv Ds k) (ho : w.ownsRow b2 42 3 (.slice (some ⟨g, 0, none⟩) n c) n xs) (hg : w.grownBy w' (some g)) : HdD w' s hv Ds k :=
  ⟨h.1, fun i hi hk => by
    obtain ⟨g1, g2, h1, h2, h3⟩ := h.2 i hi hk
    exact ⟨g1, g2, h1, own_other h2 hg (own_ne h2 ho (by decide) _ _ rfl rfl), own_other h3 hg (own_ne h3 ho (by decide) _ _ rfl rfl)⟩⟩
theorem HdD.snoc {w : World} {s k g1 g2 : Nat} {hv : List HdrD} {Ds : List DocD} (h : HdD w s hv Ds k) (hk : k < Ds.length) (h1 : OwnE encF 117 2 w s g1 Ds[k].fs.length Ds[k].fs) (h2 : OwnE encA 88 2 w s g2 Ds[k].ns.length Ds[k].ns) :
    HdD w s (hv ++ [(Ds[k].id, (g1, Ds[k].fs.length), (g2, Ds[k].ns.length))]) Ds (k + 1) := by
  refine ⟨by simp [h.1], fun i hi hik => ?_⟩
  rcases Nat.lt_or_eq_of_le (Nat.le_of_lt_succ hik) with hlt | rfl
  · obtain ⟨a1, a2, e1, e2, e3⟩ := h.2 i hi hlt
    exact ⟨a1, a2, by rw [List.getElem?_append_left (by rw [h.1]; exact hlt)]; exact e1, e2, e3⟩
  · exact ⟨g1, g2, by rw [List.getElem?_append_right (by rw [h.1]; omega), h.1, Nat.sub_self]; rfl, h1, h2⟩
/-- documents that can be written. -/
def WrD (w : World) (s t : Nat) (A : Option Addr) (Ds : List DocD) : Prop :=
  Ds.length = 0 ∨ ∃ b cur, A = some ⟨b, 0, none⟩ ∧ s ≤ b ∧ b < t ∧ w.heap[b]? = some (.cells cur 42 (0, 0)) ∧ Ds.length * 3 ≤ cur.size ∧ ∀ k, (hk : k < Ds.length) → ∃ A1 c1 A2 c2, cur[k * 3 + 1]? = some (.slice A1 Ds[k].fs.length c1) ∧ cur[k * 3 + 2]? = some (.slice A2 Ds[k].ns.length c2) ∧ WrR 117 2 w s t A1 Ds[k].fs.length ∧ WrR 88 2 w s t A2 Ds[k].ns.length
theorem WrD.below {w w' : World} {s t : Nat} {A : Option Addr} {Ds : List DocD} (h : WrD w s t A Ds) (hb : Below w.heap.size w w') : WrD w' s t A Ds := by
  rcases h with h | ⟨b, cur, rfl, h1, h2, h3, h4, h5⟩
  · exact .inl h
  · refine .inr ⟨b, cur, rfl, h1, h2, (hb.block b (heapB_lt h3)).trans h3, h4, fun k hk => ?_⟩
    obtain ⟨A1, c1, A2, c2, e1, e2, e3, e4⟩ := h5 k hk
    exact ⟨A1, c1, A2, c2, e1, e2, e3.below hb, e4.below hb⟩
theorem WrD.mono {w : World} {s t s' t' : Nat} {A : Option Addr} {Ds : List DocD} (h : WrD w s t A Ds) (hs : s' ≤ s) (ht : t ≤ t') : WrD w s' t' A Ds := by
  rcases h with h | ⟨b, cur, rfl, h1, h2, h3, h4, h5⟩
  · exact .inl h
  · refine .inr ⟨b, cur, rfl, by omega, by omega, h3, h4, fun k hk => ?_⟩
    obtain ⟨A1, c1, A2, c2, e1, e2, e3, e4⟩ := h5 k hk
    exact ⟨A1, c1, A2, c2, e1, e2, e3.mono hs ht, e4.mono hs ht⟩
/-- .. that stays under a marking of rows of another type. -/
theorem WrD.keep {w w' : World} {s t T : Nat} {A : Option Addr} {Ds : List DocD} (h : WrD w s t A Ds) (h1 : KeepT T w w') (h2 : KeepR s t w w') (hne : 42 ≠ T) : WrD w' s t A Ds := by
  rcases h with h | ⟨b, cur, rfl, e1, e2, e3, e4, e5⟩
  · exact .inl h
  · refine .inr ⟨b, cur, rfl, e1, e2, h1 b cur _ hne e3, e4, fun k hk => ?_⟩
    obtain ⟨A1, c1, A2, c2, a1, a2, a3, a4⟩ := e5 k hk
    exact ⟨A1, c1, A2, c2, a1, a2, h2 _ _ _ _ a3, h2 _ _ _ _ a4⟩
def MakesD (w : World) (Ds : List DocD) (e : Ending) (w' : World) : Prop :=
  ∃ g : Nat, (e = .returned (.slice (some ⟨g, 0, none⟩) Ds.length Ds.length) ∧ RdD w' (some ⟨g, 0, none⟩) Ds ∧ WrD w' w.heap.size w'.heap.size (some ⟨g, 0, none⟩) Ds) ∧ Below w.heap.size w w'
theorem toDocS_any (A : Option Addr) (c : Nat) (Ds : List DocD) (w : World) (h : RdD w A Ds) (hs : SmDs Ds) :
    Calls Try.prog 31 #[.slice A Ds.length c] w (MakesD w Ds) := by
  obtain ⟨hn, hs2⟩ := hs
  have HSM := Lib.hid hs2
  clear hs2
  obtain ⟨i0, hi, hz0, hz1, hz2⟩ := info_partsZ infoDoc
  obtain ⟨wm, hmk, hown0, hg0⟩ := run_make_full (P := Try.prog) w w.heap.size 30 42 i0 _ 3 Try.underlying30 hi hz0 hz1 .i64 .i64 Ds.length (by rw [hz2]; omega) (by unfold maxLen; omega) (Nat.le_refl _)
  have hB0 : Below w.heap.size w wm := (Below.refl _ _).grown hg0 (Nat.le_refl _) (fun k hk => by cases hk)
  go_enter Try.func31, Try.ntmps31
  go_wp2
  go_loopw [4] (fun i wr => ∃ k : Nat, k ≤ Ds.length ∧ i = .int .i64 k ∧ ∃ hv, HdD wr w.heap.size hv Ds k ∧ wr.ownsRow w.heap.size 42 3 (.slice (some ⟨w.heap.size, 0, none⟩) Ds.length Ds.length) Ds.length (fillP hv Ds.length) ∧ Below w.heap.size w wr) (fun i _ => Ds.length - (intOf i).toNat)
  case atStart => exact ⟨0, Nat.zero_le _, rfl, [], ⟨rfl, fun i _ hi => absurd hi (Nat.not_lt_zero _)⟩, by rw [fillP_nil, ← made_rep (Value.agg #[.int .i64 0, .slice none 0 0, .slice none 0 0]).cells zsD 3 Ds.length rfl rfl (by omega)]; exact hown0, hB0⟩
  case round =>
    obtain ⟨k, hk, rfl, hv, hh, hown, hB⟩ := hrel
    by_cases hlt : k < Ds.length
    · obtain ⟨b, off, A1, c1, A2, c2, rfl, hb, x0, x1, x2, hd⟩ := (h.below hB) k hlt
      have hi0 : (k : Int) < (Ds.length : Int) := by omega
      have hsm := HSM.out _ (List.getElem_mem hlt)
      have f0 : (fillP hv Ds.length)[k * 3]? = some (.int .i64 0) := fillP_get (n := Ds.length) hh.1 hlt (j := 0) (by omega)
      have f1 : (fillP hv Ds.length)[k * 3 + 1]? = some (.slice none 0 0) := fillP_get (n := Ds.length) hh.1 hlt (j := 1) (by omega)
      have f2 : (fillP hv Ds.length)[k * 3 + 2]? = some (.slice none 0 0) := fillP_get (n := Ds.length) hh.1 hlt (j := 2) (by omega)
      go_wp2_with fail
      refine (toDoc_any Ds[k] A1 A2 c1 c2 _ hd hsm).mono ?_
      rintro e w2 ⟨g1, g2, ⟨rfl, r1, r2⟩, hb2⟩
      have own2 := own_belowZ hown hb2
      have q0 := (own2.cellAt (k * 3) (by omega)).trans f0
      have q1 := (own2.cellAt (k * 3 + 1) (by omega)).trans f1
      have q2 := (own2.cellAt (k * 3 + 2) (by omega)).trans f2
      have z0 := own2.frozenAt (k * 3)
      have z1 := own2.frozenAt (k * 3 + 1)
      have z2 := own2.frozenAt (k * 3 + 2)
      have hstep := fillP_step hh.1 hlt (Ds[k].id, (g1, Ds[k].fs.length), (g2, Ds[k].ns.length))
      dsimp only at hstep
      have a1 := own2.stored (k * 3) (.int .i64 Ds[k].id)
      have a2 := a1.1.stored (k * 3 + 1) (.slice (some ⟨g1, 0, none⟩) Ds[k].fs.length Ds[k].fs.length)
      have a3 := a2.1.stored (k * 3 + 2) (.slice (some ⟨g2, 0, none⟩) Ds[k].ns.length Ds[k].ns.length)
      have own5 := a3.1
      rw [hstep] at own5
      have hg5 := (a1.2.trans a2.2).trans a3.2
      have hB2 := hB.trans (hb2.mono hB.size)
      have hh5 := ((hh.below hb2).snoc hlt (own_monoZ r1 hB.size) (own_monoZ r2 hB.size)).kept own2 hg5
      have hB5 := ((hB2.setCell (p := ⟨w.heap.size, k * 3, none⟩) (Nat.le_refl _) (.int .i64 Ds[k].id)).setCell (p := ⟨w.heap.size, k * 3 + 1, none⟩) (Nat.le_refl _) (.slice (some ⟨g1, 0, none⟩) Ds[k].fs.length Ds[k].fs.length)).setCell (p := ⟨w.heap.size, k * 3 + 2, none⟩) (Nat.le_refl _) (.slice (some ⟨g2, 0, none⟩) Ds[k].ns.length Ds[k].ns.length)
      have HH5 := Lib.hid hh5
      have O5 := Lib.hid own5
      clear hh hown hd own2 r1 r2 hstep a1 a2 a3 own5 hg5 hB2 hh5 f0 f1 f2 hsm hb2 hB
      generalize hv ++ [(Ds[k].id, (g1, Ds[k].fs.length), (g2, Ds[k].ns.length))] = hv2 at HH5 O5
      generalize Ds[k].id = id at x0 HH5 O5 hB5 ⊢
      generalize Ds[k].fs.length = n1 at x1 HH5 O5 hB5 ⊢
      generalize Ds[k].ns.length = n2 at x2 HH5 O5 hB5 ⊢
      go_wp2
      go_roundw
      case rel => exact ⟨k + 1, by omega, by go_num, _, HH5.out, O5.out, hB5⟩
      case measure => simp [intOf]; omega
    · obtain rfl : k = Ds.length := by omega
      rw [fillP_all hh.1] at hown
      have hR := Rds.own hown
      go_wp2
      go_ret
      refine ⟨w.heap.size, ⟨rfl, fun k hk => ?_, ?_⟩, hB⟩
      · obtain ⟨g1, g2, h1, h2, h3⟩ := hh.2 k hk hk
        obtain ⟨b, off, e, hlt, hc⟩ := hR.2 (by omega)
        simp only [Option.some.injEq, Addr.mk.injEq, and_true] at e
        obtain ⟨rfl, rfl⟩ := e
        refine ⟨_, _, some ⟨g1, 0, none⟩, Ds[k].fs.length, some ⟨g2, 0, none⟩, Ds[k].ns.length, rfl, hlt, ?_, ?_, ?_, Rds.own h2, Rds.own h3⟩
        · exact hc (k * 3) _ (by have := flat_get encM_ok.len h1 (show 0 < 3 by omega); rw [Nat.add_zero] at this; exact this)
        · have := hc (k * 3 + 1) _ (flat_get encM_ok.len h1 (show 1 < 3 by omega)); rwa [← Nat.add_assoc] at this
        · have := hc (k * 3 + 2) _ (flat_get encM_ok.len h1 (show 2 < 3 by omega)); rwa [← Nat.add_assoc] at this
      · rcases hown.2 with ⟨hbad, _⟩ | ⟨gg, cap, cur, hvv, hge, hheap, hnc, _, hcs, htake⟩
        · simp at hbad
        · simp only [Value.slice.injEq, Option.some.injEq, Addr.mk.injEq, and_true, true_and] at hvv
          obtain ⟨rfl, rfl⟩ := hvv
          refine .inr ⟨_, cur, rfl, Nat.le_refl _, heapB_lt hheap, hheap, by omega, fun k hk => ?_⟩
          obtain ⟨g1, g2, h1, h2, h3⟩ := hh.2 k hk hk
          have e1 := flat_get encM_ok.len h1 (show 1 < 3 by omega)
          have e2 := flat_get encM_ok.len h1 (show 2 < 3 by omega)
          rw [← htake, List.getElem?_take] at e1 e2
          rw [if_pos (by omega)] at e1 e2
          exact ⟨some ⟨g1, 0, none⟩, Ds[k].fs.length, some ⟨g2, 0, none⟩, Ds[k].ns.length, by simpa [encM] using e1, by simpa [encM] using e2, WrR.own h2 (Nat.le_refl _), WrR.own h3 (Nat.le_refl _)⟩
theorem eqDoc_same (d : DocD) (A1 A2 A1' A2' : Option Addr) (c1 c2 c1' c2' : Nat) (w : World) (h : HasD w d A1 A2) (h' : HasD w d A1' A2') (hs : SmD d) :
    Calls Try.prog 70 #[.agg #[.int .i64 d.id, .slice A1 d.fs.length c1, .slice A2 d.ns.length c2], .agg #[.int .i64 d.id, .slice A1' d.fs.length c1', .slice A2' d.ns.length c2']] w fun e w' => e = .returned (.bool true) ∧ Below w.heap.size w w' := by
  obtain ⟨id, fs, ns⟩ := d
  have hs1 := hs.fl
  have hs2 := hs.nl
  clear hs
  dsimp only at hs1 hs2 ⊢
  have hB : Below w.heap.size w ((w.alloc (.cells #[.int .i64 id, .slice A1 fs.length c1, .slice A2 ns.length c2] 42)).alloc (.cells #[.int .i64 id, .slice A1' fs.length c1', .slice A2' ns.length c2'] 42)) := by (repeat' (first | exact Below.refl _ _ | apply Below.alloc | apply Below.setCell | apply Below.drew | apply below_draws)) <;> (first | omega | (simp <;> omega))
  have b1 : (((w.alloc (.cells #[.int .i64 id, .slice A1 fs.length c1, .slice A2 ns.length c2] 42)).alloc (.cells #[.int .i64 id, .slice A1' fs.length c1', .slice A2' ns.length c2'] 42))).cell? ⟨w.heap.size, 1, none⟩ = some (.slice A1 fs.length c1) := by simp [go_sem]
  have b2 : (((w.alloc (.cells #[.int .i64 id, .slice A1 fs.length c1, .slice A2 ns.length c2] 42)).alloc (.cells #[.int .i64 id, .slice A1' fs.length c1', .slice A2' ns.length c2'] 42))).cell? ⟨w.heap.size, 2, none⟩ = some (.slice A2 ns.length c2) := by simp [go_sem]
  have b1' : (((w.alloc (.cells #[.int .i64 id, .slice A1 fs.length c1, .slice A2 ns.length c2] 42)).alloc (.cells #[.int .i64 id, .slice A1' fs.length c1', .slice A2' ns.length c2'] 42))).cell? ⟨w.heap.size + 1, 1, none⟩ = some (.slice A1' fs.length c1') := by simp [go_sem]
  have b2' : (((w.alloc (.cells #[.int .i64 id, .slice A1 fs.length c1, .slice A2 ns.length c2] 42)).alloc (.cells #[.int .i64 id, .slice A1' fs.length c1', .slice A2' ns.length c2'] 42))).cell? ⟨w.heap.size + 1, 2, none⟩ = some (.slice A2' ns.length c2') := by simp [go_sem]
  have hsz : (((w.alloc (.cells #[.int .i64 id, .slice A1 fs.length c1, .slice A2 ns.length c2] 42)).alloc (.cells #[.int .i64 id, .slice A1' fs.length c1', .slice A2' ns.length c2'] 42))).heap.size = w.heap.size + 2 := by simp
  have k1 := h.below hB
  have k2 := h'.below hB
  go_enter Try.func70, Try.ntmps70
  go_wp2_with fail
  generalize ((w.alloc (.cells #[.int .i64 id, .slice A1 fs.length c1, .slice A2 ns.length c2] 42)).alloc (.cells #[.int .i64 id, .slice A1' fs.length c1', .slice A2' ns.length c2'] 42)) = W at hB b1 b2 b1' b2' hsz k1 k2 ⊢
  refine (eqFieldS_same A1 A1' c1 c1' fs _ k1.1 k2.1 (by omega)).mono ?_
  rintro e w1 ⟨rfl, hb1⟩
  replace b2 := (belowL hb1 (by omega)).trans b2
  replace b2' := (belowL hb1 (by omega)).trans b2'
  have hB1 := hB.trans (hb1.mono hB.size)
  go_wp2_with fail
  refine (eqAttrS_same A2 A2' c2 c2' ns _ (k1.2.below hb1) (k2.2.below hb1) (by omega)).mono ?_
  rintro e w2 ⟨rfl, hb2⟩
  have hB2 := hB1.trans (hb2.mono hB1.size)
  go_wp2
  go_ret
  exact ⟨rfl, hB2⟩
theorem cEqDoc (d : DocD) (A1 A2 A1' A2' : Option Addr) (c1 c2 c1' c2' : Nat) (W : World) (h : HasD W d A1 A2) (h' : HasD W d A1' A2') (hs : SmD d) (dd : Nat) (os : Array Obj) :
    Calls Try.prog 70 #[.agg #[.int .i64 d.id, .slice A1 d.fs.length c1, .slice A2 d.ns.length c2], .agg #[.int .i64 d.id, .slice A1' d.fs.length c1', .slice A2' d.ns.length c2']] (grow (redrawn W dd) os) fun e w'' => e = .returned (.bool true) ∧ ∃ p : Regrown, w'' = grow (redrawn W p.d) p.os :=
  Calls.regrown_of (eqDoc_same d A1 A2 A1' A2' c1 c2 c1' c2' _ (h.below (below_regrown W dd os)) (h'.below (below_regrown W dd os)) hs)
theorem eqDocS_same (A A' : Option Addr) (c c' : Nat) (Ds : List DocD) (w : World) (h : RdD w A Ds) (h' : RdD w A' Ds) (hs : SmDs Ds) :
    Calls Try.prog 34 #[.slice A Ds.length c, .slice A' Ds.length c'] w fun e w' => e = .returned (.bool true) ∧ Below w.heap.size w w' := by
  obtain ⟨hn, hs2⟩ := hs
  have HSM := Lib.hid hs2
  clear hs2
  go_enter Try.func34, Try.ntmps34
  go_wp2
  go_loopw [5] (fun i wr => ∃ k : Nat, k ≤ Ds.length ∧ i = .int .i64 k ∧ Below w.heap.size w wr) (fun i _ => Ds.length - (intOf i).toNat)
  case atStart => exact ⟨0, Nat.zero_le _, rfl, Below.refl _ _⟩
  case round =>
    obtain ⟨k, hk, rfl, hB⟩ := hrel
    by_cases hlt : k < Ds.length
    · obtain ⟨b, off, A1, c1, A2, c2, rfl, hb, x0, x1, x2, hh⟩ := (h.below hB) k hlt
      obtain ⟨b', off', A1', c1', A2', c2', rfl, hb', x0', x1', x2', hh'⟩ := (h'.below hB) k hlt
      have hi0 : (k : Int) < (Ds.length : Int) := by omega
      have hsm := HSM.out _ (List.getElem_mem hlt)
      generalize Ds[k] = d at x0 x1 x2 hh x0' x1' x2' hh' hsm
      have k1 := cell_regrown x0
      have k2 := cell_regrown x1
      have k3 := cell_regrown x2
      have k4 := cell_regrown x0'
      have k5 := cell_regrown x1'
      have k6 := cell_regrown x2'
      clear x0 x1 x2 x0' x1' x2' hb hb' h h'
      go_wp2_with fail
      refine region_qw (by kernel_rfl) (by kernel_rfl) ?_
      repeat (
        refine qw_step (fun K hK => ?_)
        go_simp
        first
          | (refine hK _ ?_; clear hK K)
          | (apply Exists.intro
             refine ⟨fun _ => ?_, hK _ ?_⟩
             (first | (go_at_call 70; exact cEqDoc d _ _ _ _ _ _ _ _ _ hh hh' hsm _ _))
             clear hK K))
      refine qw_nil ?_
      intro _ hw'
      obtain ⟨⟨dq, osq⟩, hw''⟩ := hw'
      subst hw''
      have hBq := hB.trans ((below_regrown wr dq osq).mono hB.size)
      generalize grow (redrawn wr dq) osq = Wq at hBq ⊢
      go_wp2
      go_roundw
      case rel => exact ⟨k + 1, by omega, by go_num, hBq⟩
      case measure => simp [intOf]; omega
    · go_wp2
      go_ret
      exact ⟨rfl, hB⟩
theorem markDocS_any (s t : Nat) (A : Option Addr) (c : Nat) (Ds : List DocD) (w : World) (h : WrD w s t A Ds) (hs : SmDs Ds) :
    Calls Try.prog 35 #[.slice A Ds.length c, .int .i64 1] w fun e w' => ∃ k : Int, (e = .returned (.int .i64 k) ∧ 0 ≤ k ∧ k ≤ 1 + 4194306 * 1048576) ∧ ZoneR s t w w' := by
  obtain ⟨hn, hs2⟩ := hs
  have HSM := Lib.hid hs2
  clear hs2
  go_enter Try.func35, Try.ntmps35
  go_wp2
  go_loopw [1, 5] (fun m i wr => ∃ k : Nat, k ≤ Ds.length ∧ i = .int .i64 k ∧ (∃ r : Int, m = .int .i64 r ∧ 0 ≤ r ∧ r ≤ 1 + 4194306 * k) ∧ ZoneR s t w wr ∧ Hid (WrD wr s t A Ds)) (fun _ i _ => Ds.length - (intOf i).toNat)
  case atStart => exact ⟨0, Nat.zero_le _, rfl, ⟨1, rfl, by omega, by omega⟩, ZoneR.refl _ _ _, h⟩
  case round =>
    obtain ⟨k, hk, rfl, ⟨r, rfl, hr0, hr1⟩, hz, hw⟩ := hrel
    by_cases hlt : k < Ds.length
    · rcases hw.out with hbad | ⟨b, cur, rfl, hb1, hb2, hb3, hb4, hb5⟩
      · omega
      · obtain ⟨A1, c1, A2, c2, e1, e2, e3, e4⟩ := hb5 k hlt
        have hsm := HSM.out _ (List.getElem_mem hlt)
        have hsf := hsm.fl
        have hsn := hsm.nl
        have hi0 : (k : Int) < (Ds.length : Int) := by omega
        have hkl : k * 3 < cur.size := by omega
        have g0 : wr.cell? ⟨b, k * 3, none⟩ = some cur[k * 3] := by rw [cell_of_row wr b (k * 3) cur _ (0, 0) hb3]; simp [hkl]
        have z0 : wr.frozen? ⟨b, k * 3, none⟩ = false := by simp [World.frozen?, hb3]
        obtain ⟨cur2, u1, u2, u3⟩ := heap_setCell_at wr b (k * 3) (.int .i64 r) cur _ hb3
        have hw2 : Hid (WrD (wr.setCell ⟨b, k * 3, none⟩ (.int .i64 r)) s t (some ⟨b, 0, none⟩) Ds) := .inr ⟨b, cur2, rfl, hb1, hb2, u1, by omega, fun i hi => by
          obtain ⟨B1, d1, B2, d2, a1, a2, a3, a4⟩ := hb5 i hi
          exact ⟨B1, d1, B2, d2, by rw [u3 _ (by omega)]; exact a1, by rw [u3 _ (by omega)]; exact a2, a3.set _, a4.set _⟩⟩
        have hz2 := hz.trans (ZoneR.setCell (j := k * 3) wr (.int .i64 r) hb1 hb2)
        have e3' : WrR 117 2 (wr.setCell ⟨b, k * 3, none⟩ (.int .i64 r)) s t A1 Ds[k].fs.length := e3.set _
        have e4' : WrR 88 2 (wr.setCell ⟨b, k * 3, none⟩ (.int .i64 r)) s t A2 Ds[k].ns.length := e4.set _
        have x1 : (wr.setCell ⟨b, k * 3, none⟩ (.int .i64 r)).cell? ⟨b, k * 3 + 1, none⟩ = some (.slice A1 Ds[k].fs.length c1) := by rw [cell_of_row _ b (k * 3 + 1) cur2 _ (0, 0) u1, u3 _ (by omega)]; exact e1
        have x2 : (wr.setCell ⟨b, k * 3, none⟩ (.int .i64 r)).cell? ⟨b, k * 3 + 2, none⟩ = some (.slice A2 Ds[k].ns.length c2) := by rw [cell_of_row _ b (k * 3 + 2) cur2 _ (0, 0) u1, u3 _ (by omega)]; exact e2
        clear hw e1 e2 e3 e4 hb5 h hsm hz
        go_wp2_with fail
        generalize wr.setCell ⟨b, k * 3, none⟩ (.int .i64 r) = w2 at hw2 hz2 e3' e4' x1 x2 u1 ⊢
        refine (markFieldS_wr s t A1 Ds[k].fs.length c1 (r + 1) _ e3' (by omega) (by omega) (by omega)).mono ?_
        rintro e w3 ⟨rfl, hz3, hd3, hr3⟩
        have u3' := hd3 _ _ _ (by decide) u1
        have y2 : w3.cell? ⟨b, k * 3 + 2, none⟩ = some (.slice A2 Ds[k].ns.length c2) := by
          rw [cell_of_row _ b (k * 3 + 2) cur2 _ (0, 0) u3', ← cell_of_row w2 b (k * 3 + 2) cur2 _ (0, 0) u1]; exact x2
        have e5 := hr3 _ _ _ _ e4'
        have hw3 : Hid (WrD w3 s t (some ⟨b, 0, none⟩) Ds) := hw2.out.keep hd3 hr3 (by decide)
        have hz4 := hz2.trans hz3
        clear hw2 hz2 hz3 hd3 hr3 e3' e4' x1 x2 u1
        go_wp2_with fail
        refine (markAttrS_wr s t A2 Ds[k].ns.length c2 _ _ e5 (by omega) (by omega) (by omega)).mono ?_
        rintro e w4 ⟨rfl, hz5, hd5, hr5⟩
        have hw5 : Hid (WrD w4 s t (some ⟨b, 0, none⟩) Ds) := hw3.out.keep hd5 hr5 (by decide)
        have hz6 := hz4.trans hz5
        clear hw3 hz4 hz5 hd5 hr5 e5 y2
        generalize Ds[k].fs.length = n1 at hsf ⊢
        generalize Ds[k].ns.length = n2 at hsn ⊢
        go_wp2
        go_roundw
        case rel => exact ⟨k + 1, by omega, by go_num, ⟨_, rfl, by omega, by omega⟩, hz6, hw5⟩
        case measure => simp [intOf]; omega
    · go_wp2
      go_ret
      exact ⟨r, ⟨rfl, hr0, by omega⟩, hz⟩
end Go.Proofs.Yteomiaffdbbpoaa
