/-
  Contracts of what the exact laws call on rows of impl.Syn: szSynS, toSynS, eqSynS.
-/
import Derived.Test.YtaobgliimbmemaaDoorTxt
namespace Go.Proofs.YtaobgliimbmemaaDoor
open Go.RowKit Go.Sort
set_option linter.unusedVariables false

structure BgY (y : SynD) : Prop where
  fl : y.fr.length ≤ 9223372036854775807
  f1 : ∀ s ∈ y.fr, s.size ≤ 9223372036854775807
  t1 : y.tgt.size ≤ 9223372036854775807
theorem szSyn_any (y : SynD) (A1 : Option Addr) (c1 : Nat) (left : Int) (w : World) (h : SrcT w A1 c1 y.fr) (hb : BgY y) (h0 : 0 ≤ left) (h1 : left ≤ 1048576) :
    Calls Tryd.prog 95 #[.agg #[.slice A1 y.fr.length c1, .string y.tgt], .int .i64 left] w (SzE left (SmY y) w) := by
  have ht := hb.t1
  have hB0 : Below w.heap.size w (w.alloc (.cells #[.slice A1 y.fr.length c1, .string y.tgt] 114)) := (Below.refl _ _).alloc (Nat.le_refl _) _
  have f1 : (w.alloc (.cells #[.slice A1 y.fr.length c1, .string y.tgt] 114)).cell? ⟨w.heap.size, 1, none⟩ = some (.string y.tgt) := by simp [go_sem]
  have hs0 : w.heap.size < (w.alloc (.cells #[.slice A1 y.fr.length c1, .string y.tgt] 114)).heap.size := by simp
  have hh := h.below hB0
  go_enter Tryd.func95, Tryd.ntmps95
  go_wp2_with fail
  generalize (w.alloc (.cells #[.slice A1 y.fr.length c1, .string y.tgt] 114)) = W0 at hB0 f1 hs0 hh ⊢
  refine (szStringS_any A1 c1 y.fr left _ hh hb.fl hb.f1 h0 h1).mono ?_
  rintro e w1 ⟨r, ⟨rfl, hr1, hr2⟩, hb1⟩
  have hB1 := hB0.trans (hb1.mono hB0.size)
  by_cases hn : r < 0
  · go_wp2
    go_ret
    exact ⟨-1, ⟨rfl, by omega, .inl (by omega)⟩, hB1⟩
  · have g1 := (hb1.cell (p := ⟨w.heap.size, 1, none⟩) hs0).trans f1
    have h5 := hr2.resolve_left (by omega)
    by_cases hn2 : r - (y.tgt.size : Int) < 0
    · go_wp2
      go_ret
      exact ⟨-1, ⟨rfl, by omega, .inl (by omega)⟩, hB1⟩
    · have hsm : Hid (SmY y) := ⟨h5, by omega⟩
      clear h5
      go_wp2
      go_ret
      exact ⟨_, ⟨rfl, by omega, .inr hsm.out⟩, hB1⟩
theorem szSynS_any (A : Option Addr) (c : Nat) (Ys : List SynD) (left : Int) (w : World) (h : RdY w A Ys) (hl : Ys.length ≤ 9223372036854775807) (hb : ∀ y ∈ Ys, BgY y) (h0 : 0 ≤ left) (h1 : left ≤ 1048576) :
    Calls Tryd.prog 62 #[.slice A Ys.length c, .int .i64 left] w (SzE left (Ys.length ≤ 1048576 ∧ ∀ y ∈ Ys, SmY y) w) := by
  by_cases h2 : left - (Ys.length : Int) < 0
  · go_enter Tryd.func62, Tryd.ntmps62
    go_wp2
    go_ret
    exact ⟨-1, ⟨rfl, by omega, .inl (by omega)⟩, Below.refl _ _⟩
  · have HL := Lib.hid hb
    clear hb
    have hl6 : Ys.length ≤ 1048576 := by omega
    go_enter Tryd.func62, Tryd.ntmps62
    go_wp2_with fail
    go_loopw [1, 5] (fun m i wr => ∃ k : Nat, k ≤ Ys.length ∧ i = .int .i64 k ∧ ∃ r : Int, m = .int .i64 r ∧ 0 ≤ r ∧ r ≤ left ∧ Hid (∀ d ∈ Ys.take k, SmY d) ∧ Below w.heap.size w wr) (fun _ i _ => Ys.length - (intOf i).toNat)
    case atStart => exact ⟨0, Nat.zero_le _, rfl, _, rfl, by omega, by omega, fun f hf => by simp at hf, Below.refl _ _⟩
    case round =>
      obtain ⟨k, hk, rfl, r, rfl, hr0, hrl, hr, hB⟩ := hrel
      have hr1 : r ≤ 1048576 := by omega
      by_cases hlt : k < Ys.length
      · obtain ⟨b, off, A1, c1, rfl, hbb, x0, x1, hh⟩ := (h.below hB) k hlt
        have hi0 : (k : Int) < (Ys.length : Int) := by omega
        have hb1 := HL.out Ys[k] (List.getElem_mem _)
        go_wp2_with fail
        refine (szSyn_any Ys[k] A1 c1 r _ hh hb1 hr0 hr1).mono ?_
        rintro e w1 ⟨r2, ⟨rfl, h3, h4⟩, hb2⟩
        have hB2 := hB.trans (hb2.mono hB.size)
        by_cases hneg : r2 < 0
        · go_wp2
          go_ret
          exact ⟨-1, ⟨rfl, by omega, .inl (by omega)⟩, hB2⟩
        · have h5 := h4.resolve_left (by omega)
          have hr2 : Hid (∀ d ∈ Ys.take (k + 1), SmY d) := fun f hf => by
            rw [← List.take_append_getElem hlt, List.mem_append] at hf
            rcases hf with hf | hf
            · exact hr.out f hf
            · simp at hf; rw [hf]; exact h5
          clear hr h4 h5
          go_wp2
          go_roundw
          case rel => exact ⟨k + 1, by omega, by go_num, _, rfl, by omega, by omega, hr2, hB2⟩
          case measure => simp [intOf]; omega
      · have hr2 : Hid (∀ d ∈ Ys, SmY d) := fun f hf => hr.out f (by rw [List.take_of_length_le (by omega)]; exact hf)
        clear hr
        go_wp2
        go_ret
        exact ⟨_, ⟨rfl, by omega, .inr ⟨hl6, hr2.out⟩⟩, hB⟩
theorem infoSyn : (Tryd.prog.info? 82).map (fun i => (i.zero, i.size, i.bytes)) = some (some (.agg #[.slice none 0 0, .string ⟨#[]⟩]), 2, 40) := by kernel_rfl
theorem rowTSyn : RowT Tryd.prog 42 82 2 40 := rowT_of Tryd.underlying42 infoSyn rfl
theorem belowL {B : Nat} {w w' : World} (h : Below B w w') {b o : Nat} (hb : b < B) : w'.cell? ⟨b, o, none⟩ = w.cell? ⟨b, o, none⟩ := h.cell (p := ⟨b, o, none⟩) hb
theorem belowZ {B : Nat} {w w' : World} (h : Below B w w') {b o : Nat} (hb : b < B) : w'.frozen? ⟨b, o, none⟩ = w.frozen? ⟨b, o, none⟩ := h.frozen (p := ⟨b, o, none⟩) hb
set_option maxHeartbeats 1600000 in
theorem toSyn_any (y : SynD) (A1 : Option Addr) (c1 : Nat) (w : World) (h : SrcT w A1 c1 y.fr) (hs : SmY y) :
    Calls Tryd.prog 96 #[.agg #[.slice A1 y.fr.length c1, .string y.tgt]] w fun e w' => ∃ g : Nat, (e = .returned (.agg #[.slice (some ⟨g, 0, none⟩) y.fr.length y.fr.length, .string y.tgt]) ∧ OwnT w' w.heap.size g y.fr.length y.fr) ∧ Below w.heap.size w w' := by
  obtain ⟨fr, tx⟩ := y
  obtain ⟨⟨hs1, _⟩, _⟩ := hs
  dsimp only at h hs1 ⊢
  have hB : Below w.heap.size w (((w.alloc (.cells #[.slice A1 fr.length c1, .string tx] 114)).alloc (.cells #[.slice none 0 0, .string ⟨#[]⟩] 82)).alloc (.cells #[.slice none 0 0, .string ⟨#[]⟩] 82)) := by (repeat' (first | exact Below.refl _ _ | apply Below.alloc | apply Below.setCell | apply Below.drew | apply below_draws)) <;> (first | omega | (simp <;> omega))
  have b1 : ((((w.alloc (.cells #[.slice A1 fr.length c1, .string tx] 114)).alloc (.cells #[.slice none 0 0, .string ⟨#[]⟩] 82)).alloc (.cells #[.slice none 0 0, .string ⟨#[]⟩] 82))).cell? ⟨w.heap.size, 1, none⟩ = some (.string tx) := by simp [go_sem]
  have o0 : ((((w.alloc (.cells #[.slice A1 fr.length c1, .string tx] 114)).alloc (.cells #[.slice none 0 0, .string ⟨#[]⟩] 82)).alloc (.cells #[.slice none 0 0, .string ⟨#[]⟩] 82))).cell? ⟨w.heap.size + 1 + 1, 0, none⟩ = some (.slice none 0 0) := by simp [go_sem]
  have o1 : ((((w.alloc (.cells #[.slice A1 fr.length c1, .string tx] 114)).alloc (.cells #[.slice none 0 0, .string ⟨#[]⟩] 82)).alloc (.cells #[.slice none 0 0, .string ⟨#[]⟩] 82))).cell? ⟨w.heap.size + 1 + 1, 1, none⟩ = some (.string ⟨#[]⟩) := by simp [go_sem]
  have s0 : ((((w.alloc (.cells #[.slice A1 fr.length c1, .string tx] 114)).alloc (.cells #[.slice none 0 0, .string ⟨#[]⟩] 82)).alloc (.cells #[.slice none 0 0, .string ⟨#[]⟩] 82))).cell? ⟨w.heap.size + 1, 0, none⟩ = some (.slice none 0 0) := by simp [go_sem]
  have s1 : ((((w.alloc (.cells #[.slice A1 fr.length c1, .string tx] 114)).alloc (.cells #[.slice none 0 0, .string ⟨#[]⟩] 82)).alloc (.cells #[.slice none 0 0, .string ⟨#[]⟩] 82))).cell? ⟨w.heap.size + 1, 1, none⟩ = some (.string ⟨#[]⟩) := by simp [go_sem]
  have z : ∀ j, ((((w.alloc (.cells #[.slice A1 fr.length c1, .string tx] 114)).alloc (.cells #[.slice none 0 0, .string ⟨#[]⟩] 82)).alloc (.cells #[.slice none 0 0, .string ⟨#[]⟩] 82))).frozen? ⟨w.heap.size + 1 + 1, j, none⟩ = false := fun j => by simp [go_sem]
  have z' : ∀ j, ((((w.alloc (.cells #[.slice A1 fr.length c1, .string tx] 114)).alloc (.cells #[.slice none 0 0, .string ⟨#[]⟩] 82)).alloc (.cells #[.slice none 0 0, .string ⟨#[]⟩] 82))).frozen? ⟨w.heap.size + 1, j, none⟩ = false := fun j => by simp [go_sem]
  have hsz : ((((w.alloc (.cells #[.slice A1 fr.length c1, .string tx] 114)).alloc (.cells #[.slice none 0 0, .string ⟨#[]⟩] 82)).alloc (.cells #[.slice none 0 0, .string ⟨#[]⟩] 82))).heap.size = w.heap.size + 3 := by simp
  have hh := h.below hB
  go_enter Tryd.func96, Tryd.ntmps96
  go_wp2_with fail
  generalize (((w.alloc (.cells #[.slice A1 fr.length c1, .string tx] 114)).alloc (.cells #[.slice none 0 0, .string ⟨#[]⟩] 82)).alloc (.cells #[.slice none 0 0, .string ⟨#[]⟩] 82)) = W at hB b1 o0 o1 s0 s1 z z' hsz hh ⊢
  refine (toStringS_any A1 c1 fr _ hh hs1).mono ?_
  rintro e w1 ⟨g1, ⟨rfl, r1⟩, hb1⟩
  replace b1 := (belowL hb1 (by omega)).trans b1
  replace o0 := (belowL hb1 (by omega)).trans o0
  replace o1 := (belowL hb1 (by omega)).trans o1
  replace s0 := (belowL hb1 (by omega)).trans s0
  replace s1 := (belowL hb1 (by omega)).trans s1
  have z0 := (belowZ hb1 (by omega)).trans (z 0)
  have z1 := (belowZ hb1 (by omega)).trans (z 1)
  have y0 := (belowZ hb1 (by omega)).trans (z' 0)
  have y1 := (belowZ hb1 (by omega)).trans (z' 1)
  have hB1 := hB.trans (hb1.mono hB.size)
  have hz : ZoneR (w.heap.size + 1) (w.heap.size + 3) w1 ((((w1.setCell ⟨w.heap.size + 1 + 1, 0, none⟩ (.slice (some ⟨g1, 0, none⟩) fr.length fr.length)).setCell ⟨w.heap.size + 1 + 1, 1, none⟩ (.string tx)).setCell ⟨w.heap.size + 1, 0, none⟩ (.slice (some ⟨g1, 0, none⟩) fr.length fr.length)).setCell ⟨w.heap.size + 1, 1, none⟩ (.string tx)) :=
    (((ZoneR.setCell w1 _ (by omega) (by omega)).trans (ZoneR.setCell _ _ (by omega) (by omega))).trans (ZoneR.setCell _ _ (by omega) (by omega))).trans (ZoneR.setCell _ _ (by omega) (by omega))
  have hl1 := fun k hk => (r1.lt k hk).1
  have r2 := own_monoZ (own_zoneR r1 hz (fun k hk => .inr (by have := hl1 k hk; omega))) (show w.heap.size ≤ W.heap.size by omega)
  have hBz := hB1.trans (hz.below (B := w.heap.size) (by omega) hB1.size)
  have R2 := Lib.hid r2
  have HBZ := Lib.hid hBz
  clear hB hb1 r1 z z' hh hl1 r2 hz hBz h hsz
  go_wp2
  exact bodyPost_ret (v := .agg #[.slice (some ⟨g1, 0, none⟩) fr.length fr.length, .string tx]) (by simp [results, Tryd.results96, go_sem, *]) rfl ⟨g1, ⟨rfl, R2.out⟩, HBZ.out⟩
/-- the header of a record in a row of the call's own. -/
structure HdY where
  g : Nat
  c : Nat
  y : SynD
def encH (h : HdY) : List Value := [.slice (some ⟨h.g, 0, none⟩) h.y.fr.length h.c, .string h.y.tgt]
theorem encH_ok : Enc encH 2 := ⟨fun _ => rfl, fun a u hu => by simp [encH] at hu; rcases hu with rfl | rfl <;> rfl⟩
def zsY : List Value := [.slice none 0 0, .string ⟨#[]⟩]
def fillH (hv : List HdY) (n : Nat) : List Value := hv.flatMap encH ++ (List.replicate (n - hv.length) zsY).flatten
theorem fillH_nil (n : Nat) : fillH [] n = (List.replicate n zsY).flatten := by simp [fillH]
theorem fillH_all {hv : List HdY} {n : Nat} (h : hv.length = n) : fillH hv n = hv.flatMap encH := by simp [fillH, h]
theorem fillH_get {hv : List HdY} {n k : Nat} (h : hv.length = k) (hk : k < n) {j : Nat} (hj : j < 2) : (fillH hv n)[k * 2 + j]? = zsY[j]? := by
  have hl : (hv.flatMap encH).length = k * 2 := by rw [encH_ok.flat, h]
  unfold fillH
  rw [show n - hv.length = (n - (k + 1)) + 1 by omega, List.replicate_succ, List.flatten_cons, List.getElem?_append_right (by omega), hl, show k * 2 + j - k * 2 = j by omega, List.getElem?_append_left (by simp [zsY]; omega)]
theorem fillH_step {hv : List HdY} {n k : Nat} (h : hv.length = k) (hk : k < n) (m : HdY) : ((fillH hv n).set (k * 2) (.slice (some ⟨m.g, 0, none⟩) m.y.fr.length m.c)).set (k * 2 + 1) (.string m.y.tgt) = fillH (hv ++ [m]) n := by
  have hl : (hv.flatMap encH).length = k * 2 := by rw [encH_ok.flat, h]
  unfold fillH
  rw [show n - hv.length = (n - (k + 1)) + 1 by omega, List.replicate_succ, List.flatten_cons, List.set_append_right _ _ (by omega), hl, Nat.sub_self, List.set_append_right _ _ (by omega), hl, show k * 2 + 1 - k * 2 = 1 by omega, List.flatMap_append, List.append_assoc, List.length_append, h]
  rfl
/-- rows of the call's own that the headers point to, no two the same. -/
structure OwnH (w : World) (s : Nat) (hv : List HdY) : Prop where
  own : ∀ h ∈ hv, OwnT w s h.g h.c h.y.fr
  dif : (hv.map (·.g)).Nodup
theorem OwnH.nil (w : World) (s : Nat) : OwnH w s [] := ⟨fun h hh => by simp at hh, by simp⟩
theorem OwnH.below {w w' : World} {s : Nat} {hv : List HdY} (h : OwnH w s hv) (hb : Below w.heap.size w w') : OwnH w' s hv := ⟨fun m hm => own_belowZ (h.own m hm) hb, h.dif⟩
theorem OwnH.lt {w : World} {s : Nat} {hv : List HdY} (h : OwnH w s hv) : ∀ m ∈ hv, s ≤ m.g ∧ m.g < w.heap.size := fun m hm => ⟨(OwnE.capOk (h.own m hm)).2.2.1, (OwnE.capOk (h.own m hm)).2.2.2⟩
/-- .. under a store to a row of another type. -/
theorem OwnH.kept {w w' : World} {s b2 g c n E F : Nat} {hv : List HdY} {xs : List Value} (h : OwnH w s hv) (hE : 9 ≠ E) (ho : w.ownsRow b2 E F (.slice (some ⟨g, 0, none⟩) n c) n xs) (hg : w.grownBy w' (some g)) : OwnH w' s hv :=
  ⟨fun m hm => own_other (h.own m hm) hg (own_ne (h.own m hm) ho hE _ _ rfl rfl), h.dif⟩
theorem OwnH.snoc {w : World} {s : Nat} {hv : List HdY} {m : HdY} (h : OwnH w s hv) (h1 : OwnT w s m.g m.c m.y.fr) (h2 : ∀ x ∈ hv, x.g ≠ m.g) : OwnH w s (hv ++ [m]) := by
  refine ⟨fun x hx => ?_, ?_⟩
  · rcases List.mem_append.1 hx with hx | hx
    · exact h.own x hx
    · simp at hx; subst hx; exact h1
  · rw [List.map_append, List.nodup_append]
    refine ⟨h.dif, by simp, fun a ha b hb => ?_⟩
    obtain ⟨x, hx, rfl⟩ := List.mem_map.1 ha
    simp at hb
    subst hb
    exact h2 x hx
/-- a row of records of the call's own. -/
structure OwnY (w : World) (base g c : Nat) (hv : List HdY) : Prop where
  hd : OwnE encH 82 2 w base g c hv
  fr : OwnH w base hv
theorem OwnY.rd {w : World} {base g c : Nat} {hv : List HdY} (h : OwnY w base g c hv) : RdY w (some ⟨g, 0, none⟩) (hv.map (·.y)) := fun k hk => by
  have hk' : k < hv.length := by simpa using hk
  obtain ⟨b, off, e, hb, hc⟩ := (Rds.own h.hd).2 (by omega)
  simp only [Option.some.injEq, Addr.mk.injEq, and_true] at e
  obtain ⟨rfl, rfl⟩ := e
  have hg := List.getElem?_eq_getElem hk'
  refine ⟨g, 0, some ⟨hv[k].g, 0, none⟩, hv[k].c, rfl, hb, ?_, ?_, ?_⟩
  · have := hc (k * 2 + 0) _ (by rw [flat_get (enc := encH) (F := 2) (fun _ => rfl) hg (by omega)]; rfl)
    rw [List.getElem_map]; simpa using this
  · have := hc (k * 2 + 1) _ (by rw [flat_get (enc := encH) (F := 2) (fun _ => rfl) hg (by omega)]; rfl)
    rw [List.getElem_map]; simpa using this
  · rw [List.getElem_map]; exact (h.fr.own hv[k] (List.getElem_mem _)).src
theorem OwnY.below {w w' : World} {base g c : Nat} {hv : List HdY} (h : OwnY w base g c hv) (hb : Below w.heap.size w w') : OwnY w' base g c hv := ⟨own_belowZ h.hd hb, h.fr.below hb⟩
end Go.Proofs.YtaobgliimbmemaaDoor
