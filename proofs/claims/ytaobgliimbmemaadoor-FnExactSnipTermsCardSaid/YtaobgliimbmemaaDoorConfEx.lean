/-
  Contracts of toSynS, eqSynS; szConf, toConf, eqConf.
-/
import Derived.Test.YtaobgliimbmemaaDoorSyn
namespace Go.Proofs.YtaobgliimbmemaaDoor
open Go.RowKit Go.Sort
set_option linter.unusedVariables false

set_option maxHeartbeats 1600000 in
theorem toSynS_any (A : Option Addr) (c : Nat) (Ys : List SynD) (w : World) (h : RdY w A Ys) (hn : Ys.length ≤ 1048576) (hs : ∀ y ∈ Ys, SmY y) :
    Calls Tryd.prog 63 #[.slice A Ys.length c] w fun e w' => ∃ (g : Nat) (hv : List HdY), (e = .returned (.slice (some ⟨g, 0, none⟩) Ys.length Ys.length) ∧ hv.map (·.y) = Ys ∧ OwnY w' w.heap.size g Ys.length hv) ∧ Below w.heap.size w w' := by
  have HSM := Lib.hid hs
  clear hs
  obtain ⟨i0, hi, hz0, hz1, hz2⟩ := info_partsZ infoSyn
  obtain ⟨wm, hmk, hown0, hg0⟩ := run_make_full (P := Tryd.prog) w w.heap.size 42 82 i0 _ 2 Tryd.underlying42 hi hz0 hz1 .i64 .i64 Ys.length (by rw [hz2]; omega) (by unfold maxLen; omega) (Nat.le_refl _)
  have hB0 : Below w.heap.size w wm := (Below.refl _ _).grown hg0 (Nat.le_refl _) (fun k hk => by cases hk)
  go_enter Tryd.func63, Tryd.ntmps63
  go_wp2
  go_loopw [4] (fun i wr => ∃ k : Nat, k ≤ Ys.length ∧ i = .int .i64 k ∧ ∃ hv : List HdY, Hid (hv.map (·.y) = Ys.take k) ∧ OwnH wr w.heap.size hv ∧ wr.ownsRow w.heap.size 82 2 (.slice (some ⟨w.heap.size, 0, none⟩) Ys.length Ys.length) Ys.length (fillH hv Ys.length) ∧ Below w.heap.size w wr) (fun i _ => Ys.length - (intOf i).toNat)
  case atStart => exact ⟨0, Nat.zero_le _, rfl, [], rfl, OwnH.nil _ _, by rw [fillH_nil, ← made_rep (Value.agg #[.slice none 0 0, .string ⟨#[]⟩]).cells zsY 2 Ys.length rfl rfl (by omega)]; exact hown0, hB0⟩
  case round =>
    obtain ⟨k, hk, rfl, hv, hm, hh, hown, hB⟩ := hrel
    have HLv : Hid (hv.length = k) := by
      show _ = _
      have := congrArg List.length hm.out
      rw [List.length_map, List.length_take] at this
      omega
    by_cases hlt : k < Ys.length
    · obtain ⟨b, off, A1, c1, rfl, hb, x0, x1, hd⟩ := (h.below hB) k hlt
      have hi0 : (k : Int) < (Ys.length : Int) := by omega
      have hsm := HSM.out _ (List.getElem_mem hlt)
      have f0 : (fillH hv Ys.length)[k * 2]? = some (.slice none 0 0) := fillH_get (n := Ys.length) HLv.out hlt (j := 0) (by omega)
      have f1 : (fillH hv Ys.length)[k * 2 + 1]? = some (.string ⟨#[]⟩) := fillH_get (n := Ys.length) HLv.out hlt (j := 1) (by omega)
      have hlts := hh.lt
      have HMM : Hid (∀ (g1 c9 : Nat), (hv ++ [(⟨g1, c9, Ys[k]⟩ : HdY)]).map (fun m => m.y) = Ys.take (k + 1)) := fun g1 c9 => by rw [List.map_append, hm.out, ← List.take_append_getElem hlt]; rfl
      go_wp2_with fail
      refine (toSyn_any Ys[k] A1 c1 _ hd hsm).mono ?_
      rintro e w2 ⟨g1, ⟨rfl, r1⟩, hb2⟩
      have own2 := own_belowZ hown hb2
      have q0 := (own2.cellAt (k * 2) (by omega)).trans f0
      have q1 := (own2.cellAt (k * 2 + 1) (by omega)).trans f1
      have z0 := own2.frozenAt (k * 2)
      have z1 := own2.frozenAt (k * 2 + 1)
      have hstep := fillH_step HLv.out hlt ⟨g1, Ys[k].fr.length, Ys[k]⟩
      dsimp only at hstep
      have a1 := own2.stored (k * 2) (.slice (some ⟨g1, 0, none⟩) Ys[k].fr.length Ys[k].fr.length)
      have a2 := a1.1.stored (k * 2 + 1) (.string Ys[k].tgt)
      have own5 := a2.1
      rw [hstep] at own5
      have hg5 := a1.2.trans a2.2
      have hB2 := hB.trans (hb2.mono hB.size)
      have hge := (OwnE.capOk r1).2.2.1
      have hh5 := ((hh.below hb2).snoc (m := ⟨g1, Ys[k].fr.length, Ys[k]⟩) (own_monoZ r1 hB.size) (fun x hx => by have := hlts x hx; show x.g ≠ g1; omega)).kept (by decide) own2 hg5
      have hB5 := (hB2.setCell (p := ⟨w.heap.size, k * 2, none⟩) (Nat.le_refl _) (.slice (some ⟨g1, 0, none⟩) Ys[k].fr.length Ys[k].fr.length)).setCell (p := ⟨w.heap.size, k * 2 + 1, none⟩) (Nat.le_refl _) (.string Ys[k].tgt)
      have HM5 := Lib.hid (HMM.out g1 Ys[k].fr.length)
      have HH5 := Lib.hid hh5
      have O5 := Lib.hid own5
      clear hh hown hd own2 r1 hstep a1 a2 own5 hg5 hB2 hh5 f0 f1 hsm hb2 hB hlts HMM hm HLv hge
      generalize hv ++ [⟨g1, Ys[k].fr.length, Ys[k]⟩] = hv2 at HH5 O5 HM5
      generalize Ys[k].fr.length = n1 at x0 HH5 O5 hB5 ⊢
      generalize Ys[k].tgt = t1 at x1 HH5 O5 hB5 ⊢
      go_wp2
      go_roundw
      case rel => exact ⟨k + 1, by omega, by go_num, _, HM5, HH5.out, O5.out, hB5⟩
      case measure => simp [intOf]; omega
    · obtain rfl : k = Ys.length := by omega
      have HM5 : Hid (hv.map (·.y) = Ys) := by show _ = _; rw [hm.out, List.take_length]
      have HO : Hid (OwnY wr w.heap.size w.heap.size Ys.length hv) := by
        refine ⟨?_, hh⟩
        rw [fillH_all HLv.out] at hown
        unfold OwnE
        rw [HLv.out]
        exact hown
      clear hm HLv hown hh
      go_wp2
      go_ret
      exact ⟨w.heap.size, hv, ⟨rfl, HM5.out, HO.out⟩, hB⟩
theorem eqSyn_same (y : SynD) (A1 A1' : Option Addr) (c1 c1' : Nat) (w : World) (h : SrcT w A1 c1 y.fr) (h' : SrcT w A1' c1' y.fr) (hn : y.fr.length ≤ 1048576) :
    Calls Tryd.prog 97 #[.agg #[.slice A1 y.fr.length c1, .string y.tgt], .agg #[.slice A1' y.fr.length c1', .string y.tgt]] w fun e w' => e = .returned (.bool true) ∧ Below w.heap.size w w' := by
  obtain ⟨fr, tx⟩ := y
  dsimp only at h h' hn ⊢
  have hB : Below w.heap.size w ((w.alloc (.cells #[.slice A1 fr.length c1, .string tx] 82)).alloc (.cells #[.slice A1' fr.length c1', .string tx] 82)) := by (repeat' (first | exact Below.refl _ _ | apply Below.alloc | apply Below.setCell | apply Below.drew | apply below_draws)) <;> (first | omega | (simp <;> omega))
  have b1 : ((w.alloc (.cells #[.slice A1 fr.length c1, .string tx] 82)).alloc (.cells #[.slice A1' fr.length c1', .string tx] 82)).cell? ⟨w.heap.size, 1, none⟩ = some (.string tx) := by simp [go_sem]
  have b2 : ((w.alloc (.cells #[.slice A1 fr.length c1, .string tx] 82)).alloc (.cells #[.slice A1' fr.length c1', .string tx] 82)).cell? ⟨w.heap.size + 1, 1, none⟩ = some (.string tx) := by simp [go_sem]
  have hsz : ((w.alloc (.cells #[.slice A1 fr.length c1, .string tx] 82)).alloc (.cells #[.slice A1' fr.length c1', .string tx] 82)).heap.size = w.heap.size + 2 := by simp
  have hh := h.below hB
  have hh' := h'.below hB
  go_enter Tryd.func97, Tryd.ntmps97
  go_wp2_with fail
  generalize ((w.alloc (.cells #[.slice A1 fr.length c1, .string tx] 82)).alloc (.cells #[.slice A1' fr.length c1', .string tx] 82)) = W at hB b1 b2 hsz hh hh' ⊢
  refine (eqStringS_same A1 A1' c1 c1' fr _ hh hh' (by omega)).mono ?_
  rintro e w1 ⟨rfl, hb1⟩
  replace b1 := (belowL hb1 (by omega)).trans b1
  replace b2 := (belowL hb1 (by omega)).trans b2
  have hB1 := hB.trans (hb1.mono hB.size)
  clear h h' hh hh' hB hb1 hsz
  go_wp2
  go_ret
  exact ⟨rfl, hB1⟩
theorem cEqSyn (y : SynD) (A1 A1' : Option Addr) (c1 c1' : Nat) (W : World) (h : SrcT W A1 c1 y.fr) (h' : SrcT W A1' c1' y.fr) (hn : y.fr.length ≤ 1048576) (d : Nat) (os : Array Obj) :
    Calls Tryd.prog 97 #[.agg #[.slice A1 y.fr.length c1, .string y.tgt], .agg #[.slice A1' y.fr.length c1', .string y.tgt]] (grow (redrawn W d) os) fun e w'' => e = .returned (.bool true) ∧ ∃ p : Regrown, w'' = grow (redrawn W p.d) p.os :=
  Calls.regrown_of (eqSyn_same y A1 A1' c1 c1' _ (h.below (below_regrown W d os)) (h'.below (below_regrown W d os)) hn)
theorem eqSynS_same (A A' : Option Addr) (c c' : Nat) (Ys : List SynD) (w : World) (h : RdY w A Ys) (h' : RdY w A' Ys) (hn : Ys.length ≤ 1048576) (hs : ∀ y ∈ Ys, SmY y) :
    Calls Tryd.prog 64 #[.slice A Ys.length c, .slice A' Ys.length c'] w fun e w' => e = .returned (.bool true) ∧ Below w.heap.size w w' := by
  have HSM := Lib.hid hs
  clear hs
  go_enter Tryd.func64, Tryd.ntmps64
  go_wp2
  go_loopw [5] (fun i wr => ∃ k : Nat, k ≤ Ys.length ∧ i = .int .i64 k ∧ Below w.heap.size w wr) (fun i _ => Ys.length - (intOf i).toNat)
  case atStart => exact ⟨0, Nat.zero_le _, rfl, Below.refl _ _⟩
  case round =>
    obtain ⟨k, hk, rfl, hB⟩ := hrel
    by_cases hlt : k < Ys.length
    · obtain ⟨b, off, A1, c1, rfl, hb, x0, x1, hx⟩ := (h.below hB) k hlt
      obtain ⟨b', off', A1', c1', rfl, hb', x0', x1', hx'⟩ := (h'.below hB) k hlt
      have hi0 : (k : Int) < (Ys.length : Int) := by omega
      have hsm := (HSM.out _ (List.getElem_mem hlt)).1.1
      generalize Ys[k] = y at x0 x1 hx x0' x1' hx' hsm
      have k1 := cell_regrown x0
      have k2 := cell_regrown x1
      have k3 := cell_regrown x0'
      have k4 := cell_regrown x1'
      clear x0 x1 x0' x1' hb hb' h h'
      go_wp2_with fail
      refine region_qw (by kernel_rfl) (by kernel_rfl) ?_
      repeat (
        refine qw_step (fun K hK => ?_)
        go_simp
        first
          | (refine hK _ ?_; clear hK K)
          | (apply Exists.intro
             refine ⟨fun _ => ?_, hK _ ?_⟩
             (first | (go_at_call 97; exact cEqSyn _ _ _ _ _ _ hx hx' hsm _ _))
             clear hK K))
      refine qw_nil ?_
      intro _ hw'
      obtain ⟨⟨dq, osq⟩, hw''⟩ := hw'
      subst hw''
      have hBq := hB.trans ((below_regrown wr dq osq).mono hB.size)
      clear hx hx'
      dsimp only
      generalize grow (redrawn wr dq) osq = Wq at hBq ⊢
      go_wp2
      go_roundw
      case rel => exact ⟨k + 1, by omega, by go_num, hBq⟩
      case measure => simp [intOf]; omega
    · go_wp2
      go_ret
      exact ⟨rfl, hB⟩
structure BgC (c : ConfD) : Prop where
  sl : c.st.length ≤ 9223372036854775807
  s1 : ∀ s ∈ c.st, s.size ≤ 9223372036854775807
  yl : c.sy.length ≤ 9223372036854775807
  y1 : ∀ y ∈ c.sy, BgY y
theorem szConf_any (d : ConfD) (A1 A2 : Option Addr) (c1 c2 : Nat) (left : Int) (w : World) (h : HasC w d A1 c1 A2) (hb : BgC d) (h0 : 0 ≤ left) (h1 : left ≤ 1048576) :
    Calls Tryd.prog 30 #[.agg #[.slice A1 d.st.length c1, .slice A2 d.sy.length c2], .int .i64 left] w (SzE left (SmC d) w) := by
  have hB0 : Below w.heap.size w (w.alloc (.cells #[.slice A1 d.st.length c1, .slice A2 d.sy.length c2] 54)) := (Below.refl _ _).alloc (Nat.le_refl _) _
  have f2 : (w.alloc (.cells #[.slice A1 d.st.length c1, .slice A2 d.sy.length c2] 54)).cell? ⟨w.heap.size, 1, none⟩ = some (.slice A2 d.sy.length c2) := by simp [go_sem]
  have hs0 : w.heap.size < (w.alloc (.cells #[.slice A1 d.st.length c1, .slice A2 d.sy.length c2] 54)).heap.size := by simp
  have hh := h.below hB0
  go_enter Tryd.func30, Tryd.ntmps30
  go_wp2_with fail
  generalize (w.alloc (.cells #[.slice A1 d.st.length c1, .slice A2 d.sy.length c2] 54)) = W0 at hB0 f2 hs0 hh ⊢
  refine (szStringS_any A1 c1 d.st left _ hh.1 hb.sl hb.s1 h0 h1).mono ?_
  rintro e w1 ⟨r, ⟨rfl, hr1, hr2⟩, hb1⟩
  have hB1 := hB0.trans (hb1.mono hB0.size)
  by_cases hn : r < 0
  · go_wp2
    go_ret
    exact ⟨-1, ⟨rfl, by omega, .inl (by omega)⟩, hB1⟩
  · have g2 := (hb1.cell (p := ⟨w.heap.size, 1, none⟩) hs0).trans f2
    go_wp2_with fail
    refine (szSynS_any A2 c2 d.sy r _ (hh.2.below hb1) hb.yl hb.y1 (by omega) (by omega)).mono ?_
    rintro e w2 ⟨r2, ⟨rfl, hr3, hr4⟩, hb2⟩
    have hB2 := hB1.trans (hb2.mono hB1.size)
    by_cases hn2 : r2 < 0
    · go_wp2
      go_ret
      exact ⟨-1, ⟨rfl, by omega, .inl (by omega)⟩, hB2⟩
    · have h5 := hr2.resolve_left (by omega)
      have h6 := hr4.resolve_left (by omega)
      have hsm : SmC d := ⟨h5, h6.1, h6.2⟩
      have HSM := Lib.hid hsm
      clear hsm h5 h6 hr2 hr4
      go_wp2
      go_ret
      exact ⟨r2, ⟨rfl, by omega, .inr HSM.out⟩, hB2⟩
theorem eqConf_same (d : ConfD) (A1 A2 A1' A2' : Option Addr) (c1 c2 c1' c2' : Nat) (w : World) (h : HasC w d A1 c1 A2) (h' : HasC w d A1' c1' A2') (hs : SmC d) :
    Calls Tryd.prog 33 #[.agg #[.slice A1 d.st.length c1, .slice A2 d.sy.length c2], .agg #[.slice A1' d.st.length c1', .slice A2' d.sy.length c2']] w fun e w' => e = .returned (.bool true) ∧ Below w.heap.size w w' := by
  obtain ⟨st, sy⟩ := d
  obtain ⟨⟨hs1, _⟩, hs2, hs3⟩ := hs
  have HS3 := Lib.hid hs3
  clear hs3
  obtain ⟨p1, p2⟩ := h
  obtain ⟨p1', p2'⟩ := h'
  dsimp only at hs1 hs2 p1 p2 p1' p2' ⊢
  have hB : Below w.heap.size w ((w.alloc (.cells #[.slice A1 st.length c1, .slice A2 sy.length c2] 44)).alloc (.cells #[.slice A1' st.length c1', .slice A2' sy.length c2'] 44)) := by (repeat' (first | exact Below.refl _ _ | apply Below.alloc | apply Below.setCell | apply Below.drew | apply below_draws)) <;> (first | omega | (simp <;> omega))
  have b1 : ((w.alloc (.cells #[.slice A1 st.length c1, .slice A2 sy.length c2] 44)).alloc (.cells #[.slice A1' st.length c1', .slice A2' sy.length c2'] 44)).cell? ⟨w.heap.size, 1, none⟩ = some (.slice A2 sy.length c2) := by simp [go_sem]
  have b2 : ((w.alloc (.cells #[.slice A1 st.length c1, .slice A2 sy.length c2] 44)).alloc (.cells #[.slice A1' st.length c1', .slice A2' sy.length c2'] 44)).cell? ⟨w.heap.size + 1, 1, none⟩ = some (.slice A2' sy.length c2') := by simp [go_sem]
  have hsz : ((w.alloc (.cells #[.slice A1 st.length c1, .slice A2 sy.length c2] 44)).alloc (.cells #[.slice A1' st.length c1', .slice A2' sy.length c2'] 44)).heap.size = w.heap.size + 2 := by simp
  go_enter Tryd.func33, Tryd.ntmps33
  go_wp2_with fail
  generalize ((w.alloc (.cells #[.slice A1 st.length c1, .slice A2 sy.length c2] 44)).alloc (.cells #[.slice A1' st.length c1', .slice A2' sy.length c2'] 44)) = W at hB b1 b2 hsz ⊢
  refine (eqStringS_same A1 A1' c1 c1' st _ (p1.below hB) (p1'.below hB) (by omega)).mono ?_
  rintro e w1 ⟨rfl, hb1⟩
  replace b1 := (belowL hb1 (by omega)).trans b1
  replace b2 := (belowL hb1 (by omega)).trans b2
  have hB1 := hB.trans (hb1.mono hB.size)
  clear hB hb1 hsz
  go_wp2_with fail
  refine (eqSynS_same A2 A2' c2 c2' sy _ (p2.below hB1) (p2'.below hB1) hs2 HS3.out).mono ?_
  rintro e w2 ⟨rfl, hb2⟩
  go_wp2
  go_ret
  exact ⟨rfl, hB1.trans (hb2.mono hB1.size)⟩
/-- how words are read, in rows of the call's own. -/
structure OwnC (w : World) (base : Nat) (d : ConfD) (g1 c1 g2 c2 : Nat) (hv : List HdY) : Prop where
  st : OwnT w base g1 c1 d.st
  sy : OwnY w base g2 c2 hv
  eq : hv.map (·.y) = d.sy
  ne : ∀ m ∈ hv, m.g ≠ g1
theorem OwnC.has {w : World} {base g1 c1 g2 c2 : Nat} {d : ConfD} {hv : List HdY} (h : OwnC w base d g1 c1 g2 c2 hv) : HasC w d (some ⟨g1, 0, none⟩) c1 (some ⟨g2, 0, none⟩) := ⟨h.st.src, by have := h.sy.rd; rw [h.eq] at this; exact this⟩
theorem OwnC.below {w w' : World} {base g1 c1 g2 c2 : Nat} {d : ConfD} {hv : List HdY} (h : OwnC w base d g1 c1 g2 c2 hv) (hb : Below w.heap.size w w') : OwnC w' base d g1 c1 g2 c2 hv := ⟨own_belowZ h.st hb, h.sy.below hb, h.eq, h.ne⟩
set_option maxHeartbeats 1600000 in
theorem toConf_any (d : ConfD) (A1 A2 : Option Addr) (c1 c2 : Nat) (w : World) (h : HasC w d A1 c1 A2) (hs : SmC d) :
    Calls Tryd.prog 31 #[.agg #[.slice A1 d.st.length c1, .slice A2 d.sy.length c2]] w fun e w' => ∃ (g1 g2 : Nat) (hv : List HdY), (e = .returned (.agg #[.slice (some ⟨g1, 0, none⟩) d.st.length d.st.length, .slice (some ⟨g2, 0, none⟩) d.sy.length d.sy.length]) ∧ OwnC w' w.heap.size d g1 d.st.length g2 d.sy.length hv) ∧ Below w.heap.size w w' := by
  obtain ⟨st, sy⟩ := d
  obtain ⟨⟨hs1, _⟩, hs2, hs3⟩ := hs
  have HS3 := Lib.hid hs3
  clear hs3
  obtain ⟨p1, p2⟩ := h
  dsimp only at hs1 hs2 p1 p2 ⊢
  have hB : Below w.heap.size w (((w.alloc (.cells #[.slice A1 st.length c1, .slice A2 sy.length c2] 54)).alloc (.cells #[.slice none 0 0, .slice none 0 0] 44)).alloc (.cells #[.slice none 0 0, .slice none 0 0] 44)) := by (repeat' (first | exact Below.refl _ _ | apply Below.alloc | apply Below.setCell | apply Below.drew | apply below_draws)) <;> (first | omega | (simp <;> omega))
  have b1 : ((((w.alloc (.cells #[.slice A1 st.length c1, .slice A2 sy.length c2] 54)).alloc (.cells #[.slice none 0 0, .slice none 0 0] 44)).alloc (.cells #[.slice none 0 0, .slice none 0 0] 44))).cell? ⟨w.heap.size, 1, none⟩ = some (.slice A2 sy.length c2) := by simp [go_sem]
  have o0 : ((((w.alloc (.cells #[.slice A1 st.length c1, .slice A2 sy.length c2] 54)).alloc (.cells #[.slice none 0 0, .slice none 0 0] 44)).alloc (.cells #[.slice none 0 0, .slice none 0 0] 44))).cell? ⟨w.heap.size + 1 + 1, 0, none⟩ = some (.slice none 0 0) := by simp [go_sem]
  have o1 : ((((w.alloc (.cells #[.slice A1 st.length c1, .slice A2 sy.length c2] 54)).alloc (.cells #[.slice none 0 0, .slice none 0 0] 44)).alloc (.cells #[.slice none 0 0, .slice none 0 0] 44))).cell? ⟨w.heap.size + 1 + 1, 1, none⟩ = some (.slice none 0 0) := by simp [go_sem]
  have s0 : ((((w.alloc (.cells #[.slice A1 st.length c1, .slice A2 sy.length c2] 54)).alloc (.cells #[.slice none 0 0, .slice none 0 0] 44)).alloc (.cells #[.slice none 0 0, .slice none 0 0] 44))).cell? ⟨w.heap.size + 1, 0, none⟩ = some (.slice none 0 0) := by simp [go_sem]
  have s1 : ((((w.alloc (.cells #[.slice A1 st.length c1, .slice A2 sy.length c2] 54)).alloc (.cells #[.slice none 0 0, .slice none 0 0] 44)).alloc (.cells #[.slice none 0 0, .slice none 0 0] 44))).cell? ⟨w.heap.size + 1, 1, none⟩ = some (.slice none 0 0) := by simp [go_sem]
  have z : ∀ j, ((((w.alloc (.cells #[.slice A1 st.length c1, .slice A2 sy.length c2] 54)).alloc (.cells #[.slice none 0 0, .slice none 0 0] 44)).alloc (.cells #[.slice none 0 0, .slice none 0 0] 44))).frozen? ⟨w.heap.size + 1 + 1, j, none⟩ = false := fun j => by simp [go_sem]
  have z' : ∀ j, ((((w.alloc (.cells #[.slice A1 st.length c1, .slice A2 sy.length c2] 54)).alloc (.cells #[.slice none 0 0, .slice none 0 0] 44)).alloc (.cells #[.slice none 0 0, .slice none 0 0] 44))).frozen? ⟨w.heap.size + 1, j, none⟩ = false := fun j => by simp [go_sem]
  have hsz : ((((w.alloc (.cells #[.slice A1 st.length c1, .slice A2 sy.length c2] 54)).alloc (.cells #[.slice none 0 0, .slice none 0 0] 44)).alloc (.cells #[.slice none 0 0, .slice none 0 0] 44))).heap.size = w.heap.size + 3 := by simp
  have hh := p1.below hB
  have hq := p2.below hB
  go_enter Tryd.func31, Tryd.ntmps31
  go_wp2_with fail
  generalize (((w.alloc (.cells #[.slice A1 st.length c1, .slice A2 sy.length c2] 54)).alloc (.cells #[.slice none 0 0, .slice none 0 0] 44)).alloc (.cells #[.slice none 0 0, .slice none 0 0] 44)) = W at hB b1 o0 o1 s0 s1 z z' hsz hh hq ⊢
  refine (toStringS_any A1 c1 st _ hh hs1).mono ?_
  rintro e w1 ⟨g1, ⟨rfl, r1⟩, hb1⟩
  replace b1 := (belowL hb1 (by omega)).trans b1
  replace o0 := (belowL hb1 (by omega)).trans o0
  replace o1 := (belowL hb1 (by omega)).trans o1
  replace s0 := (belowL hb1 (by omega)).trans s0
  replace s1 := (belowL hb1 (by omega)).trans s1
  have z0 := (belowZ hb1 (by omega)).trans (z 0)
  have z1 := (belowZ hb1 (by omega)).trans (z 1)
  have y0 := (belowZ hb1 (by omega)).trans (z' 0)
  have y1 := (belowZ hb1 (by omega)).trans (z' 1)
  have hB1 := hB.trans (hb1.mono hB.size)
  have hsz1 := hb1.size
  replace hq := hq.below hb1
  have hge1 := (OwnE.capOk r1).2.2
  have hz1 : ZoneR (w.heap.size + 1) (w.heap.size + 3) w1 (w1.setCell ⟨w.heap.size + 1 + 1, 0, none⟩ (.slice (some ⟨g1, 0, none⟩) st.length st.length)) := ZoneR.setCell w1 _ (by omega) (by omega)
  have r1' := own_zoneR r1 hz1 (fun k hk => .inr (by have := (r1.lt k hk).1; omega))
  have hBs := hB1.setCell (p := ⟨w.heap.size + 1 + 1, 0, none⟩) (show w.heap.size ≤ w.heap.size + 1 + 1 by omega) (.slice (some ⟨g1, 0, none⟩) st.length st.length)
  have hqs : RdY (w1.setCell ⟨w.heap.size + 1 + 1, 0, none⟩ (.slice (some ⟨g1, 0, none⟩) st.length st.length)) A2 sy := p2.below hBs
  clear hB hb1 r1 z z' hh hz1 p1 hq
  go_wp2_with fail
  have hqz : (w1.setCell ⟨w.heap.size + 1 + 1, 0, none⟩ (.slice (some ⟨g1, 0, none⟩) st.length st.length)).heap.size = w1.heap.size := by simp [World.setCell]
  refine (toSynS_any A2 c2 sy _ hqs hs2 HS3.out).mono ?_
  rintro e w2 ⟨g2, hv, ⟨rfl, hve, r2⟩, hb2⟩
  have n0 : w2.cell? ⟨w.heap.size + 1 + 1, 0, none⟩ = some (.slice (some ⟨g1, 0, none⟩) st.length st.length) := (belowL hb2 (by omega)).trans (by simp [go_sem, *])
  have n1 : w2.cell? ⟨w.heap.size + 1 + 1, 1, none⟩ = some (.slice none 0 0) := (belowL hb2 (by omega)).trans (by simp [go_sem, *])
  have m0 : w2.cell? ⟨w.heap.size + 1, 0, none⟩ = some (.slice none 0 0) := (belowL hb2 (by omega)).trans (by simp [go_sem, *])
  have m1 : w2.cell? ⟨w.heap.size + 1, 1, none⟩ = some (.slice none 0 0) := (belowL hb2 (by omega)).trans (by simp [go_sem, *])
  have v0 : w2.frozen? ⟨w.heap.size + 1 + 1, 0, none⟩ = false := (belowZ hb2 (by omega)).trans (by simp [go_sem, *])
  have v1 : w2.frozen? ⟨w.heap.size + 1 + 1, 1, none⟩ = false := (belowZ hb2 (by omega)).trans (by simp [go_sem, *])
  have u0 : w2.frozen? ⟨w.heap.size + 1, 0, none⟩ = false := (belowZ hb2 (by omega)).trans (by simp [go_sem, *])
  have u1 : w2.frozen? ⟨w.heap.size + 1, 1, none⟩ = false := (belowZ hb2 (by omega)).trans (by simp [go_sem, *])
  have hB3 := hBs.trans (hb2.mono hBs.size)
  have r1b := own_belowZ r1' hb2
  rw [hqz] at r2
  have hl2 := r2.fr.lt
  have hd2 := (OwnE.capOk r2.hd).2.2.1
  have hz : ZoneR (w.heap.size + 1) (w.heap.size + 3) w2 (((w2.setCell ⟨w.heap.size + 1 + 1, 1, none⟩ (.slice (some ⟨g2, 0, none⟩) sy.length sy.length)).setCell ⟨w.heap.size + 1, 0, none⟩ (.slice (some ⟨g1, 0, none⟩) st.length st.length)).setCell ⟨w.heap.size + 1, 1, none⟩ (.slice (some ⟨g2, 0, none⟩) sy.length sy.length)) :=
    ((ZoneR.setCell w2 _ (by omega) (by omega)).trans (ZoneR.setCell _ _ (by omega) (by omega))).trans (ZoneR.setCell _ _ (by omega) (by omega))
  have r1c := own_monoZ (own_zoneR r1b hz (fun k hk => .inr (by have := (r1b.lt k hk).1; omega))) (show w.heap.size ≤ W.heap.size by omega)
  have r2h := own_monoZ (own_zoneR r2.hd hz (fun k hk => .inr (by have := (r2.hd.lt k hk).1; omega))) (show w.heap.size ≤ w1.heap.size by omega)
  have r2f : OwnH _ w.heap.size hv := ⟨fun m hm => own_monoZ (own_zoneR (r2.fr.own m hm) hz (fun k hk => .inr (by have := ((r2.fr.own m hm).lt k hk).1; omega))) (show w.heap.size ≤ w1.heap.size by omega), r2.fr.dif⟩
  have HC : Hid (OwnC _ w.heap.size ⟨st, sy⟩ g1 st.length g2 sy.length hv) := ⟨r1c, ⟨r2h, r2f⟩, hve, fun m hm => by have := hl2 m hm; omega⟩
  have HBZ := Lib.hid (hB3.trans (hz.below (B := w.heap.size) (by omega) hB3.size))
  clear r1' r1b r1c r2 r2h r2f hz hl2 hd2 hve hB3 hb2 hBs hB1 hqs hqz b1 o0 o1 s0 s1 z0 z1 y0 y1
  go_wp2
  exact bodyPost_ret (v := .agg #[.slice (some ⟨g1, 0, none⟩) st.length st.length, .slice (some ⟨g2, 0, none⟩) sy.length sy.length]) (by simp [results, Tryd.results31, go_sem, *]) rfl ⟨g1, g2, hv, ⟨rfl, HC.out⟩, HBZ.out⟩
end Go.Proofs.YtaobgliimbmemaaDoor
