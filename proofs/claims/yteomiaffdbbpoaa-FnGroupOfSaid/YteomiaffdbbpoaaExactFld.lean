/-
  Contracts of what the exact laws call on rows of impl.Field, impl.Attr.
-/
import Derived.Test.YteomiaffdbbpoaaRecZ
namespace Go.Proofs.Yteomiaffdbbpoaa
open Go.RowKit Go.Sort
set_option linter.unusedVariables false

def SzE (left : Int) (Q : Prop) (w : World) (e : Ending) (w' : World) : Prop := ∃ r : Int, (e = .returned (.int .i64 r) ∧ r ≤ left ∧ (r < 0 ∨ Q)) ∧ Below w.heap.size w w'
theorem info_partsZ {P : Program} {t : TypeId} {z : Option Value} {s b : Nat} (h : (P.info? t).map (fun i => (i.zero, i.size, i.bytes)) = some (z, s, b)) : ∃ i, P.info? t = some i ∧ i.zero = z ∧ i.size = s ∧ i.bytes = b := by
  cases hi : P.info? t with
  | none => rw [hi] at h; cases h
  | some i =>
    rw [hi] at h
    simp only [Option.map_some, Option.some.injEq, Prod.mk.injEq] at h
    exact ⟨i, rfl, h.1, h.2.1, h.2.2⟩
theorem own_belowZ {w w' : World} {base e size n : Nat} {v : Value} {xs : List Value} (h : w.ownsRow base e size v n xs) (hb : Below w.heap.size w w') : w'.ownsRow base e size v n xs :=
  h.kept (row := none) ⟨hb.os, hb.tape, hb.output, hb.size, fun k hk _ => hb.block k hk⟩ (Classical.em _)
theorem infoField : (Try.prog.info? 117).map (fun i => (i.zero, i.size, i.bytes)) = some (some (.agg #[.string ⟨#[]⟩, .string ⟨#[]⟩]), 2, 32) := by kernel_rfl
theorem rowTField : RowT Try.prog 39 117 2 32 := rowT_of Try.underlying39 infoField rfl
theorem szField_any (p q : ByteArray) (left : Int) (w : World) (hp : p.size ≤ 9223372036854775807) (hq : q.size ≤ 9223372036854775807) (h0 : 0 ≤ left) (h1 : left ≤ 1048576) :
    Calls Try.prog 116 #[.agg #[.string p, .string q], .int .i64 left] w (SzE left (p.size ≤ 1048576 ∧ q.size ≤ 1048576) w) := by
  have hB : Below w.heap.size w (w.alloc (.cells #[.string p, .string q] 139)) := (Below.refl _ _).alloc (Nat.le_refl _) _
  by_cases h2 : left - (p.size : Int) < 0
  · go_enter Try.func116, Try.ntmps116
    go_wp2
    go_ret
    exact ⟨-1, ⟨rfl, by omega, .inl (by omega)⟩, hB⟩
  · by_cases h3 : left - (p.size : Int) - (q.size : Int) < 0
    · go_enter Try.func116, Try.ntmps116
      go_wp2
      go_ret
      exact ⟨-1, ⟨rfl, by omega, .inl (by omega)⟩, hB⟩
    · go_enter Try.func116, Try.ntmps116
      go_wp2
      go_ret
      exact ⟨_, ⟨rfl, by omega, .inr (by omega)⟩, hB⟩
theorem szFieldS_any (A : Option Addr) (c : Nat) (L : List FldD) (left : Int) (w : World) (h : RdF w A L) (hL : L.length ≤ 9223372036854775807) (hb : ∀ f ∈ L, f.1.size ≤ 9223372036854775807 ∧ f.2.size ≤ 9223372036854775807) (h0 : 0 ≤ left) (h1 : left ≤ 1048576) :
    Calls Try.prog 96 #[.slice A L.length c, .int .i64 left] w (SzE left (L.length ≤ 1048576 ∧ ∀ f ∈ L, f.1.size ≤ 1048576 ∧ f.2.size ≤ 1048576) w) := by
  by_cases h2 : left - (L.length : Int) < 0
  · go_enter Try.func96, Try.ntmps96
    go_wp2
    go_ret
    exact ⟨-1, ⟨rfl, by omega, .inl (by omega)⟩, Below.refl _ _⟩
  · have HL := Lib.hid hb
    clear hb
    have hl6 : L.length ≤ 1048576 := by omega
    go_enter Try.func96, Try.ntmps96
    go_wp2_with fail
    go_loopw [1, 5] (fun m i wr => ∃ k : Nat, k ≤ L.length ∧ i = .int .i64 k ∧ ∃ r : Int, m = .int .i64 r ∧ 0 ≤ r ∧ r ≤ left ∧ Hid (∀ f ∈ L.take k, f.1.size ≤ 1048576 ∧ f.2.size ≤ 1048576) ∧ Below w.heap.size w wr) (fun _ i _ => L.length - (intOf i).toNat)
    case atStart => exact ⟨0, Nat.zero_le _, rfl, _, rfl, by omega, by omega, fun f hf => by simp at hf, Below.refl _ _⟩
    case round =>
      obtain ⟨k, hk, rfl, r, rfl, hr0, hrl, hr, hB⟩ := hrel
      have hr1 : r ≤ 1048576 := by omega
      by_cases hlt : k < L.length
      · obtain ⟨b, off, rfl, hbb, x0, x1⟩ := (h.below hB).atF hlt
        have hi0 : (k : Int) < (L.length : Int) := by omega
        have hb1 := HL.out L[k] (List.getElem_mem _)
        go_wp2_with fail
        refine (szField_any L[k].1 L[k].2 r _ hb1.1 hb1.2 hr0 hr1).mono ?_
        rintro e w1 ⟨r2, ⟨rfl, h3, h4⟩, hb2⟩
        have hB2 := hB.trans (hb2.mono hB.size)
        by_cases hneg : r2 < 0
        · go_wp2
          go_ret
          exact ⟨-1, ⟨rfl, by omega, .inl (by omega)⟩, hB2⟩
        · have h5 := h4.resolve_left hneg
          have hr2 : Hid (∀ f ∈ L.take (k + 1), f.1.size ≤ 1048576 ∧ f.2.size ≤ 1048576) := fun f hf => by
            rw [← List.take_append_getElem hlt, List.mem_append] at hf
            rcases hf with hf | hf
            · exact hr.out f hf
            · simp at hf; rw [hf]; exact h5
          clear hr h4 h5
          go_wp2
          go_roundw
          case rel => exact ⟨k + 1, by omega, by go_num, _, rfl, by omega, by omega, hr2, hB2⟩
          case measure => simp [intOf]; omega
      · have hr2 : Hid (∀ f ∈ L, f.1.size ≤ 1048576 ∧ f.2.size ≤ 1048576) := fun f hf => hr.out f (by rw [List.take_of_length_le (by omega)]; exact hf)
        clear hr
        go_wp2
        go_ret
        exact ⟨_, ⟨rfl, by omega, .inr ⟨hl6, hr2.out⟩⟩, hB⟩
theorem toField_any (p : ByteArray) (q : ByteArray) (w : World) :
    Calls Try.prog 118 #[.agg #[.string p, .string q]] w fun e w' => e = .returned (.agg #[.string p, .string q]) ∧ Below w.heap.size w w' := by
  go_enter Try.func118, Try.ntmps118
  go_wp2
  exact bodyPost_ret (v := .agg #[.string p, .string q]) (by simp [results, Try.results118, go_sem]) rfl ⟨rfl, by (repeat' (first | exact Below.refl _ _ | apply Below.alloc | apply Below.setCell | apply Below.drew | apply below_draws)) <;> (first | omega | (simp <;> omega))⟩
theorem toFieldS_any (A : Option Addr) (c : Nat) (L : List FldD) (w : World) (h : RdF w A L) (hn : L.length ≤ 1048576) :
    Calls Try.prog 98 #[.slice A L.length c] w fun e w' => ∃ g : Nat, (e = .returned (.slice (some ⟨g, 0, none⟩) L.length L.length) ∧ OwnE encF 117 2 w' w.heap.size g L.length L) ∧ Below w.heap.size w w' := by
  obtain ⟨i0, hi, hz0, hz1, hz2⟩ := info_partsZ infoField
  obtain ⟨wm, hmk, hown0, hg0⟩ := run_make_full (P := Try.prog) w w.heap.size 39 117 i0 _ 2 Try.underlying39 hi hz0 hz1 .i64 .i64 L.length (by rw [hz2]; omega) (by unfold maxLen; omega) (Nat.le_refl _)
  have hB0 : Below w.heap.size w wm := (Below.refl _ _).grown hg0 (Nat.le_refl _) (fun k hk => by cases hk)
  go_enter Try.func98, Try.ntmps98
  go_wp2
  go_loopw [4] (fun i wr => ∃ k : Nat, k ≤ L.length ∧ i = .int .i64 k ∧ wr.ownsRow w.heap.size 117 2 (.slice (some ⟨w.heap.size, 0, none⟩) L.length L.length) L.length (fillZ encF [.string ⟨#[]⟩, .string ⟨#[]⟩] L k) ∧ Below w.heap.size w wr) (fun i _ => L.length - (intOf i).toNat)
  case atStart => exact ⟨0, Nat.zero_le _, rfl, by rw [fillZ_zero, ← made_rep (Value.agg #[.string ⟨#[]⟩, .string ⟨#[]⟩]).cells [.string ⟨#[]⟩, .string ⟨#[]⟩] 2 L.length rfl rfl (by omega)]; exact hown0, hB0⟩
  case round =>
    obtain ⟨k, hk, rfl, hown, hB⟩ := hrel
    by_cases hlt : k < L.length
    · obtain ⟨b, off, rfl, hb, x0, x1⟩ := (h.below hB).atF hlt
      have f0 := fillZ_get encF_ok [.string ⟨#[]⟩, .string ⟨#[]⟩] rfl L hlt (j := 0) (by omega)
      have f1 := fillZ_get encF_ok [.string ⟨#[]⟩, .string ⟨#[]⟩] rfl L hlt (j := 1) (by omega)
      rw [Nat.add_zero] at f0
      have hstep := fillZ_step2 encF_ok (.string ⟨#[]⟩) (.string ⟨#[]⟩) _ _ L hlt rfl
      generalize L[k].1 = p at x0 hstep
      generalize L[k].2 = q at x1 hstep
      have HS : Hid (((fillZ encF [.string ⟨#[]⟩, .string ⟨#[]⟩] L k).set (k * 2) (.string p)).set (k * 2 + 1) (.string q) = fillZ encF [.string ⟨#[]⟩, .string ⟨#[]⟩] L (k + 1)) := hstep
      clear hstep
      go_wp2_with (go_at_call 118; refine (toField_any p q _).mono ?_; rintro e w4 ⟨rfl, hb4⟩; have own4 := own_belowZ hown hb4; have g0 := (own4.cellAt (k * 2) (by omega)).trans f0; have g1 := (own4.cellAt (k * 2 + 1) (by omega)).trans f1; have z0 := own4.frozenAt (k * 2); have z1 := own4.frozenAt (k * 2 + 1))
      have own5 := ((own4.stored (k * 2) (.string p)).1.stored (k * 2 + 1) (.string q)).1
      rw [HS.out] at own5
      have hB5 := (((hB.trans (hb4.mono hB.size)).setCell (p := ⟨w.heap.size, k * 2, none⟩) (Nat.le_refl _) (.string p)).setCell (p := ⟨w.heap.size, k * 2 + 1, none⟩) (Nat.le_refl _) (.string q))
      go_roundw
      case rel => exact ⟨k + 1, by omega, by go_num, own5, hB5⟩
      case measure => simp [intOf]; omega
    · obtain rfl : k = L.length := by omega
      rw [fillZ_all] at hown
      go_wp2
      go_ret
      exact ⟨w.heap.size, ⟨rfl, hown⟩, hB⟩
theorem eqField_same (p : ByteArray) (q : ByteArray) (w : World) :
    Calls Try.prog 120 #[.agg #[.string p, .string q], .agg #[.string p, .string q]] w fun e w' => e = .returned (.bool true) ∧ Below w.heap.size w w' := by
  go_enter Try.func120, Try.ntmps120
  go_wp2
  go_ret
  exact ⟨rfl, by (repeat' (first | exact Below.refl _ _ | apply Below.alloc | apply Below.setCell | apply Below.drew | apply below_draws)) <;> (first | omega | (simp <;> omega))⟩
theorem cEqField (p : ByteArray) (q : ByteArray) (W : World) (d : Nat) (os : Array Obj) :
    Calls Try.prog 120 #[.agg #[.string p, .string q], .agg #[.string p, .string q]] (grow (redrawn W d) os) fun e w'' => e = .returned (.bool true) ∧ ∃ p : Regrown, w'' = grow (redrawn W p.d) p.os :=
  Calls.regrown_of (eqField_same p q _)
theorem eqFieldS_same (A A' : Option Addr) (c c' : Nat) (L : List FldD) (w : World) (h : RdF w A L) (h' : RdF w A' L) (hn : L.length ≤ 4194304) :
    Calls Try.prog 100 #[.slice A L.length c, .slice A' L.length c'] w fun e w' => e = .returned (.bool true) ∧ Below w.heap.size w w' := by
  go_enter Try.func100, Try.ntmps100
  go_wp2
  go_loopw [5] (fun i wr => ∃ k : Nat, k ≤ L.length ∧ i = .int .i64 k ∧ Below w.heap.size w wr) (fun i _ => L.length - (intOf i).toNat)
  case atStart => exact ⟨0, Nat.zero_le _, rfl, Below.refl _ _⟩
  case round =>
    obtain ⟨k, hk, rfl, hB⟩ := hrel
    by_cases hlt : k < L.length
    · obtain ⟨b, off, rfl, hb, x0, x1⟩ := (h.below hB).atF hlt
      obtain ⟨b', off', rfl, hb', x0', x1'⟩ := (h'.below hB).atF hlt
      have hi0 : (k : Int) < (L.length : Int) := by omega
      generalize L[k].1 = p at x0 x0'
      generalize L[k].2 = q at x1 x1'
      have k1 := cell_regrown x0
      have k2 := cell_regrown x1
      have k3 := cell_regrown x0'
      have k4 := cell_regrown x1'
      clear x0 x1 x0' x1' hb hb' h h'
      go_wp2_with fail
      refine region_qw (by kernel_rfl) (by kernel_rfl) ?_
      repeat (
        refine qw_step (fun K hK => ?_)
        go_simp
        first
          | (refine hK _ ?_; clear hK K)
          | (apply Exists.intro
             refine ⟨fun _ => ?_, hK _ ?_⟩
             (first | (go_at_call 120; exact cEqField _ _ _ _ _))
             clear hK K))
      refine qw_nil ?_
      intro _ hw'
      obtain ⟨⟨dq, osq⟩, hw''⟩ := hw'
      subst hw''
      have hBq := hB.trans ((below_regrown wr dq osq).mono hB.size)
      generalize grow (redrawn wr dq) osq = Wq at hBq ⊢
      go_wp2
      go_roundw
      case rel => exact ⟨k + 1, by omega, by go_num, hBq⟩
      case measure => simp [intOf]; omega
    · go_wp2
      go_ret
      exact ⟨rfl, hB⟩
theorem markFieldS_wr (s t : Nat) (A : Option Addr) (n c : Nat) (k : Int) (w : World) (h : WrR 117 2 w s t A n) (hn : n ≤ 4194304) (h0 : 0 ≤ k) (h1 : k ≤ 2305843009213693952) :
    Calls Try.prog 71 #[.slice A n c, .int .i64 k] w fun e w' => e = .returned (.int .i64 (k + 2 * n)) ∧ ZoneR s t w w' ∧ KeepT 117 w w' ∧ KeepR s t w w' := by
  go_enter Try.func71, Try.ntmps71
  go_wp2
  go_loopw [1, 5] (fun m i wr => ∃ j : Nat, j ≤ n ∧ i = .int .i64 j ∧ m = .int .i64 (k + 2 * j) ∧ ZoneR s t w wr ∧ Hid (KeepT 117 w wr) ∧ Hid (KeepR s t w wr)) (fun _ i _ => n - (intOf i).toNat)
  case atStart => exact ⟨0, Nat.zero_le _, rfl, by simp, ZoneR.refl _ _ _, KeepT.refl _ _, KeepR.refl _ _ _⟩
  case round =>
    obtain ⟨j, hj, rfl, rfl, hz, hd, hw⟩ := hrel
    by_cases hlt : j < n
    · rcases hw.out _ _ _ _ h with hbad | ⟨g, cur, rfl, hg1, hg2, hg3, hg4⟩
      · omega
      · have hjl : j * 2 < cur.size := by omega
        have hi0 : (j : Int) < (n : Int) := by omega
        go_wp2_with fail
        refine (markText_any _ (by omega) (by omega) _).mono ?_
        rintro e w1 ⟨s1, rfl, hb1⟩
        have e1 := (hb1.block g (heapB_lt hg3)).trans hg3
        have c1 : w1.cell? ⟨g, j * 2, none⟩ = some cur[j * 2] := by rw [cell_of_row w1 g (j * 2) cur _ (0, 0) e1]; simp [hjl]
        have z1 : w1.frozen? ⟨g, j * 2, none⟩ = false := by simp [World.frozen?, e1]
        obtain ⟨cur2, e2, hc2, _⟩ := heap_setCell_at w1 g (j * 2) (.string s1) cur _ e1
        have hz2 := (hz.trans (ZoneR.of hb1)).trans (ZoneR.setCell (j := j * 2) w1 (.string s1) hg1 hg2)
        have hd2 := (hd.out.trans (KeepT.of hb1)).trans (KeepT.set (j := j * 2) e1 (.string s1))
        have hw2 := (hw.out.trans (KeepR.of hb1)).trans (KeepR.set w1 ⟨g, j * 2, none⟩ (.string s1) rfl)
        have HD2 := Lib.hid hd2
        have HW2 := Lib.hid hw2
        clear hd hw hd2 hw2 hz hg3
        go_wp2_with fail
        generalize w1.setCell ⟨g, j * 2, none⟩ (.string s1) = w2 at e2 hz2 HD2 HW2 ⊢
        refine (markText_any _ (by omega) (by omega) _).mono ?_
        rintro e w3 ⟨s3, rfl, hb3⟩
        have e3 := (hb3.block g (heapB_lt e2)).trans e2
        have hj3 : j * 2 + 1 < cur2.size := by omega
        have c3 : w3.cell? ⟨g, j * 2 + 1, none⟩ = some cur2[j * 2 + 1] := by rw [cell_of_row w3 g (j * 2 + 1) cur2 _ (0, 0) e3]; simp [hj3]
        have z3 : w3.frozen? ⟨g, j * 2 + 1, none⟩ = false := by simp [World.frozen?, e3]
        have hz4 := (hz2.trans (ZoneR.of hb3)).trans (ZoneR.setCell (j := j * 2 + 1) w3 (.string s3) hg1 hg2)
        have hd4 : Hid (KeepT 117 w _) := (HD2.out.trans (KeepT.of hb3)).trans (KeepT.set (j := j * 2 + 1) e3 (.string s3))
        have hw4 : Hid (KeepR s t w _) := (HW2.out.trans (KeepR.of hb3)).trans (KeepR.set w3 ⟨g, j * 2 + 1, none⟩ (.string s3) rfl)
        clear HD2 HW2 hz2
        go_wp2
        go_roundw
        case rel => exact ⟨j + 1, by omega, by go_num, by go_num, hz4, hd4, hw4⟩
        case measure => simp [intOf]; omega
    · obtain rfl : j = n := by omega
      go_wp2
      go_ret
      exact ⟨rfl, hz, hd.out, hw.out⟩
theorem infoAttr : (Try.prog.info? 88).map (fun i => (i.zero, i.size, i.bytes)) = some (some (.agg #[.string ⟨#[]⟩, .int .i64 0]), 2, 24) := by kernel_rfl
theorem rowTAttr : RowT Try.prog 40 88 2 24 := rowT_of Try.underlying40 infoAttr rfl
theorem szAttr_any (p : ByteArray) (q : Int) (left : Int) (w : World) (hp : p.size ≤ 9223372036854775807) (h0 : 0 ≤ left) (h1 : left ≤ 1048576) :
    Calls Try.prog 117 #[.agg #[.string p, .int .i64 q], .int .i64 left] w (SzE left (p.size ≤ 1048576) w) := by
  have hB : Below w.heap.size w (w.alloc (.cells #[.string p, .int .i64 q] 141)) := (Below.refl _ _).alloc (Nat.le_refl _) _
  by_cases h2 : left - (p.size : Int) < 0
  · go_enter Try.func117, Try.ntmps117
    go_wp2
    go_ret
    exact ⟨-1, ⟨rfl, by omega, .inl (by omega)⟩, hB⟩
  · go_enter Try.func117, Try.ntmps117
    go_wp2
    go_ret
    exact ⟨_, ⟨rfl, by omega, .inr (by omega)⟩, hB⟩
theorem szAttrS_any (A : Option Addr) (c : Nat) (L : List AttD) (left : Int) (w : World) (h : RdA w A L) (hL : L.length ≤ 9223372036854775807) (hb : ∀ f ∈ L, f.1.size ≤ 9223372036854775807) (h0 : 0 ≤ left) (h1 : left ≤ 1048576) :
    Calls Try.prog 97 #[.slice A L.length c, .int .i64 left] w (SzE left (L.length ≤ 1048576 ∧ ∀ f ∈ L, f.1.size ≤ 1048576) w) := by
  by_cases h2 : left - (L.length : Int) < 0
  · go_enter Try.func97, Try.ntmps97
    go_wp2
    go_ret
    exact ⟨-1, ⟨rfl, by omega, .inl (by omega)⟩, Below.refl _ _⟩
  · have HL := Lib.hid hb
    clear hb
    have hl6 : L.length ≤ 1048576 := by omega
    go_enter Try.func97, Try.ntmps97
    go_wp2_with fail
    go_loopw [1, 5] (fun m i wr => ∃ k : Nat, k ≤ L.length ∧ i = .int .i64 k ∧ ∃ r : Int, m = .int .i64 r ∧ 0 ≤ r ∧ r ≤ left ∧ Hid (∀ f ∈ L.take k, f.1.size ≤ 1048576) ∧ Below w.heap.size w wr) (fun _ i _ => L.length - (intOf i).toNat)
    case atStart => exact ⟨0, Nat.zero_le _, rfl, _, rfl, by omega, by omega, fun f hf => by simp at hf, Below.refl _ _⟩
    case round =>
      obtain ⟨k, hk, rfl, r, rfl, hr0, hrl, hr, hB⟩ := hrel
      have hr1 : r ≤ 1048576 := by omega
      by_cases hlt : k < L.length
      · obtain ⟨b, off, rfl, hbb, x0, x1⟩ := (h.below hB).atA hlt
        have hi0 : (k : Int) < (L.length : Int) := by omega
        have hb1 := HL.out L[k] (List.getElem_mem _)
        go_wp2_with fail
        refine (szAttr_any L[k].1 L[k].2 r _ hb1 hr0 hr1).mono ?_
        rintro e w1 ⟨r2, ⟨rfl, h3, h4⟩, hb2⟩
        have hB2 := hB.trans (hb2.mono hB.size)
        by_cases hneg : r2 < 0
        · go_wp2
          go_ret
          exact ⟨-1, ⟨rfl, by omega, .inl (by omega)⟩, hB2⟩
        · have h5 := h4.resolve_left hneg
          have hr2 : Hid (∀ f ∈ L.take (k + 1), f.1.size ≤ 1048576) := fun f hf => by
            rw [← List.take_append_getElem hlt, List.mem_append] at hf
            rcases hf with hf | hf
            · exact hr.out f hf
            · simp at hf; rw [hf]; exact h5
          clear hr h4 h5
          go_wp2
          go_roundw
          case rel => exact ⟨k + 1, by omega, by go_num, _, rfl, by omega, by omega, hr2, hB2⟩
          case measure => simp [intOf]; omega
      · have hr2 : Hid (∀ f ∈ L, f.1.size ≤ 1048576) := fun f hf => hr.out f (by rw [List.take_of_length_le (by omega)]; exact hf)
        clear hr
        go_wp2
        go_ret
        exact ⟨_, ⟨rfl, by omega, .inr ⟨hl6, hr2.out⟩⟩, hB⟩
theorem toAttr_any (p : ByteArray) (q : Int) (w : World) :
    Calls Try.prog 119 #[.agg #[.string p, .int .i64 q]] w fun e w' => e = .returned (.agg #[.string p, .int .i64 q]) ∧ Below w.heap.size w w' := by
  go_enter Try.func119, Try.ntmps119
  go_wp2
  exact bodyPost_ret (v := .agg #[.string p, .int .i64 q]) (by simp [results, Try.results119, go_sem]) rfl ⟨rfl, by (repeat' (first | exact Below.refl _ _ | apply Below.alloc | apply Below.setCell | apply Below.drew | apply below_draws)) <;> (first | omega | (simp <;> omega))⟩
theorem toAttrS_any (A : Option Addr) (c : Nat) (L : List AttD) (w : World) (h : RdA w A L) (hn : L.length ≤ 1048576) :
    Calls Try.prog 99 #[.slice A L.length c] w fun e w' => ∃ g : Nat, (e = .returned (.slice (some ⟨g, 0, none⟩) L.length L.length) ∧ OwnE encA 88 2 w' w.heap.size g L.length L) ∧ Below w.heap.size w w' := by
  obtain ⟨i0, hi, hz0, hz1, hz2⟩ := info_partsZ infoAttr
  obtain ⟨wm, hmk, hown0, hg0⟩ := run_make_full (P := Try.prog) w w.heap.size 40 88 i0 _ 2 Try.underlying40 hi hz0 hz1 .i64 .i64 L.length (by rw [hz2]; omega) (by unfold maxLen; omega) (Nat.le_refl _)
  have hB0 : Below w.heap.size w wm := (Below.refl _ _).grown hg0 (Nat.le_refl _) (fun k hk => by cases hk)
  go_enter Try.func99, Try.ntmps99
  go_wp2
  go_loopw [4] (fun i wr => ∃ k : Nat, k ≤ L.length ∧ i = .int .i64 k ∧ wr.ownsRow w.heap.size 88 2 (.slice (some ⟨w.heap.size, 0, none⟩) L.length L.length) L.length (fillZ encA [.string ⟨#[]⟩, .int .i64 0] L k) ∧ Below w.heap.size w wr) (fun i _ => L.length - (intOf i).toNat)
  case atStart => exact ⟨0, Nat.zero_le _, rfl, by rw [fillZ_zero, ← made_rep (Value.agg #[.string ⟨#[]⟩, .int .i64 0]).cells [.string ⟨#[]⟩, .int .i64 0] 2 L.length rfl rfl (by omega)]; exact hown0, hB0⟩
  case round =>
    obtain ⟨k, hk, rfl, hown, hB⟩ := hrel
    by_cases hlt : k < L.length
    · obtain ⟨b, off, rfl, hb, x0, x1⟩ := (h.below hB).atA hlt
      have f0 := fillZ_get encA_ok [.string ⟨#[]⟩, .int .i64 0] rfl L hlt (j := 0) (by omega)
      have f1 := fillZ_get encA_ok [.string ⟨#[]⟩, .int .i64 0] rfl L hlt (j := 1) (by omega)
      rw [Nat.add_zero] at f0
      have hstep := fillZ_step2 encA_ok (.string ⟨#[]⟩) (.int .i64 0) _ _ L hlt rfl
      generalize L[k].1 = p at x0 hstep
      generalize L[k].2 = q at x1 hstep
      have HS : Hid (((fillZ encA [.string ⟨#[]⟩, .int .i64 0] L k).set (k * 2) (.string p)).set (k * 2 + 1) (.int .i64 q) = fillZ encA [.string ⟨#[]⟩, .int .i64 0] L (k + 1)) := hstep
      clear hstep
      go_wp2_with (go_at_call 119; refine (toAttr_any p q _).mono ?_; rintro e w4 ⟨rfl, hb4⟩; have own4 := own_belowZ hown hb4; have g0 := (own4.cellAt (k * 2) (by omega)).trans f0; have g1 := (own4.cellAt (k * 2 + 1) (by omega)).trans f1; have z0 := own4.frozenAt (k * 2); have z1 := own4.frozenAt (k * 2 + 1))
      have own5 := ((own4.stored (k * 2) (.string p)).1.stored (k * 2 + 1) (.int .i64 q)).1
      rw [HS.out] at own5
      have hB5 := (((hB.trans (hb4.mono hB.size)).setCell (p := ⟨w.heap.size, k * 2, none⟩) (Nat.le_refl _) (.string p)).setCell (p := ⟨w.heap.size, k * 2 + 1, none⟩) (Nat.le_refl _) (.int .i64 q))
      go_roundw
      case rel => exact ⟨k + 1, by omega, by go_num, own5, hB5⟩
      case measure => simp [intOf]; omega
    · obtain rfl : k = L.length := by omega
      rw [fillZ_all] at hown
      go_wp2
      go_ret
      exact ⟨w.heap.size, ⟨rfl, hown⟩, hB⟩
theorem eqAttr_same (p : ByteArray) (q : Int) (w : World) :
    Calls Try.prog 121 #[.agg #[.string p, .int .i64 q], .agg #[.string p, .int .i64 q]] w fun e w' => e = .returned (.bool true) ∧ Below w.heap.size w w' := by
  go_enter Try.func121, Try.ntmps121
  go_wp2
  go_ret
  exact ⟨rfl, by (repeat' (first | exact Below.refl _ _ | apply Below.alloc | apply Below.setCell | apply Below.drew | apply below_draws)) <;> (first | omega | (simp <;> omega))⟩
theorem cEqAttr (p : ByteArray) (q : Int) (W : World) (d : Nat) (os : Array Obj) :
    Calls Try.prog 121 #[.agg #[.string p, .int .i64 q], .agg #[.string p, .int .i64 q]] (grow (redrawn W d) os) fun e w'' => e = .returned (.bool true) ∧ ∃ p : Regrown, w'' = grow (redrawn W p.d) p.os :=
  Calls.regrown_of (eqAttr_same p q _)
theorem eqAttrS_same (A A' : Option Addr) (c c' : Nat) (L : List AttD) (w : World) (h : RdA w A L) (h' : RdA w A' L) (hn : L.length ≤ 4194304) :
    Calls Try.prog 101 #[.slice A L.length c, .slice A' L.length c'] w fun e w' => e = .returned (.bool true) ∧ Below w.heap.size w w' := by
  go_enter Try.func101, Try.ntmps101
  go_wp2
  go_loopw [5] (fun i wr => ∃ k : Nat, k ≤ L.length ∧ i = .int .i64 k ∧ Below w.heap.size w wr) (fun i _ => L.length - (intOf i).toNat)
  case atStart => exact ⟨0, Nat.zero_le _, rfl, Below.refl _ _⟩
  case round =>
    obtain ⟨k, hk, rfl, hB⟩ := hrel
    by_cases hlt : k < L.length
    · obtain ⟨b, off, rfl, hb, x0, x1⟩ := (h.below hB).atA hlt
      obtain ⟨b', off', rfl, hb', x0', x1'⟩ := (h'.below hB).atA hlt
      have hi0 : (k : Int) < (L.length : Int) := by omega
      generalize L[k].1 = p at x0 x0'
      generalize L[k].2 = q at x1 x1'
      have k1 := cell_regrown x0
      have k2 := cell_regrown x1
      have k3 := cell_regrown x0'
      have k4 := cell_regrown x1'
      clear x0 x1 x0' x1' hb hb' h h'
      go_wp2_with fail
      refine region_qw (by kernel_rfl) (by kernel_rfl) ?_
      repeat (
        refine qw_step (fun K hK => ?_)
        go_simp
        first
          | (refine hK _ ?_; clear hK K)
          | (apply Exists.intro
             refine ⟨fun _ => ?_, hK _ ?_⟩
             (first | (go_at_call 121; exact cEqAttr _ _ _ _ _))
             clear hK K))
      refine qw_nil ?_
      intro _ hw'
      obtain ⟨⟨dq, osq⟩, hw''⟩ := hw'
      subst hw''
      have hBq := hB.trans ((below_regrown wr dq osq).mono hB.size)
      generalize grow (redrawn wr dq) osq = Wq at hBq ⊢
      go_wp2
      go_roundw
      case rel => exact ⟨k + 1, by omega, by go_num, hBq⟩
      case measure => simp [intOf]; omega
    · go_wp2
      go_ret
      exact ⟨rfl, hB⟩
theorem markAttrS_wr (s t : Nat) (A : Option Addr) (n c : Nat) (k : Int) (w : World) (h : WrR 88 2 w s t A n) (hn : n ≤ 4194304) (h0 : 0 ≤ k) (h1 : k ≤ 2305843009213693952) :
    Calls Try.prog 72 #[.slice A n c, .int .i64 k] w fun e w' => e = .returned (.int .i64 (k + 2 * n)) ∧ ZoneR s t w w' ∧ KeepT 88 w w' ∧ KeepR s t w w' := by
  go_enter Try.func72, Try.ntmps72
  go_wp2
  go_loopw [1, 5] (fun m i wr => ∃ j : Nat, j ≤ n ∧ i = .int .i64 j ∧ m = .int .i64 (k + 2 * j) ∧ ZoneR s t w wr ∧ Hid (KeepT 88 w wr) ∧ Hid (KeepR s t w wr)) (fun _ i _ => n - (intOf i).toNat)
  case atStart => exact ⟨0, Nat.zero_le _, rfl, by simp, ZoneR.refl _ _ _, KeepT.refl _ _, KeepR.refl _ _ _⟩
  case round =>
    obtain ⟨j, hj, rfl, rfl, hz, hd, hw⟩ := hrel
    by_cases hlt : j < n
    · rcases hw.out _ _ _ _ h with hbad | ⟨g, cur, rfl, hg1, hg2, hg3, hg4⟩
      · omega
      · have hjl : j * 2 < cur.size := by omega
        have hi0 : (j : Int) < (n : Int) := by omega
        go_wp2_with fail
        refine (markText_any _ (by omega) (by omega) _).mono ?_
        rintro e w1 ⟨s1, rfl, hb1⟩
        have e1 := (hb1.block g (heapB_lt hg3)).trans hg3
        have c1 : w1.cell? ⟨g, j * 2, none⟩ = some cur[j * 2] := by rw [cell_of_row w1 g (j * 2) cur _ (0, 0) e1]; simp [hjl]
        have z1 : w1.frozen? ⟨g, j * 2, none⟩ = false := by simp [World.frozen?, e1]
        obtain ⟨cur2, e2, hc2, _⟩ := heap_setCell_at w1 g (j * 2) (.string s1) cur _ e1
        have hj3 : j * 2 + 1 < cur2.size := by omega
        have c3 : (w1.setCell ⟨g, j * 2, none⟩ (.string s1)).cell? ⟨g, j * 2 + 1, none⟩ = some cur2[j * 2 + 1] := by rw [cell_of_row _ g (j * 2 + 1) cur2 _ (0, 0) e2]; simp [hj3]
        have z3 : (w1.setCell ⟨g, j * 2, none⟩ (.string s1)).frozen? ⟨g, j * 2 + 1, none⟩ = false := by simp [World.frozen?, e2]
        have hz4 := ((hz.trans (ZoneR.of hb1)).trans (ZoneR.setCell (j := j * 2) w1 (.string s1) hg1 hg2)).trans (ZoneR.setCell (j := j * 2 + 1) _ (.int .i64 (k + 2 * j + 1)) hg1 hg2)
        have hd4 : Hid (KeepT 88 w _) := ((hd.out.trans (KeepT.of hb1)).trans (KeepT.set (j := j * 2) e1 (.string s1))).trans (KeepT.set (j := j * 2 + 1) e2 (.int .i64 (k + 2 * j + 1)))
        have hw4 : Hid (KeepR s t w _) := ((hw.out.trans (KeepR.of hb1)).trans (KeepR.set w1 ⟨g, j * 2, none⟩ (.string s1) rfl)).trans (KeepR.set _ ⟨g, j * 2 + 1, none⟩ (.int .i64 (k + 2 * j + 1)) rfl)
        clear hd hw hz hg3
        go_wp2
        go_roundw
        case rel => exact ⟨j + 1, by omega, by go_num, by go_num, hz4, hd4, hw4⟩
        case measure => simp [intOf]; omega
    · obtain rfl : j = n := by omega
      go_wp2
      go_ret
      exact ⟨rfl, hz, hd.out, hw.out⟩
end Go.Proofs.Yteomiaffdbbpoaa
