/-
  Contracts of l15PointOk, l15Points, l15Less, l15Sort.
-/
import Derived.Test.YtbmbejomodkabaaKnotKit
import Derived.Test.YtbmbejomodkabaaQw
namespace Go.Proofs.Ytbmbejomodkabaa
open Go.RowKit Go.Sort
set_option linter.unusedVariables false

theorem idIn_drop {L : List Pt} {k : Nat} (hk : k < L.length) (n : Int) : idIn (L.drop k) n = (decide (L[k].i = n) || idIn (L.drop (k + 1)) n) := by
  unfold idIn; rw [List.drop_eq_getElem_cons hk, List.any_cons]
theorem okFrom_step {L : List Pt} {k : Nat} (hk : k < L.length) : okFrom (L.take k) (L.drop k) = (pOk L[k] && !(idIn (L.take k) L[k].i) && okFrom (L.take (k + 1)) (L.drop (k + 1))) := by
  rw [List.drop_eq_getElem_cons hk, ← List.take_append_getElem hk]; rfl
theorem Rds.allPt {w : World} {b off : Nat} {L : List Pt} (h : Rds w 3 (some ⟨b, off, none⟩) L.length (L.flatMap encPt)) {k : Nat} (hk : k < L.length) :
    b < w.heap.size ∧ w.cell? ⟨b, off + k * 3, none⟩ = some (.int .i64 L[k].i) ∧ w.cell? ⟨b, off + k * 3 + 1, none⟩ = some (.int .i64 L[k].x) ∧ w.cell? ⟨b, off + k * 3 + 2, none⟩ = some (.int .i64 L[k].y) := by
  obtain ⟨b', off', e, hb, h0, h1, h2⟩ := h.atPt hk
  simp only [Option.some.injEq, Addr.mk.injEq, and_true] at e
  obtain ⟨rfl, rfl⟩ := e
  exact ⟨hb, h0, h1, h2⟩
theorem insP_at : ∀ {c : Bool} {L : List Pt} {k : Nat} {h : Pt}, (∀ j, (hj : j < L.length) → j < k → lessP c L[j] h = true) → k ≤ L.length → ((hk : k < L.length) → lessP c L[k] h = false) → insP c L h = L.take k ++ [h] ++ L.drop k
  | c, [], k, h, _, hk, _ => by simp at hk; subst hk; simp [insP]
  | c, x :: r, 0, h, _, _, h2 => by
    have := h2 (by simp)
    simp only [List.getElem_cons_zero] at this
    simp [insP, this]
  | c, x :: r, k + 1, h, h1, hk, h2 => by
    have hx := h1 0 (by simp) (by omega)
    simp only [List.getElem_cons_zero] at hx
    have ih := insP_at (c := c) (L := r) (k := k) (h := h) (fun j hj hjk => by have := h1 (j + 1) (by simpa using hj) (by omega); rwa [List.getElem_cons_succ] at this) (by simpa using hk) (fun hk' => by have := h2 (by simpa using hk'); rwa [List.getElem_cons_succ] at this)
    rw [insP_cons, if_pos hx, ih]
    simp
theorem l15PointOk_any (p : Pt) (w : World) :
    Calls Try.prog 52 #[.agg #[.int .i64 p.i, .int .i64 p.x, .int .i64 p.y]] w fun e w' => e = .returned (.bool (pOk p)) ∧ Below w.heap.size w w' := by
  obtain ⟨i, x, y⟩ := p
  obtain ⟨R, hR⟩ : ∃ R, R = pOk ⟨i, x, y⟩ := ⟨_, rfl⟩
  rw [← hR]
  have HR : Hid (R = (wi i 1 9999 && wi x 0 999 && wi y 0 999)) := hR
  clear hR
  cases h1 : wi i 1 9999 <;> cases h2 : wi x 0 999 <;> cases h3 : wi y 0 999
  all_goals
    have HX := HR.out
    rw [h1, h2, h3] at HX
    simp at HX
    subst HX
    clear HR
    go_enter Try.func52, Try.ntmps52
    go_wp2_with (go_at_call 44; refine (l1In_any _ _ _ _).mono ?_; rintro e w' ⟨rfl, rfl⟩)
    go_ret
    exact ⟨rfl, by (repeat' (first | exact Below.refl _ _ | apply Below.alloc | apply Below.setCell | apply Below.drew | apply below_draws)) <;> (first | omega | (simp <;> omega))⟩
theorem l15Less_any (c : Bool) (a b : Pt) (w : World) :
    Calls Try.prog 62 #[.agg #[.int .i64 a.i, .int .i64 a.x, .int .i64 a.y], .agg #[.int .i64 b.i, .int .i64 b.x, .int .i64 b.y], .bool c] w fun e w' => e = .returned (.bool (lessP c a b)) ∧ Below w.heap.size w w' := by
  obtain ⟨ai, ax, ay⟩ := a
  obtain ⟨bi, bx, bz⟩ := b
  obtain ⟨R, hR⟩ : ∃ R, R = lessP c ⟨ai, ax, ay⟩ ⟨bi, bx, bz⟩ := ⟨_, rfl⟩
  rw [← hR]
  have HR : Hid (R = lessP c ⟨ai, ax, ay⟩ ⟨bi, bx, bz⟩) := hR
  clear hR
  by_cases hy : ay = bz
  · subst hy
    by_cases hx : ax = bx
    · subst hx
      have HX : Hid (R = decide (ai < bi)) := by show _ = _; rw [HR.out, Bool.eq_iff_iff, lessP_iff, decide_eq_true_eq]; cases c <;> simp
      clear HR
      cases c
      all_goals
        go_enter Try.func62, Try.ntmps62
        go_wp2
        go_ret
        exact ⟨ret_bool HX.out.symm, by (repeat' (first | exact Below.refl _ _ | apply Below.alloc | apply Below.setCell | apply Below.drew | apply below_draws)) <;> (first | omega | (simp <;> omega))⟩
    · have hx2 : (ax != bx) = true := by simpa using hx
      have HX : Hid (R = decide (ax < bx)) := by show _ = _; rw [HR.out, Bool.eq_iff_iff, lessP_iff, decide_eq_true_eq]; cases c <;> simp <;> omega
      clear HR
      cases c
      all_goals
        go_enter Try.func62, Try.ntmps62
        go_wp2
        go_ret
        exact ⟨ret_bool HX.out.symm, by (repeat' (first | exact Below.refl _ _ | apply Below.alloc | apply Below.setCell | apply Below.drew | apply below_draws)) <;> (first | omega | (simp <;> omega))⟩
  · have hy2 : (ay != bz) = true := by simpa using hy
    cases c with
    | true =>
      have HX : Hid (R = decide (ay < bz)) := by show _ = _; rw [HR.out, Bool.eq_iff_iff, lessP_iff, decide_eq_true_eq]; simp; omega
      clear HR
      go_enter Try.func62, Try.ntmps62
      go_wp2
      go_ret
      exact ⟨ret_bool HX.out.symm, by (repeat' (first | exact Below.refl _ _ | apply Below.alloc | apply Below.setCell | apply Below.drew | apply below_draws)) <;> (first | omega | (simp <;> omega))⟩
    | false =>
      by_cases hx : ax = bx
      · subst hx
        have HX : Hid (R = decide (ay < bz)) := by show _ = _; rw [HR.out, Bool.eq_iff_iff, lessP_iff, decide_eq_true_eq]; simp; omega
        clear HR
        go_enter Try.func62, Try.ntmps62
        go_wp2
        go_ret
        exact ⟨ret_bool HX.out.symm, by (repeat' (first | exact Below.refl _ _ | apply Below.alloc | apply Below.setCell | apply Below.drew | apply below_draws)) <;> (first | omega | (simp <;> omega))⟩
      · have hx2 : (ax != bx) = true := by simpa using hx
        have HX : Hid (R = decide (ax < bx)) := by show _ = _; rw [HR.out, Bool.eq_iff_iff, lessP_iff, decide_eq_true_eq]; simp; omega
        clear HR
        go_enter Try.func62, Try.ntmps62
        go_wp2
        go_ret
        exact ⟨ret_bool HX.out.symm, by (repeat' (first | exact Below.refl _ _ | apply Below.alloc | apply Below.setCell | apply Below.drew | apply below_draws)) <;> (first | omega | (simp <;> omega))⟩
theorem cL15Less (c : Bool) (ai ax ay bi bx bz : Int) (r : Bool) (hr : lessP c ⟨ai, ax, ay⟩ ⟨bi, bx, bz⟩ = r) (W : World) (d : Nat) (os : Array Obj) :
    Calls Try.prog 62 #[.agg #[.int .i64 ai, .int .i64 ax, .int .i64 ay], .agg #[.int .i64 bi, .int .i64 bx, .int .i64 bz], .bool c] (grow (redrawn W d) os) fun e w'' => e = .returned (.bool r) ∧ ∃ p : Regrown, w'' = grow (redrawn W p.d) p.os := by
  subst hr
  exact Calls.regrown_of ((l15Less_any c ⟨ai, ax, ay⟩ ⟨bi, bx, bz⟩ _).mono fun _ _ ⟨h1, h2⟩ => ⟨h1, h2⟩)
set_option maxHeartbeats 1600000 in
theorem l15Points_any (A : Option Addr) (c : Nat) (L : List Pt) (w : World) (h : Rds w 3 A L.length (L.flatMap encPt)) (hn : L.length ≤ 4194304) :
    Calls Try.prog 34 #[.slice A L.length c] w fun e w' => e = .returned (.bool (okB L)) ∧ Below w.heap.size w w' := by
  obtain ⟨R, hR⟩ : ∃ R, R = okB L := ⟨_, rfl⟩
  rw [← hR]
  have HR : Hid (R = (okFrom (L.take 0) (L.drop 0) && decide (L.length ≤ 24))) := hR
  clear hR
  go_enter Try.func34, Try.ntmps34
  go_wp2_with fail
  go_loopw [3, 4] (fun iv _ wr => ∃ i : Nat, i ≤ L.length ∧ iv = .int .i64 i ∧ Hid (R = (okFrom (L.take i) (L.drop i) && decide (L.length ≤ 24))) ∧ Below w.heap.size w wr) (fun iv _ _ => L.length - (intOf iv).toNat)
  case atStart => exact ⟨0, Nat.zero_le _, rfl, HR, Below.refl _ _⟩
  case round =>
    clear HR
    obtain ⟨i, hi, rfl, hm, hB⟩ := hrel
    by_cases hlt : i < L.length
    · have hr := h.below hB
      obtain ⟨b, off, rfl, hb, x0, x1, x2⟩ := hr.atPt hlt
      have hi0 : (i : Int) < (L.length : Int) := by omega
      have hst := okFrom_step hlt
      have ep : L[i] = ⟨L[i].i, L[i].x, L[i].y⟩ := rfl
      cases hp : pOk L[i] with
      | false =>
        have HF : Hid (R = false) := by show _ = _; rw [hm.out, hst, hp]; simp
        clear hst hm hr
        rw [ep] at hp
        generalize L[i].i = p0 at x0 hp
        generalize L[i].x = p1 at x1 hp
        generalize L[i].y = p2 at x2 hp
        go_wp2_with fail
        refine (l15PointOk_any ⟨p0, p1, p2⟩ _).mono ?_
        rintro e w4 ⟨rfl, hb4⟩
        rw [hp]
        go_wp2
        go_ret
        exact ⟨ret_bool HF.out.symm, hB.trans (hb4.mono hB.size)⟩
      | true =>
        rw [ep] at hp
        have hidl : Hid (∀ k, (hk : k < i) → ∀ w', Below w.heap.size w w' → w'.cell? ⟨b, off + k * 3, none⟩ = some (.int .i64 (L[k]'(by omega)).i)) := fun k hk w' hw => ((h.below hw).allPt (show k < L.length by omega)).2.1
        have hidi : Hid (∀ w', Below w.heap.size w w' → w'.cell? ⟨b, off + i * 3, none⟩ = some (.int .i64 L[i].i)) := fun w' hw => ((h.below hw).allPt hlt).2.1
        have hpd : Hid (R = (!(idIn (L.take i) L[i].i) && okFrom (L.take (i + 1)) (L.drop (i + 1)) && decide (L.length ≤ 24))) := by show _ = _; rw [hm.out, hst]; rw [show pOk L[i] = true by rw [ep]; exact hp]; simp
        clear hst hm hr
        generalize L[i].i = p0 at x0 hp hidi hpd
        generalize L[i].x = p1 at x1 hp
        generalize L[i].y = p2 at x2 hp
        go_wp2_with fail
        refine (l15PointOk_any ⟨p0, p1, p2⟩ _).mono ?_
        rintro e w4 ⟨rfl, hb4⟩
        rw [hp]
        have hB4 := hB.trans (hb4.mono hB.size)
        clear x0 x1 x2 hb4 hB hp
        go_wp2_with fail
        go_loopw [4] (fun kv wq => ∃ k : Nat, k ≤ i ∧ kv = .int .i64 k ∧ Hid (idIn (L.take i) p0 = idIn ((L.take i).drop k) p0) ∧ Below w.heap.size w wq) (fun kv _ => i - (intOf kv).toNat)
        case atStart => exact ⟨0, Nat.zero_le _, rfl, rfl, hB4⟩
        case round =>
          obtain ⟨k, hk, rfl, hq, hBq⟩ := hrel
          by_cases hkl : k < i
          · have hTl : k < (L.take i).length := by rw [List.length_take]; omega
            have hd := idIn_drop hTl p0
            rw [show (L.take i)[k] = L[k]'(by omega) from List.getElem_take] at hd
            have y0 := hidl.out k hkl wr hBq
            have y1 := hidi.out wr hBq
            have hk0 : (k : Int) < (i : Int) := by omega
            have hk1 : (k : Int) < (L.length : Int) := by omega
            generalize (L[k]'(by omega)).i = q0 at y0 hd
            by_cases he : q0 = p0
            · subst he
              have HF : Hid (R = false) := by show _ = _; rw [hpd.out, hq.out, hd]; simp
              clear hd hq hpd
              go_wp2_with fail
              go_region
              all_goals (try go_wp2)
              all_goals go_ret
              all_goals exact ⟨ret_bool HF.out.symm, below_draws hBq _⟩
            · have HQ : Hid (idIn (L.take i) p0 = idIn ((L.take i).drop (k + 1)) p0) := by show _ = _; rw [hq.out, hd, decide_eq_false he]; simp
              have he2 : (q0 == p0) = false := by simpa using he
              clear hd hq
              go_wp2_with fail
              go_region
              all_goals (try go_wp2)
              all_goals go_roundw
              case rel => exact ⟨k + 1, by omega, by go_num, HQ, below_draws hBq _⟩
              case measure => simp [intOf]; omega
          · obtain rfl : k = i := by omega
            have HQ : Hid (R = (okFrom (L.take (k + 1)) (L.drop (k + 1)) && decide (L.length ≤ 24))) := by show _ = _; rw [hpd.out, hq.out, List.drop_of_length_le (by rw [List.length_take]; omega)]; simp [idIn]
            clear hpd hq
            go_wp2
            go_roundw
            case rel => exact ⟨k + 1, by omega, by go_num, HQ, hBq⟩
            case measure => simp [intOf]; omega
    · have HF : Hid (R = decide (L.length ≤ 24)) := by show _ = _; rw [hm.out, List.drop_of_length_le (by omega)]; simp [okFrom]
      clear hm
      by_cases h24 : L.length ≤ 24
      · go_wp2
        go_ret
        exact ⟨ret_bool (by rw [HF.out, decide_eq_true h24]; simp; omega), hB⟩
      · go_wp2
        go_ret
        exact ⟨ret_bool (by rw [HF.out, decide_eq_false h24]; simp; omega), hB⟩

def MakesP (N : List Pt) (w : World) (e : Ending) (w' : World) : Prop := ∃ g c : Nat, (e = .returned (.slice (some ⟨g, 0, none⟩) N.length c) ∧ OwnE encPt 29 3 w' w.heap.size g c N) ∧ Below w.heap.size w w'
set_option maxRecDepth 4000 in
set_option maxHeartbeats 3200000 in
theorem l15Sort_any (A : Option Addr) (c : Nat) (byY : Bool) (L : List Pt) (w : World) (h : SrcE encPt 3 w A c L) (hn : L.length ≤ 1048576) :
    Calls Try.prog 53 #[.slice A L.length c, .bool byY] w (MakesP (sortP byY L) w) := by
  obtain ⟨R, hR⟩ : ∃ R, R = sortP byY L := ⟨_, rfl⟩
  rw [← hR]
  rw [← insAllP_eq] at hR
  have HR := Lib.hid hR
  clear hR
  have hB0 : Below w.heap.size w (w.alloc (.cells #[] 29)) := (Below.refl _ _).alloc (Nat.le_refl _) _
  have own0 := ownE_made (enc := encPt) (F := 3) 29 w w.heap.size (Nat.le_refl _)
  go_enter Try.func53, Try.ntmps53
  go_wp2_with fail
  go_loopw [5, 6, 7, 8] (fun ov iv _ _ wr => ∃ i : Nat, i ≤ L.length ∧ iv = .int .i64 i ∧ ∃ (g c : Nat) (O : List Pt), ov = .slice (some ⟨g, 0, none⟩) O.length c ∧ Hid (O = insAllP byY (L.take i)) ∧ OwnE encPt 29 3 wr w.heap.size g c O ∧ Below w.heap.size w wr) (fun _ iv _ _ _ => L.length - (intOf iv).toNat)
  case atStart => exact ⟨0, Nat.zero_le _, rfl, w.heap.size, 0, [], rfl, rfl, own0, hB0⟩
  case round =>
    obtain ⟨i, hik, rfl, g, co, O, rfl, hO, hown, hB⟩ := hrel
    have hBs := hB.size
    by_cases hlt : i < L.length
    · obtain ⟨b, off, hAe, _, _, _, _⟩ := (h.below hB).1.atPt hlt
      subst hAe
      have hi0 : (i : Int) < (L.length : Int) := by omega
      have hol : O.length ≤ 1048576 := by rw [hO.out, insAllP_len, List.length_take]; omega
      have HN : Hid (insAllP byY (L.take (i + 1)) = insP byY O ⟨L[i].i, L[i].x, L[i].y⟩) := by show _ = _; rw [insAllP_succ hlt, hO.out]
      have HCELL : Hid (∀ w', Below w.heap.size w w' → b < w'.heap.size ∧ w'.cell? ⟨b, off + i * 3, none⟩ = some (.int .i64 L[i].i) ∧ w'.cell? ⟨b, off + i * 3 + 1, none⟩ = some (.int .i64 L[i].x) ∧ w'.cell? ⟨b, off + i * 3 + 2, none⟩ = some (.int .i64 L[i].y)) := fun w' hw => Rds.allPt (h.1.below hw) hlt
      clear hO
      generalize L[i].i = p0 at HN HCELL
      generalize L[i].x = p1 at HN HCELL
      generalize L[i].y = p2 at HN HCELL
      go_wp2_with fail
      go_loopw [7] (fun kv wq => ∃ k : Nat, k ≤ O.length ∧ kv = .int .i64 k ∧ Hid (∀ j, (hj : j < O.length) → j < k → lessP byY O[j] ⟨p0, p1, p2⟩ = true) ∧ OwnE encPt 29 3 wq w.heap.size g co O ∧ Below w.heap.size w wq) (fun kv _ => O.length - (intOf kv).toNat)
      case atStart => exact ⟨0, Nat.zero_le _, rfl, fun j hj hk => by omega, hown, hB⟩
      case round =>
        obtain ⟨k, hk, rfl, hlo, own2, hB2⟩ := hrel
        obtain ⟨hbe, m0, m1, m2⟩ := HCELL.out wr hB2
        have hB2s := hB2.size
        have hcap := own2.capOk
        have hOs : SrcE encPt 3 wr (some ⟨g, 0, none⟩) co O := own2.src
        have kk0 := cell_regrown m0
        have kk1 := cell_regrown m1
        have kk2 := cell_regrown m2
        by_cases hkl : k < O.length
        · obtain ⟨hgl, x0, x1, x2⟩ := Rds.allPt hOs.1 hkl
          rw [Nat.zero_add] at x0 x1 x2
          have hk0 : (k : Int) < (O.length : Int) := by omega
          have hkd : decide ((k : Int) < (O.length : Int)) = true := decide_eq_true hk0
          have hkd2 : decide (k < O.length) = true := decide_eq_true hkl
          have ep : O[k] = ⟨O[k].i, O[k].x, O[k].y⟩ := rfl
          cases hls : lessP byY O[k] ⟨p0, p1, p2⟩ with
          | true =>
            have HLO : Hid (∀ j, (hj : j < O.length) → j < k + 1 → lessP byY O[j] ⟨p0, p1, p2⟩ = true) := fun j hj hjk => by
              rcases Nat.lt_or_eq_of_le (Nat.le_of_lt_succ hjk) with h2 | rfl
              · exact hlo.out j hj h2
              · exact hls
            rw [ep] at hls
            clear hlo ep
            generalize O[k].i = q0 at x0 hls
            generalize O[k].x = q1 at x1 hls
            generalize O[k].y = q2 at x2 hls
            have kk3 := cell_regrown x0
            have kk4 := cell_regrown x1
            have kk5 := cell_regrown x2
            go_wp2_with fail
            refine region_qw (by kernel_rfl) (by kernel_rfl) ?_
            repeat (
              refine qw_step (fun K hK => ?_)
              go_simp
              first
                | (refine hK _ ?_; clear hK K)
                | (apply Exists.intro
                   refine ⟨fun _ => ?_, hK _ ?_⟩
                   (first | (go_at_call 62; exact cL15Less _ _ _ _ _ _ _ _ hls _ _ _))
                   clear hK K))
            refine qw_nil ?_
            intro _ hw'
            obtain ⟨⟨dq, osq⟩, hw''⟩ := hw'
            subst hw''
            have hbq9 : Below wr.heap.size wr (grow (redrawn wr dq) osq) := below_regrown wr dq osq
            have own3 : OwnE encPt 29 3 (grow (redrawn wr dq) osq) w.heap.size g co O := own_below own2 hbq9
            have hB3 := hB2.trans (hbq9.mono hB2s)
            generalize grow (redrawn wr dq) osq = Wq at own3 hB3 ⊢
            clear own2 hbq9 x0 x1 x2 m0 m1 m2 kk0 kk1 kk2 kk3 kk4 kk5 hB2 hOs
            go_wp2
            go_roundw
            case rel => exact ⟨k + 1, by omega, by go_num, HLO, own3, hB3⟩
            case measure => simp [intOf]; omega
          | false =>
            have HQ : Hid (insP byY O ⟨p0, p1, p2⟩ = O.take k ++ [⟨p0, p1, p2⟩] ++ O.drop k) := insP_at hlo.out hk (fun _ => hls)
            rw [ep] at hls
            clear hlo ep
            generalize O[k].i = q0 at x0 hls
            generalize O[k].x = q1 at x1 hls
            generalize O[k].y = q2 at x2 hls
            have kk3 := cell_regrown x0
            have kk4 := cell_regrown x1
            have kk5 := cell_regrown x2
            go_wp2_with fail
            refine region_qw (by kernel_rfl) (by kernel_rfl) ?_
            repeat (
              refine qw_step (fun K hK => ?_)
              go_simp
              first
                | (refine hK _ ?_; clear hK K)
                | (apply Exists.intro
                   refine ⟨fun _ => ?_, hK _ ?_⟩
                   (first | (go_at_call 62; exact cL15Less _ _ _ _ _ _ _ _ hls _ _ _))
                   clear hK K))
            refine qw_nil ?_
            intro _ hw'
            obtain ⟨⟨dq, osq⟩, hw''⟩ := hw'
            subst hw''
            clear x0 x1 x2 kk0 kk1 kk2 kk3 kk4 kk5
            clear m0 m1 m2
            have hbq9 : Below wr.heap.size wr (grow (redrawn wr dq) osq) := below_regrown wr dq osq
            have own3 : OwnE encPt 29 3 (grow (redrawn wr dq) osq) w.heap.size g co O := own_below own2 hbq9
            have hB3 := hB2.trans (hbq9.mono hB2s)
            obtain ⟨hbe3, m0, m1, m2⟩ := HCELL.out _ hB3
            have hB3s := hB3.size
            generalize grow (redrawn wr dq) osq = Wq at own3 hB3 m0 m1 m2 hbe3 hB3s ⊢
            have hq : SrcE encPt 3 Wq (some ⟨g, 0, none⟩) co O := own3.src
            have hT : SrcE encPt 3 Wq (some ⟨g, 0, none⟩) co (O.take k) := hq.take encPt_ok hk
            have hD : SrcE encPt 3 Wq (some ⟨g, k * 3, none⟩) (co - k) (O.drop k) := by have := hq.drop (c' := co - k) encPt_ok (k := k) (o := k * 3) rfl; rwa [Nat.zero_add] at this
            have hXl : Hid (k = (O.take k).length) := by show _ = _; rw [List.length_take, Nat.min_eq_left hk]
            have hYl : Hid (O.length - k = (O.drop k).length) := by show _ = _; rw [List.length_drop]
            generalize O.take k = X at hT hXl HQ
            generalize O.drop k = Y at hD hYl HQ
            have hkc : k ≤ co := by omega
            clear own2 hbq9 hB2 hOs hq own3 hown hB
            have own0 := ownE_made (enc := encPt) (F := 3) 29 Wq Wq.heap.size (Nat.le_refl _)
            go_wp2_with (at_builtin; refine append_rec rowTPoint encPt_ok (by decide) rfl _ _ rfl Wq.heap.size _ _ [] rfl own0 _ _ _ X hXl.out rfl (hT.below (by (repeat' (first | exact Below.refl _ _ | apply Below.alloc | apply Below.setCell | apply Below.drew | apply below_draws)) <;> (first | omega | (simp <;> omega)))) (by simp; have := hXl.out; omega) (by omega) (by simp <;> omega) ?_)
            intro L1 hL1 g1 c1 w1 own1 hg1 hat1 hb1
            obtain rfl : L1 = X := hL1.out
            have hB1 : Below Wq.heap.size Wq w1 := Below.trans (by (repeat' (first | exact Below.refl _ _ | apply Below.alloc | apply Below.setCell | apply Below.drew | apply below_draws)) <;> (first | omega | (simp <;> omega))) hb1
            clear hb1 hL1 hg1 hat1
            have hs1 := hB1.size
            have e_0 := (hB1.cell (p := ⟨_, _, none⟩) hbe3).trans m0
            have e_1 := (hB1.cell (p := ⟨_, _, none⟩) hbe3).trans m1
            have e_2 := (hB1.cell (p := ⟨_, _, none⟩) hbe3).trans m2
            go_wp2_with (at_builtin; refine append_rec rowTPoint encPt_ok (by decide) rfl _ _ rfl Wq.heap.size _ _ L1 rfl (own1.alloc _) _ _ _ [⟨p0, p1, p2⟩] rfl rfl (SrcE.lit encPt_ok _ _ #[.int .i64 p0, .int .i64 p1, .int .i64 p2] [⟨p0, p1, p2⟩] rfl 1) (by simp; have := hXl.out; omega) (by omega) (by simp <;> omega) ?_)
            intro L2 hL2 g2 c2 w2 own2 hg2 hat2 hb2
            have hB2 : Below Wq.heap.size Wq w2 := hB1.trans (Below.trans (by (repeat' (first | exact Below.refl _ _ | apply Below.alloc | apply Below.setCell | apply Below.drew | apply below_draws)) <;> (first | omega | (simp <;> omega))) hb2)
            clear hb2 hg2 hat2 e_0 e_1 e_2
            have hs2 := hB2.size
            have hl2 : Hid (L2.length = L1.length + 1) := by show _ = _; rw [hL2.out]; simp
            go_wp2_with (at_builtin; refine append_rec rowTPoint encPt_ok (by decide) rfl _ _ rfl Wq.heap.size _ _ L2 rfl own2 _ _ _ Y hYl.out rfl (hD.below hB2) (by have := hXl.out; have := hl2.out; have := hYl.out; omega) (by omega) (by omega) ?_)
            intro N hN g3 c3 w3 own3z hg3 hat3 hb3
            have HN0 : N = L1 ++ [(⟨p0, p1, p2⟩ : Pt)] ++ Y := by have e1 := hN.out; have e2 := hL2.out; rw [e1, e2]; try simp
            have hB3z : Below Wq.heap.size Wq w3 := hB2.trans hb3
            clear hb3 hg3 hat3 hN hL2
            have HNX : Hid (N = insAllP byY (L.take (i + 1))) := by show _ = _; rw [HN0, HN.out, HQ.out]
            clear HN0 HN HQ
            go_wp2
            go_roundw
            case rel => exact ⟨i + 1, by omega, by go_num, g3, c3, N, rfl, HNX, own_mono own3z (by omega), hB3.trans (hB3z.mono hB3s)⟩
            case measure => simp [intOf]; omega
        · obtain rfl : k = O.length := by omega
          have HQ0 := insP_at hlo.out hk (fun h => by omega)
          rw [List.take_length, List.drop_length] at HQ0
          have hk0 : ¬ (O.length : Int) < (O.length : Int) := by omega
          have hkd : decide ((O.length : Int) < (O.length : Int)) = false := decide_eq_false hk0
          have hkd2 : decide (O.length < O.length) = false := decide_eq_false (by omega)
          clear hlo
          go_wp2_with fail
          refine region_qw (by kernel_rfl) (by kernel_rfl) ?_
          repeat (
            refine qw_step (fun K hK => ?_)
            go_simp
            first
              | (refine hK _ ?_; clear hK K)
              )
          refine qw_nil ?_
          intro _ hw'
          obtain ⟨⟨dq, osq⟩, hw''⟩ := hw'
          subst hw''
          clear kk0 kk1 kk2
          clear m0 m1 m2
          have hbq9 : Below wr.heap.size wr (grow (redrawn wr dq) osq) := below_regrown wr dq osq
          have own3 : OwnE encPt 29 3 (grow (redrawn wr dq) osq) w.heap.size g co O := own_below own2 hbq9
          have hB3 := hB2.trans (hbq9.mono hB2s)
          obtain ⟨hbe3, m0, m1, m2⟩ := HCELL.out _ hB3
          have hB3s := hB3.size
          generalize grow (redrawn wr dq) osq = Wq at own3 hB3 m0 m1 m2 hbe3 hB3s ⊢
          have hq : SrcE encPt 3 Wq (some ⟨g, 0, none⟩) co O := own3.src
          obtain ⟨X, hX⟩ : ∃ X, X = O := ⟨_, rfl⟩
          have hT : SrcE encPt 3 Wq (some ⟨g, 0, none⟩) co X := by rw [hX]; exact hq
          have hXl : Hid (O.length = X.length) := by show _ = _; rw [hX]
          have HQ : Hid (insP byY O ⟨p0, p1, p2⟩ = X ++ [⟨p0, p1, p2⟩] ++ []) := by show _ = _; rw [HQ0, hX]
          clear HQ0 hX own2 hbq9 hB2 hOs hq own3 hown hB
          by_cases hL0 : O.length = 0
          · obtain rfl : O = [] := List.length_eq_zero_iff.1 hL0
            clear hL0
            simp only [List.length_nil] at *
            have own0 := ownE_made (enc := encPt) (F := 3) 29 Wq Wq.heap.size (Nat.le_refl _)
            go_wp2_with (at_builtin; refine append_rec rowTPoint encPt_ok (by decide) rfl _ _ rfl Wq.heap.size _ _ [] rfl own0 _ _ _ X hXl.out rfl (hT.below (by (repeat' (first | exact Below.refl _ _ | apply Below.alloc | apply Below.setCell | apply Below.drew | apply below_draws)) <;> (first | omega | (simp <;> omega)))) (by simp; have := hXl.out; omega) (by omega) (by simp <;> omega) ?_)
            intro L1 hL1 g1 c1 w1 own1 hg1 hat1 hb1
            obtain rfl : L1 = X := hL1.out
            have hB1 : Below Wq.heap.size Wq w1 := Below.trans (by (repeat' (first | exact Below.refl _ _ | apply Below.alloc | apply Below.setCell | apply Below.drew | apply below_draws)) <;> (first | omega | (simp <;> omega))) hb1
            clear hb1 hL1 hg1 hat1
            have hs1 := hB1.size
            have e_0 := (hB1.cell (p := ⟨_, _, none⟩) hbe3).trans m0
            have e_1 := (hB1.cell (p := ⟨_, _, none⟩) hbe3).trans m1
            have e_2 := (hB1.cell (p := ⟨_, _, none⟩) hbe3).trans m2
            go_wp2_with (at_builtin; refine append_rec rowTPoint encPt_ok (by decide) rfl _ _ rfl Wq.heap.size _ _ L1 rfl (own1.alloc _) _ _ _ [⟨p0, p1, p2⟩] rfl rfl (SrcE.lit encPt_ok _ _ #[.int .i64 p0, .int .i64 p1, .int .i64 p2] [⟨p0, p1, p2⟩] rfl 1) (by simp; have := hXl.out; omega) (by omega) (by simp <;> omega) ?_)
            intro L2 hL2 g2 c2 w2 own2 hg2 hat2 hb2
            have hB2 : Below Wq.heap.size Wq w2 := hB1.trans (Below.trans (by (repeat' (first | exact Below.refl _ _ | apply Below.alloc | apply Below.setCell | apply Below.drew | apply below_draws)) <;> (first | omega | (simp <;> omega))) hb2)
            clear hb2 hg2 hat2 e_0 e_1 e_2
            have hs2 := hB2.size
            have hl2 : Hid (L2.length = L1.length + 1) := by show _ = _; rw [hL2.out]; simp
            go_wp2_with (at_builtin; refine append_rec rowTPoint encPt_ok (by decide) rfl _ _ rfl Wq.heap.size _ _ L2 rfl own2 _ _ _ [] (by simp) rfl (srcE_nilA _ _ _) (by have := hXl.out; have := hl2.out; simp; omega) (by omega) (by omega) ?_)
            intro N hN g3 c3 w3 own3z hg3 hat3 hb3
            have HN0 : N = L1 ++ [(⟨p0, p1, p2⟩ : Pt)] ++ [] := by have e1 := hN.out; have e2 := hL2.out; rw [e1, e2]; try simp
            have hB3z : Below Wq.heap.size Wq w3 := hB2.trans hb3
            clear hb3 hg3 hat3 hN hL2
            have HNX : Hid (N = insAllP byY (L.take (i + 1))) := by show _ = _; rw [HN0, HN.out, HQ.out]
            clear HN0 HN HQ
            go_wp2
            go_roundw
            case rel => exact ⟨i + 1, by omega, by go_num, g3, c3, N, rfl, HNX, own_mono own3z (by omega), hB3.trans (hB3z.mono hB3s)⟩
            case measure => simp [intOf]; omega
          · by_cases hcc : co = O.length
            · subst hcc
              have own0 := ownE_made (enc := encPt) (F := 3) 29 Wq Wq.heap.size (Nat.le_refl _)
              go_wp2_with (at_builtin; refine append_rec rowTPoint encPt_ok (by decide) rfl _ _ rfl Wq.heap.size _ _ [] rfl own0 _ _ _ X hXl.out rfl (hT.below (by (repeat' (first | exact Below.refl _ _ | apply Below.alloc | apply Below.setCell | apply Below.drew | apply below_draws)) <;> (first | omega | (simp <;> omega)))) (by simp; have := hXl.out; omega) (by omega) (by simp <;> omega) ?_)
              intro L1 hL1 g1 c1 w1 own1 hg1 hat1 hb1
              obtain rfl : L1 = X := hL1.out
              have hB1 : Below Wq.heap.size Wq w1 := Below.trans (by (repeat' (first | exact Below.refl _ _ | apply Below.alloc | apply Below.setCell | apply Below.drew | apply below_draws)) <;> (first | omega | (simp <;> omega))) hb1
              clear hb1 hL1 hg1 hat1
              have hs1 := hB1.size
              have e_0 := (hB1.cell (p := ⟨_, _, none⟩) hbe3).trans m0
              have e_1 := (hB1.cell (p := ⟨_, _, none⟩) hbe3).trans m1
              have e_2 := (hB1.cell (p := ⟨_, _, none⟩) hbe3).trans m2
              go_wp2_with (at_builtin; refine append_rec rowTPoint encPt_ok (by decide) rfl _ _ rfl Wq.heap.size _ _ L1 rfl (own1.alloc _) _ _ _ [⟨p0, p1, p2⟩] rfl rfl (SrcE.lit encPt_ok _ _ #[.int .i64 p0, .int .i64 p1, .int .i64 p2] [⟨p0, p1, p2⟩] rfl 1) (by simp; have := hXl.out; omega) (by omega) (by simp <;> omega) ?_)
              intro L2 hL2 g2 c2 w2 own2 hg2 hat2 hb2
              have hB2 : Below Wq.heap.size Wq w2 := hB1.trans (Below.trans (by (repeat' (first | exact Below.refl _ _ | apply Below.alloc | apply Below.setCell | apply Below.drew | apply below_draws)) <;> (first | omega | (simp <;> omega))) hb2)
              clear hb2 hg2 hat2 e_0 e_1 e_2
              have hs2 := hB2.size
              have hl2 : Hid (L2.length = L1.length + 1) := by show _ = _; rw [hL2.out]; simp
              go_wp2_with (at_builtin; refine append_rec rowTPoint encPt_ok (by decide) rfl _ _ rfl Wq.heap.size _ _ L2 rfl own2 _ _ _ [] (by simp) rfl (srcE_nilA _ _ _) (by have := hXl.out; have := hl2.out; simp; omega) (by omega) (by omega) ?_)
              intro N hN g3 c3 w3 own3z hg3 hat3 hb3
              have HN0 : N = L1 ++ [(⟨p0, p1, p2⟩ : Pt)] ++ [] := by have e1 := hN.out; have e2 := hL2.out; rw [e1, e2]; try simp
              have hB3z : Below Wq.heap.size Wq w3 := hB2.trans hb3
              clear hb3 hg3 hat3 hN hL2
              have HNX : Hid (N = insAllP byY (L.take (i + 1))) := by show _ = _; rw [HN0, HN.out, HQ.out]
              clear HN0 HN HQ
              go_wp2
              go_roundw
              case rel => exact ⟨i + 1, by omega, by go_num, g3, c3, N, rfl, HNX, own_mono own3z (by omega), hB3.trans (hB3z.mono hB3s)⟩
              case measure => simp [intOf]; omega
            · skip
              have own0 := ownE_made (enc := encPt) (F := 3) 29 Wq Wq.heap.size (Nat.le_refl _)
              go_wp2_with (at_builtin; refine append_rec rowTPoint encPt_ok (by decide) rfl _ _ rfl Wq.heap.size _ _ [] rfl own0 _ _ _ X hXl.out rfl (hT.below (by (repeat' (first | exact Below.refl _ _ | apply Below.alloc | apply Below.setCell | apply Below.drew | apply below_draws)) <;> (first | omega | (simp <;> omega)))) (by simp; have := hXl.out; omega) (by omega) (by simp <;> omega) ?_)
              intro L1 hL1 g1 c1 w1 own1 hg1 hat1 hb1
              obtain rfl : L1 = X := hL1.out
              have hB1 : Below Wq.heap.size Wq w1 := Below.trans (by (repeat' (first | exact Below.refl _ _ | apply Below.alloc | apply Below.setCell | apply Below.drew | apply below_draws)) <;> (first | omega | (simp <;> omega))) hb1
              clear hb1 hL1 hg1 hat1
              have hs1 := hB1.size
              have e_0 := (hB1.cell (p := ⟨_, _, none⟩) hbe3).trans m0
              have e_1 := (hB1.cell (p := ⟨_, _, none⟩) hbe3).trans m1
              have e_2 := (hB1.cell (p := ⟨_, _, none⟩) hbe3).trans m2
              go_wp2_with (at_builtin; refine append_rec rowTPoint encPt_ok (by decide) rfl _ _ rfl Wq.heap.size _ _ L1 rfl (own1.alloc _) _ _ _ [⟨p0, p1, p2⟩] rfl rfl (SrcE.lit encPt_ok _ _ #[.int .i64 p0, .int .i64 p1, .int .i64 p2] [⟨p0, p1, p2⟩] rfl 1) (by simp; have := hXl.out; omega) (by omega) (by simp <;> omega) ?_)
              intro L2 hL2 g2 c2 w2 own2 hg2 hat2 hb2
              have hB2 : Below Wq.heap.size Wq w2 := hB1.trans (Below.trans (by (repeat' (first | exact Below.refl _ _ | apply Below.alloc | apply Below.setCell | apply Below.drew | apply below_draws)) <;> (first | omega | (simp <;> omega))) hb2)
              clear hb2 hg2 hat2 e_0 e_1 e_2
              have hs2 := hB2.size
              have hl2 : Hid (L2.length = L1.length + 1) := by show _ = _; rw [hL2.out]; simp
              go_wp2_with (at_builtin; refine append_rec rowTPoint encPt_ok (by decide) rfl _ _ rfl Wq.heap.size _ _ L2 rfl own2 _ _ _ [] (by simp) rfl (srcE_nilA _ _ _) (by have := hXl.out; have := hl2.out; simp; omega) (by omega) (by omega) ?_)
              intro N hN g3 c3 w3 own3z hg3 hat3 hb3
              have HN0 : N = L1 ++ [(⟨p0, p1, p2⟩ : Pt)] ++ [] := by have e1 := hN.out; have e2 := hL2.out; rw [e1, e2]; try simp
              have hB3z : Below Wq.heap.size Wq w3 := hB2.trans hb3
              clear hb3 hg3 hat3 hN hL2
              have HNX : Hid (N = insAllP byY (L.take (i + 1))) := by show _ = _; rw [HN0, HN.out, HQ.out]
              clear HN0 HN HQ
              go_wp2
              go_roundw
              case rel => exact ⟨i + 1, by omega, by go_num, g3, c3, N, rfl, HNX, own_mono own3z (by omega), hB3.trans (hB3z.mono hB3s)⟩
              case measure => simp [intOf]; omega
    · obtain rfl : i = L.length := by omega
      have e : O = R := by rw [hO.out, HR.out, List.take_length]
      subst e
      clear hO HR
      go_wp2
      go_ret
      exact ⟨g, co, ⟨rfl, hown⟩, hB⟩
end Go.Proofs.Ytbmbejomodkabaa
