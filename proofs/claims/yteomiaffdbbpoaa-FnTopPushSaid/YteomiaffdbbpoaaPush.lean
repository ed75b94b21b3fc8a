/-
  Contract of spec.l13Push.
-/
import Derived.Test.YteomiaffdbbpoaaSortHit
namespace Go.Proofs.Yteomiaffdbbpoaa
open Go.RowKit Go.Sort
set_option linter.unusedVariables false

def insH (L : List (Int × Int)) (h : Int × Int) : List (Int × Int) := L.takeWhile (fun x => lessH x h) ++ h :: L.dropWhile (fun x => lessH x h)
theorem insH_at : ∀ {L : List (Int × Int)} {k : Nat} {h : Int × Int}, (∀ j, (hj : j < L.length) → j < k → lessH L[j] h = true) → k ≤ L.length → ((hk : k < L.length) → lessH L[k] h = false) → insH L h = L.take k ++ [h] ++ L.drop k
  | [], k, h, _, hk, _ => by simp at hk; subst hk; simp [insH]
  | x :: r, 0, h, _, _, h2 => by
    have := h2 (by simp)
    simp only [List.getElem_cons_zero] at this
    simp [insH, this]
  | x :: r, k + 1, h, h1, hk, h2 => by
    have hx := h1 0 (by simp) (by omega)
    simp only [List.getElem_cons_zero] at hx
    have ih := insH_at (L := r) (k := k) (h := h) (fun j hj hjk => by have := h1 (j + 1) (by simpa using hj) (by omega); rwa [List.getElem_cons_succ] at this) (by simpa using hk) (fun hk' => by have := h2 (by simpa using hk'); rwa [List.getElem_cons_succ] at this)
    unfold insH at ih ⊢
    simp only [List.takeWhile_cons, hx, if_true, List.dropWhile_cons, List.cons_append, List.take_succ_cons, List.drop_succ_cons]
    rw [ih]
    try simp
theorem insH_len (L : List (Int × Int)) (h : Int × Int) : (insH L h).length = L.length + 1 := by
  unfold insH
  have := congrArg List.length (List.takeWhile_append_dropWhile (p := fun x => lessH x h) (l := L))
  simp only [List.length_append, List.length_cons] at this ⊢
  omega
def pushH (L : List (Int × Int)) (h : Int × Int) (most : Int) : List (Int × Int) := (insH L h).take most.toNat
theorem own_take {w : World} {base g c : Nat} {L : List (Int × Int)} (h : OwnE enc2 49 2 w base g c L) (k : Nat) : OwnE enc2 49 2 w base g c (L.take k) := by
  rcases h.2 with ⟨h', _⟩ | ⟨g', cap, cur, hv, hb, hh, hnc, hcm, hcs, htake⟩
  · simp at h'
  · simp only [Value.slice.injEq, Option.some.injEq, Addr.mk.injEq, and_true, true_and] at hv
    obtain ⟨rfl, rfl⟩ := hv
    refine ⟨flat_len enc2_len _, .inr ⟨g, c, cur, rfl, hb, hh, by rw [List.length_take]; omega, hcm, hcs, ?_⟩⟩
    rw [encHit.take, ← htake, List.take_take, List.length_take]
    by_cases hk : k ≤ L.length
    · rw [Nat.min_eq_left hk, Nat.min_eq_left (by omega)]
    · rw [Nat.min_eq_right (by omega), Nat.min_eq_right (by omega)]
theorem srcE_empty (w : World) (ad : Addr) (c : Nat) : SrcE enc2 2 w (some ad) c [] := ⟨⟨rfl, fun h => by simp at h⟩, .inr ⟨_, rfl⟩⟩
theorem cL13Less (a0 a1 b0 b1 : Int) (r : Bool) (hr : lessH (a0, a1) (b0, b1) = r) (W : World) (d : Nat) (os : Array Obj) :
    Calls Try.prog 84 #[.agg #[.int .i64 a0, .int .i64 a1], .agg #[.int .i64 b0, .int .i64 b1]] (grow (redrawn W d) os) fun e w'' => e = .returned (.bool r) ∧ ∃ p : Regrown, w'' = grow (redrawn W p.d) p.os := by
  subst hr
  exact Calls.regrown_of ((l13Less_any (a0, a1) (b0, b1) _).mono fun _ _ ⟨h1, h2⟩ => ⟨h1, h2⟩)
/-- what a call hands back: a row of hits of the call's own. -/
def MakesH (L : List (Int × Int)) (w : World) (e : Ending) (w' : World) : Prop :=
  ∃ g c, (e = .returned (.slice (some ⟨g, 0, none⟩) L.length c) ∧ OwnE enc2 49 2 w' w.heap.size g c L) ∧ Below w.heap.size w w'
set_option maxHeartbeats 1600000 in
theorem l13Push_any (A : Option Addr) (c : Nat) (L : List (Int × Int)) (hd hp most : Int) (w : World) (h : SrcE enc2 2 w A c L) (hn : L.length ≤ 1048576) (hcap : L.length ≤ c) (hcm : c ≤ 9223372036854775807) (hm0 : 1 ≤ most) (hm1 : most ≤ 16) :
    Calls Try.prog 74 #[.slice A L.length c, .agg #[.int .i64 hd, .int .i64 hp], .int .i64 most] w (MakesH (pushH L (hd, hp) most) w) := by
  obtain ⟨m, rfl⟩ : ∃ m : Nat, most = m := ⟨most.toNat, by omega⟩
  obtain ⟨R, hR⟩ : ∃ R, R = pushH L (hd, hp) m := ⟨_, rfl⟩
  rw [← hR]
  have HR := Lib.hid hR
  clear hR
  have hB0 : Below w.heap.size w (w.alloc (.cells #[.int .i64 hd, .int .i64 hp] 49)) := (Below.refl _ _).alloc (Nat.le_refl _) _
  have f0 : (w.alloc (.cells #[.int .i64 hd, .int .i64 hp] 49)).cell? ⟨w.heap.size, 0, none⟩ = some (.int .i64 hd) := by simp [go_sem]
  have f1 : (w.alloc (.cells #[.int .i64 hd, .int .i64 hp] 49)).cell? ⟨w.heap.size, 1, none⟩ = some (.int .i64 hp) := by simp [go_sem]
  have hs0 : w.heap.size < (w.alloc (.cells #[.int .i64 hd, .int .i64 hp] 49)).heap.size := by simp
  have h0 := h.below hB0
  go_enter Try.func74, Try.ntmps74
  go_wp2_with fail
  generalize (w.alloc (.cells #[.int .i64 hd, .int .i64 hp] 49)) = W0 at hB0 f0 f1 hs0 h0 ⊢
  go_loopw [7] (fun iv wr => ∃ k : Nat, k ≤ L.length ∧ iv = .int .i64 k ∧ Hid (∀ j, (hj : j < L.length) → j < k → lessH L[j] (hd, hp) = true) ∧ Below W0.heap.size W0 wr) (fun iv _ => L.length - (intOf iv).toNat)
  case atStart => exact ⟨0, Nat.zero_le _, rfl, fun j hj hk => by omega, Below.refl _ _⟩
  case round =>
    obtain ⟨k, hk, rfl, hlo, hB⟩ := hrel
    have hBs := hB.size
    have hr := h0.below hB
    have k0 := cell_regrown ((hB.cell (p := ⟨w.heap.size, 0, none⟩) hs0).trans f0)
    have k1 := cell_regrown ((hB.cell (p := ⟨w.heap.size, 1, none⟩) hs0).trans f1)
    by_cases hlt : k < L.length
    · obtain ⟨b, off, rfl, hb, x0, x1⟩ := hr.1.at2 hlt
      have hi0 : (k : Int) < (L.length : Int) := by omega
      have hkc : k ≤ c := by omega
      have e3 : L[k] = (L[k].1, L[k].2) := rfl
      cases hls : lessH L[k] (hd, hp) with
      | true =>
        have HLO : Hid (∀ j, (hj : j < L.length) → j < k + 1 → lessH L[j] (hd, hp) = true) := fun j hj hjk => by
          rcases Nat.lt_or_eq_of_le (Nat.le_of_lt_succ hjk) with h2 | rfl
          · exact hlo.out j hj h2
          · exact hls
        rw [e3] at hls
        clear hlo e3
        generalize L[k].1 = p at x0 hls
        generalize L[k].2 = q at x1 hls
        have k2 := cell_regrown x0
        have k3 := cell_regrown x1
        go_wp2_with fail
        refine region_qw (by kernel_rfl) (by kernel_rfl) ?_
        repeat (
          refine qw_step (fun K hK => ?_)
          go_simp
          first
            | (refine hK _ ?_; clear hK K)
            | (apply Exists.intro
               refine ⟨fun _ => ?_, hK _ ?_⟩
               (first | (go_at_call 84; exact cL13Less _ _ _ _ _ hls _ _ _))
               clear hK K))
        refine qw_nil ?_
        intro _ hw'
        obtain ⟨⟨dq, osq⟩, hw''⟩ := hw'
        subst hw''
        have hBq := hB.trans ((below_regrown wr dq osq).mono hBs)
        generalize grow (redrawn wr dq) osq = Wq at hBq ⊢
        clear k0 k1
        go_wp2
        go_roundw
        case rel => exact ⟨k + 1, by omega, by go_num, HLO, hBq⟩
        case measure => simp [intOf]; omega
      | false =>
        have HQ : Hid (insH L (hd, hp) = L.take k ++ [(hd, hp)] ++ L.drop k) := insH_at hlo.out hk (fun _ => hls)
        rw [e3] at hls
        clear hlo e3
        generalize L[k].1 = p at x0 hls
        generalize L[k].2 = q at x1 hls
        have k2 := cell_regrown x0
        have k3 := cell_regrown x1
        go_wp2_with fail
        refine region_qw (by kernel_rfl) (by kernel_rfl) ?_
        repeat (
          refine qw_step (fun K hK => ?_)
          go_simp
          first
            | (refine hK _ ?_; clear hK K)
            | (apply Exists.intro
               refine ⟨fun _ => ?_, hK _ ?_⟩
               (first | (go_at_call 84; exact cL13Less _ _ _ _ _ hls _ _ _))
               clear hK K))
        refine qw_nil ?_
        intro _ hw'
        obtain ⟨⟨dq, osq⟩, hw''⟩ := hw'
        subst hw''
        have hBq := hB.trans ((below_regrown wr dq osq).mono hBs)
        generalize grow (redrawn wr dq) osq = Wq at hBq ⊢
        clear k0 k1
        clear k2 k3 x0 x1
        have hBw : Below w.heap.size w Wq := hB0.trans (hBq.mono hB0.size)
        have hsq : w.heap.size < Wq.heap.size := Nat.lt_of_lt_of_le hs0 hBq.size
        have f0q := (hBq.cell (p := ⟨w.heap.size, 0, none⟩) hs0).trans f0
        have f1q := (hBq.cell (p := ⟨w.heap.size, 1, none⟩) hs0).trans f1
        have hq := h0.below hBq
        clear hB hBs hr
        have hT : SrcE enc2 2 Wq (some ⟨b, off, none⟩) c (L.take k) := hq.take encHit hk
        have hD : SrcE enc2 2 Wq (some ⟨b, off + k * 2, none⟩) (c - k) (L.drop k) := hq.drop encHit rfl
        have hXl : Hid (k = (L.take k).length) := by show _ = _; rw [List.length_take, Nat.min_eq_left hk]
        have hYl : Hid (L.length - k = (L.drop k).length) := by show _ = _; rw [List.length_drop]
        generalize L.take k = X at hT hXl HQ
        generalize L.drop k = Y at hD hYl HQ
        rcases Nat.eq_zero_or_pos k with rfl | hk0
        all_goals
          have own0 := ownE_made (enc := enc2) (F := 2) 49 Wq Wq.heap.size (Nat.le_refl _)
          go_wp2_with (at_builtin; refine append_rec rowTHit encHit (by decide) rfl _ _ rfl Wq.heap.size _ _ [] rfl own0 _ _ _ X hXl.out rfl (hT.below (by (repeat' (first | exact Below.refl _ _ | apply Below.alloc | apply Below.setCell | apply Below.drew | apply below_draws)) <;> (first | omega | (simp <;> omega)))) (by simp; have := hXl.out; omega) (by omega) (by simp <;> omega) ?_)
          intro L1 hL1 g1 c1 w1 own1 hg1 hat1 hb1
          obtain rfl : L1 = X := hL1.out
          have hB1 : Below Wq.heap.size Wq w1 := Below.trans (by (repeat' (first | exact Below.refl _ _ | apply Below.alloc | apply Below.setCell | apply Below.drew | apply below_draws)) <;> (first | omega | (simp <;> omega))) hb1
          clear hb1 hL1 hg1 hat1
          have hs1 := hB1.size
          have q0 := (hB1.cell (p := ⟨w.heap.size, 0, none⟩) hsq).trans f0q
          have q1 := (hB1.cell (p := ⟨w.heap.size, 1, none⟩) hsq).trans f1q
          go_wp2_with (at_builtin; refine append_rec rowTHit encHit (by decide) rfl _ _ rfl Wq.heap.size _ _ L1 rfl (own1.alloc _) _ _ _ [(hd, hp)] rfl rfl (SrcE.lit encHit _ _ #[.int .i64 hd, .int .i64 hp] [(hd, hp)] rfl 1) (by simp; have := hXl.out; omega) (by omega) (by simp <;> omega) ?_)
          intro L2 hL2 g2 c2 w2 own2 hg2 hat2 hb2
          have hB2 : Below Wq.heap.size Wq w2 := hB1.trans (Below.trans (by (repeat' (first | exact Below.refl _ _ | apply Below.alloc | apply Below.setCell | apply Below.drew | apply below_draws)) <;> (first | omega | (simp <;> omega))) hb2)
          clear hb2 hg2 hat2 q0 q1
          have hs2 := hB2.size
          have hl2 : Hid (L2.length = L1.length + 1) := by show _ = _; rw [hL2.out]; simp
          go_wp2_with (at_builtin; refine append_rec rowTHit encHit (by decide) rfl _ _ rfl Wq.heap.size _ _ L2 rfl own2 _ _ _ Y hYl.out rfl (hD.below hB2) (by have := hXl.out; have := hl2.out; have := hYl.out; omega) (by omega) (by omega) ?_)
          intro N hN g3 c3 w3 own3 hg3 hat3 hb3
          have HN : N = insH L (hd, hp) := by have e1 := hN.out; have e2 := hL2.out; have e3 := HQ.out; rw [e3, e1, e2]; try simp
          have hB3 : Below Wq.heap.size Wq w3 := hB2.trans hb3
          clear hb3 hg3 hat3 hN hL2
          have hNl : N.length = L.length + 1 := by rw [HN]; exact insH_len _ _
          have hc3 := own3.capOk.1
          have hBe := hBw.trans (hB3.mono hBw.size)
          by_cases hgt : m < N.length
          · have hgt1 : (m : Int) < (N.length : Int) := by omega
            have hmc : m ≤ c3 := by omega
            have hRR : Hid (R = N.take m) := by show _ = _; rw [HR.out, HN]; unfold pushH; rw [Int.toNat_natCast]
            have hRl : Hid (R.length = m) := by show _ = _; rw [hRR.out, List.length_take]; omega
            have hown : OwnE enc2 49 2 w3 Wq.heap.size g3 c3 R := by rw [hRR.out]; exact own_take own3 m
            clear own3 hRR HN HR
            go_wp2
            all_goals go_ret
            all_goals exact ⟨g3, c3, ⟨by rw [hRl.out]; rfl, own_mono hown hBw.size⟩, hBe⟩
          · have hgt1 : ¬ (m : Int) < (N.length : Int) := by omega
            have hRR : R = N := by rw [HR.out, HN]; unfold pushH; rw [Int.toNat_natCast, ← HN, List.take_of_length_le (by omega)]
            subst hRR
            clear HN HR
            go_wp2
            go_ret
            exact ⟨g3, c3, ⟨by rw [hNl]; rfl, own_mono own3 hBw.size⟩, hBe⟩
    · obtain rfl : k = L.length := by omega
      have HQ0 := insH_at hlo.out hk (fun h => by omega)
      rw [List.take_length, List.drop_length] at HQ0
      have hi0 : ¬ (L.length : Int) < (L.length : Int) := by omega
      clear hlo
      go_wp2_with fail
      refine region_qw (by kernel_rfl) (by kernel_rfl) ?_
      repeat (
        refine qw_step (fun K hK => ?_)
        go_simp
        first
          | (refine hK _ ?_; clear hK K)
          | (apply Exists.intro
             refine ⟨fun _ => ?_, hK _ ?_⟩
             (first | fail)
             clear hK K))
      refine qw_nil ?_
      intro _ hw'
      obtain ⟨⟨dq, osq⟩, hw''⟩ := hw'
      subst hw''
      have hBq := hB.trans ((below_regrown wr dq osq).mono hBs)
      generalize grow (redrawn wr dq) osq = Wq at hBq ⊢
      clear k0 k1
      have hBw : Below w.heap.size w Wq := hB0.trans (hBq.mono hB0.size)
      have hsq : w.heap.size < Wq.heap.size := Nat.lt_of_lt_of_le hs0 hBq.size
      have f0q := (hBq.cell (p := ⟨w.heap.size, 0, none⟩) hs0).trans f0
      have f1q := (hBq.cell (p := ⟨w.heap.size, 1, none⟩) hs0).trans f1
      have hq := h0.below hBq
      clear hB hBs hr
      obtain ⟨X, hX⟩ : ∃ X, X = L := ⟨_, rfl⟩
      have hT : SrcE enc2 2 Wq A c X := by rw [hX]; exact hq
      have hXl : Hid (L.length = X.length) := by show _ = _; rw [hX]
      have HQ : Hid (insH L (hd, hp) = X ++ [(hd, hp)] ++ []) := by show _ = _; rw [HQ0, hX]
      clear HQ0 hX
      by_cases hL0 : L.length = 0
      · obtain rfl : L = [] := List.length_eq_zero_iff.1 hL0
        clear hL0
        simp only [List.length_nil] at *
        rcases h.2 with ⟨rfl, rfl⟩ | ⟨ad, rfl⟩
        · skip
          have own0 := ownE_made (enc := enc2) (F := 2) 49 Wq Wq.heap.size (Nat.le_refl _)
          go_wp2_with (at_builtin; refine append_rec rowTHit encHit (by decide) rfl _ _ rfl Wq.heap.size _ _ [] rfl own0 _ _ _ X hXl.out rfl (hT.below (by (repeat' (first | exact Below.refl _ _ | apply Below.alloc | apply Below.setCell | apply Below.drew | apply below_draws)) <;> (first | omega | (simp <;> omega)))) (by simp; have := hXl.out; omega) (by omega) (by simp <;> omega) ?_)
          intro L1 hL1 g1 c1 w1 own1 hg1 hat1 hb1
          obtain rfl : L1 = X := hL1.out
          have hB1 : Below Wq.heap.size Wq w1 := Below.trans (by (repeat' (first | exact Below.refl _ _ | apply Below.alloc | apply Below.setCell | apply Below.drew | apply below_draws)) <;> (first | omega | (simp <;> omega))) hb1
          clear hb1 hL1 hg1 hat1
          have hs1 := hB1.size
          have q0 := (hB1.cell (p := ⟨w.heap.size, 0, none⟩) hsq).trans f0q
          have q1 := (hB1.cell (p := ⟨w.heap.size, 1, none⟩) hsq).trans f1q
          go_wp2_with (at_builtin; refine append_rec rowTHit encHit (by decide) rfl _ _ rfl Wq.heap.size _ _ L1 rfl (own1.alloc _) _ _ _ [(hd, hp)] rfl rfl (SrcE.lit encHit _ _ #[.int .i64 hd, .int .i64 hp] [(hd, hp)] rfl 1) (by simp; have := hXl.out; omega) (by omega) (by simp <;> omega) ?_)
          intro L2 hL2 g2 c2 w2 own2 hg2 hat2 hb2
          have hB2 : Below Wq.heap.size Wq w2 := hB1.trans (Below.trans (by (repeat' (first | exact Below.refl _ _ | apply Below.alloc | apply Below.setCell | apply Below.drew | apply below_draws)) <;> (first | omega | (simp <;> omega))) hb2)
          clear hb2 hg2 hat2 q0 q1
          have hs2 := hB2.size
          have hl2 : Hid (L2.length = L1.length + 1) := by show _ = _; rw [hL2.out]; simp
          go_wp2_with (at_builtin; refine append_rec rowTHit encHit (by decide) rfl _ _ rfl Wq.heap.size _ _ L2 rfl own2 _ _ _ [] (by simp) rfl (SrcE.nil_ _ 0) (by have := hXl.out; have := hl2.out; simp; omega) (by omega) (by omega) ?_)
          intro N hN g3 c3 w3 own3 hg3 hat3 hb3
          have HN : N = insH [] (hd, hp) := by have e1 := hN.out; have e2 := hL2.out; have e3 := HQ.out; rw [e3, e1, e2]; try simp
          have hB3 : Below Wq.heap.size Wq w3 := hB2.trans hb3
          clear hb3 hg3 hat3 hN hL2
          have hNl : N.length = 0 + 1 := by rw [HN]; exact insH_len _ _
          have hc3 := own3.capOk.1
          have hBe := hBw.trans (hB3.mono hBw.size)
          by_cases hgt : m < N.length
          · have hgt1 : (m : Int) < (N.length : Int) := by omega
            have hmc : m ≤ c3 := by omega
            have hRR : Hid (R = N.take m) := by show _ = _; rw [HR.out, HN]; unfold pushH; rw [Int.toNat_natCast]
            have hRl : Hid (R.length = m) := by show _ = _; rw [hRR.out, List.length_take]; omega
            have hown : OwnE enc2 49 2 w3 Wq.heap.size g3 c3 R := by rw [hRR.out]; exact own_take own3 m
            clear own3 hRR HN HR
            go_wp2
            all_goals go_ret
            all_goals exact ⟨g3, c3, ⟨by rw [hRl.out]; rfl, own_mono hown hBw.size⟩, hBe⟩
          · have hgt1 : ¬ (m : Int) < (N.length : Int) := by omega
            have hRR : R = N := by rw [HR.out, HN]; unfold pushH; rw [Int.toNat_natCast, ← HN, List.take_of_length_le (by omega)]
            subst hRR
            clear HN HR
            go_wp2
            go_ret
            exact ⟨g3, c3, ⟨by rw [hNl]; rfl, own_mono own3 hBw.size⟩, hBe⟩
        · skip
          have own0 := ownE_made (enc := enc2) (F := 2) 49 Wq Wq.heap.size (Nat.le_refl _)
          go_wp2_with (at_builtin; refine append_rec rowTHit encHit (by decide) rfl _ _ rfl Wq.heap.size _ _ [] rfl own0 _ _ _ X hXl.out rfl (hT.below (by (repeat' (first | exact Below.refl _ _ | apply Below.alloc | apply Below.setCell | apply Below.drew | apply below_draws)) <;> (first | omega | (simp <;> omega)))) (by simp; have := hXl.out; omega) (by omega) (by simp <;> omega) ?_)
          intro L1 hL1 g1 c1 w1 own1 hg1 hat1 hb1
          obtain rfl : L1 = X := hL1.out
          have hB1 : Below Wq.heap.size Wq w1 := Below.trans (by (repeat' (first | exact Below.refl _ _ | apply Below.alloc | apply Below.setCell | apply Below.drew | apply below_draws)) <;> (first | omega | (simp <;> omega))) hb1
          clear hb1 hL1 hg1 hat1
          have hs1 := hB1.size
          have q0 := (hB1.cell (p := ⟨w.heap.size, 0, none⟩) hsq).trans f0q
          have q1 := (hB1.cell (p := ⟨w.heap.size, 1, none⟩) hsq).trans f1q
          go_wp2_with (at_builtin; refine append_rec rowTHit encHit (by decide) rfl _ _ rfl Wq.heap.size _ _ L1 rfl (own1.alloc _) _ _ _ [(hd, hp)] rfl rfl (SrcE.lit encHit _ _ #[.int .i64 hd, .int .i64 hp] [(hd, hp)] rfl 1) (by simp; have := hXl.out; omega) (by omega) (by simp <;> omega) ?_)
          intro L2 hL2 g2 c2 w2 own2 hg2 hat2 hb2
          have hB2 : Below Wq.heap.size Wq w2 := hB1.trans (Below.trans (by (repeat' (first | exact Below.refl _ _ | apply Below.alloc | apply Below.setCell | apply Below.drew | apply below_draws)) <;> (first | omega | (simp <;> omega))) hb2)
          clear hb2 hg2 hat2 q0 q1
          have hs2 := hB2.size
          have hl2 : Hid (L2.length = L1.length + 1) := by show _ = _; rw [hL2.out]; simp
          go_wp2_with (at_builtin; refine append_rec rowTHit encHit (by decide) rfl _ _ rfl Wq.heap.size _ _ L2 rfl own2 _ _ _ [] (by simp) rfl (srcE_empty _ _ _) (by have := hXl.out; have := hl2.out; simp; omega) (by omega) (by omega) ?_)
          intro N hN g3 c3 w3 own3 hg3 hat3 hb3
          have HN : N = insH [] (hd, hp) := by have e1 := hN.out; have e2 := hL2.out; have e3 := HQ.out; rw [e3, e1, e2]; try simp
          have hB3 : Below Wq.heap.size Wq w3 := hB2.trans hb3
          clear hb3 hg3 hat3 hN hL2
          have hNl : N.length = 0 + 1 := by rw [HN]; exact insH_len _ _
          have hc3 := own3.capOk.1
          have hBe := hBw.trans (hB3.mono hBw.size)
          by_cases hgt : m < N.length
          · have hgt1 : (m : Int) < (N.length : Int) := by omega
            have hmc : m ≤ c3 := by omega
            have hRR : Hid (R = N.take m) := by show _ = _; rw [HR.out, HN]; unfold pushH; rw [Int.toNat_natCast]
            have hRl : Hid (R.length = m) := by show _ = _; rw [hRR.out, List.length_take]; omega
            have hown : OwnE enc2 49 2 w3 Wq.heap.size g3 c3 R := by rw [hRR.out]; exact own_take own3 m
            clear own3 hRR HN HR
            go_wp2
            all_goals go_ret
            all_goals exact ⟨g3, c3, ⟨by rw [hRl.out]; rfl, own_mono hown hBw.size⟩, hBe⟩
          · have hgt1 : ¬ (m : Int) < (N.length : Int) := by omega
            have hRR : R = N := by rw [HR.out, HN]; unfold pushH; rw [Int.toNat_natCast, ← HN, List.take_of_length_le (by omega)]
            subst hRR
            clear HN HR
            go_wp2
            go_ret
            exact ⟨g3, c3, ⟨by rw [hNl]; rfl, own_mono own3 hBw.size⟩, hBe⟩
      · obtain ⟨b, off, rfl, _⟩ := h.1.2 (by omega)
        by_cases hcc : c = L.length
        · subst hcc
          have own0 := ownE_made (enc := enc2) (F := 2) 49 Wq Wq.heap.size (Nat.le_refl _)
          go_wp2_with (at_builtin; refine append_rec rowTHit encHit (by decide) rfl _ _ rfl Wq.heap.size _ _ [] rfl own0 _ _ _ X hXl.out rfl (hT.below (by (repeat' (first | exact Below.refl _ _ | apply Below.alloc | apply Below.setCell | apply Below.drew | apply below_draws)) <;> (first | omega | (simp <;> omega)))) (by simp; have := hXl.out; omega) (by omega) (by simp <;> omega) ?_)
          intro L1 hL1 g1 c1 w1 own1 hg1 hat1 hb1
          obtain rfl : L1 = X := hL1.out
          have hB1 : Below Wq.heap.size Wq w1 := Below.trans (by (repeat' (first | exact Below.refl _ _ | apply Below.alloc | apply Below.setCell | apply Below.drew | apply below_draws)) <;> (first | omega | (simp <;> omega))) hb1
          clear hb1 hL1 hg1 hat1
          have hs1 := hB1.size
          have q0 := (hB1.cell (p := ⟨w.heap.size, 0, none⟩) hsq).trans f0q
          have q1 := (hB1.cell (p := ⟨w.heap.size, 1, none⟩) hsq).trans f1q
          go_wp2_with (at_builtin; refine append_rec rowTHit encHit (by decide) rfl _ _ rfl Wq.heap.size _ _ L1 rfl (own1.alloc _) _ _ _ [(hd, hp)] rfl rfl (SrcE.lit encHit _ _ #[.int .i64 hd, .int .i64 hp] [(hd, hp)] rfl 1) (by simp; have := hXl.out; omega) (by omega) (by simp <;> omega) ?_)
          intro L2 hL2 g2 c2 w2 own2 hg2 hat2 hb2
          have hB2 : Below Wq.heap.size Wq w2 := hB1.trans (Below.trans (by (repeat' (first | exact Below.refl _ _ | apply Below.alloc | apply Below.setCell | apply Below.drew | apply below_draws)) <;> (first | omega | (simp <;> omega))) hb2)
          clear hb2 hg2 hat2 q0 q1
          have hs2 := hB2.size
          have hl2 : Hid (L2.length = L1.length + 1) := by show _ = _; rw [hL2.out]; simp
          go_wp2_with (at_builtin; refine append_rec rowTHit encHit (by decide) rfl _ _ rfl Wq.heap.size _ _ L2 rfl own2 _ _ _ [] (by simp) rfl (srcE_empty _ _ _) (by have := hXl.out; have := hl2.out; simp; omega) (by omega) (by omega) ?_)
          intro N hN g3 c3 w3 own3 hg3 hat3 hb3
          have HN : N = insH L (hd, hp) := by have e1 := hN.out; have e2 := hL2.out; have e3 := HQ.out; rw [e3, e1, e2]; try simp
          have hB3 : Below Wq.heap.size Wq w3 := hB2.trans hb3
          clear hb3 hg3 hat3 hN hL2
          have hNl : N.length = L.length + 1 := by rw [HN]; exact insH_len _ _
          have hc3 := own3.capOk.1
          have hBe := hBw.trans (hB3.mono hBw.size)
          by_cases hgt : m < N.length
          · have hgt1 : (m : Int) < (N.length : Int) := by omega
            have hmc : m ≤ c3 := by omega
            have hRR : Hid (R = N.take m) := by show _ = _; rw [HR.out, HN]; unfold pushH; rw [Int.toNat_natCast]
            have hRl : Hid (R.length = m) := by show _ = _; rw [hRR.out, List.length_take]; omega
            have hown : OwnE enc2 49 2 w3 Wq.heap.size g3 c3 R := by rw [hRR.out]; exact own_take own3 m
            clear own3 hRR HN HR
            go_wp2
            all_goals go_ret
            all_goals exact ⟨g3, c3, ⟨by rw [hRl.out]; rfl, own_mono hown hBw.size⟩, hBe⟩
          · have hgt1 : ¬ (m : Int) < (N.length : Int) := by omega
            have hRR : R = N := by rw [HR.out, HN]; unfold pushH; rw [Int.toNat_natCast, ← HN, List.take_of_length_le (by omega)]
            subst hRR
            clear HN HR
            go_wp2
            go_ret
            exact ⟨g3, c3, ⟨by rw [hNl]; rfl, own_mono own3 hBw.size⟩, hBe⟩
        · skip
          have own0 := ownE_made (enc := enc2) (F := 2) 49 Wq Wq.heap.size (Nat.le_refl _)
          go_wp2_with (at_builtin; refine append_rec rowTHit encHit (by decide) rfl _ _ rfl Wq.heap.size _ _ [] rfl own0 _ _ _ X hXl.out rfl (hT.below (by (repeat' (first | exact Below.refl _ _ | apply Below.alloc | apply Below.setCell | apply Below.drew | apply below_draws)) <;> (first | omega | (simp <;> omega)))) (by simp; have := hXl.out; omega) (by omega) (by simp <;> omega) ?_)
          intro L1 hL1 g1 c1 w1 own1 hg1 hat1 hb1
          obtain rfl : L1 = X := hL1.out
          have hB1 : Below Wq.heap.size Wq w1 := Below.trans (by (repeat' (first | exact Below.refl _ _ | apply Below.alloc | apply Below.setCell | apply Below.drew | apply below_draws)) <;> (first | omega | (simp <;> omega))) hb1
          clear hb1 hL1 hg1 hat1
          have hs1 := hB1.size
          have q0 := (hB1.cell (p := ⟨w.heap.size, 0, none⟩) hsq).trans f0q
          have q1 := (hB1.cell (p := ⟨w.heap.size, 1, none⟩) hsq).trans f1q
          go_wp2_with (at_builtin; refine append_rec rowTHit encHit (by decide) rfl _ _ rfl Wq.heap.size _ _ L1 rfl (own1.alloc _) _ _ _ [(hd, hp)] rfl rfl (SrcE.lit encHit _ _ #[.int .i64 hd, .int .i64 hp] [(hd, hp)] rfl 1) (by simp; have := hXl.out; omega) (by omega) (by simp <;> omega) ?_)
          intro L2 hL2 g2 c2 w2 own2 hg2 hat2 hb2
          have hB2 : Below Wq.heap.size Wq w2 := hB1.trans (Below.trans (by (repeat' (first | exact Below.refl _ _ | apply Below.alloc | apply Below.setCell | apply Below.drew | apply below_draws)) <;> (first | omega | (simp <;> omega))) hb2)
          clear hb2 hg2 hat2 q0 q1
          have hs2 := hB2.size
          have hl2 : Hid (L2.length = L1.length + 1) := by show _ = _; rw [hL2.out]; simp
          go_wp2_with (at_builtin; refine append_rec rowTHit encHit (by decide) rfl _ _ rfl Wq.heap.size _ _ L2 rfl own2 _ _ _ [] (by simp) rfl (srcE_empty _ _ _) (by have := hXl.out; have := hl2.out; simp; omega) (by omega) (by omega) ?_)
          intro N hN g3 c3 w3 own3 hg3 hat3 hb3
          have HN : N = insH L (hd, hp) := by have e1 := hN.out; have e2 := hL2.out; have e3 := HQ.out; rw [e3, e1, e2]; try simp
          have hB3 : Below Wq.heap.size Wq w3 := hB2.trans hb3
          clear hb3 hg3 hat3 hN hL2
          have hNl : N.length = L.length + 1 := by rw [HN]; exact insH_len _ _
          have hc3 := own3.capOk.1
          have hBe := hBw.trans (hB3.mono hBw.size)
          by_cases hgt : m < N.length
          · have hgt1 : (m : Int) < (N.length : Int) := by omega
            have hmc : m ≤ c3 := by omega
            have hRR : Hid (R = N.take m) := by show _ = _; rw [HR.out, HN]; unfold pushH; rw [Int.toNat_natCast]
            have hRl : Hid (R.length = m) := by show _ = _; rw [hRR.out, List.length_take]; omega
            have hown : OwnE enc2 49 2 w3 Wq.heap.size g3 c3 R := by rw [hRR.out]; exact own_take own3 m
            clear own3 hRR HN HR
            go_wp2
            all_goals go_ret
            all_goals exact ⟨g3, c3, ⟨by rw [hRl.out]; rfl, own_mono hown hBw.size⟩, hBe⟩
          · have hgt1 : ¬ (m : Int) < (N.length : Int) := by omega
            have hRR : R = N := by rw [HR.out, HN]; unfold pushH; rw [Int.toNat_natCast, ← HN, List.take_of_length_le (by omega)]
            subst hRR
            clear HN HR
            go_wp2
            go_ret
            exact ⟨g3, c3, ⟨by rw [hNl]; rfl, own_mono own3 hBw.size⟩, hBe⟩
end Go.Proofs.Yteomiaffdbbpoaa
