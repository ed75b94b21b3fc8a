/-
  Contract of ruleAt.
-/
import Derived.Test.YtaobgliimbmemaaDoorSpecTerms
namespace Go.Proofs.YtaobgliimbmemaaDoor
open Go.RowKit Go.Sort
set_option linter.unusedVariables false

/-- the address of a rule. -/
def ptrY (A : Option Addr) (r : Option Nat) : Value := match r, A with | some k, some ⟨b, off, _⟩ => .pointer (some ⟨b, off + k * 2, none⟩) | _, _ => .pointer none
theorem begAt_drop {L : List TmD} {fr : List ByteArray} {a j : Nat} (hk : a + j < L.length) (hf : j < fr.length) : begAt (L.drop a) fr j = ((L[a + j].1.toList == fr[j].toList) && decide ((L[a + j].2 : Int) = (((L[a]'(by omega)).2 : Nat) : Int) + (j : Int))) := by
  have h1 : j < (L.drop a).length := by rw [List.length_drop]; omega
  rw [begAt_get h1 hf]
  have e1 : (L.drop a)[j] = L[a + j] := List.getElem_drop
  have e2 : (L.drop a)[0]'(by omega) = L[a]'(by omega) := by rw [List.getElem_drop]; rfl
  rw [e1, e2]
set_option maxRecDepth 30000 in
set_option maxHeartbeats 6400000 in
theorem ruleAt_any (d : ConfD) (A1 A2 A3 : Option Addr) (c1 c2 c3 : Nat) (L : List TmD) (a : Nat) (w : World) (h : HasC w d A1 c1 A2) (hs : SmC d) (hL : SrcE encTm 2 w A3 c3 L) (hsL : SmTm L) (ha : a < L.length) :
    Calls Tryd.prog 110 #[.agg #[.slice A1 d.st.length c1, .slice A2 d.sy.length c2], .slice A3 L.length c3, .int .i64 a] w fun e w' => e = .returned (ptrY A2 (ruleS d.sy (L.drop a) d.sy.length)) ∧ Below w.heap.size w w' := by
  obtain ⟨st, sy⟩ := d
  obtain ⟨hsT, hsl, hsY⟩ := hs
  dsimp only at hsl hsY ⊢
  have HSY := Lib.hid hsY
  obtain ⟨hsL1, hsL2⟩ := hsL
  have HSL := Lib.hid hsL2
  clear hsY hsT hsL2
  obtain ⟨hst, hsy⟩ := h
  dsimp only at hsy hst
  clear hst
  have HML : Hid ((L.drop a).length = L.length - a) := List.length_drop
  have HBD := Lib.hid (fun (fr : List ByteArray) j hk hf => begAt_drop (L := L) (fr := fr) (a := a) (j := j) hk hf)
  generalize L.drop a = M at HML HBD ⊢
  have hB0 : Below w.heap.size w (w.alloc (.cells #[.slice A1 st.length c1, .slice A2 sy.length c2] 44)) := by (repeat' (first | exact Below.refl _ _ | apply Below.alloc | apply Below.setCell | apply Below.drew | apply below_draws)) <;> (first | omega | (simp <;> omega))
  have f1 : (w.alloc (.cells #[.slice A1 st.length c1, .slice A2 sy.length c2] 44)).cell? ⟨w.heap.size, 1, none⟩ = some (.slice A2 sy.length c2) := by simp [go_sem]
  have hs0 : w.heap.size < (w.alloc (.cells #[.slice A1 st.length c1, .slice A2 sy.length c2] 44)).heap.size := by simp
  replace hsy := hsy.below hB0
  replace hL := hL.below hB0
  go_enter Tryd.func110, Tryd.ntmps110
  go_wp2_with fail
  generalize (w.alloc (.cells #[.slice A1 st.length c1, .slice A2 sy.length c2] 44)) = W0 at hB0 f1 hs0 hsy hL ⊢
  have hBw := hB0.size
  generalize hRw : w.heap.size = R0 at f1 hs0 ⊢
  go_loopw [7, 8, 9, 10, 11, 12, 13, 17, 56] (fun bv _ _ _ _ _ _ iv _ wr => ∃ k : Nat, k ≤ sy.length ∧ iv = .int .i64 k ∧ bv = ptrY A2 (ruleS sy M k) ∧ Below W0.heap.size W0 wr) (fun _ _ _ _ _ _ _ iv _ _ => sy.length - (intOf iv).toNat)
  case atStart => exact ⟨0, Nat.zero_le _, rfl, rfl, Below.refl _ _⟩
  case round =>
    obtain ⟨k, hk, rfl, rfl, hB⟩ := hrel
    obtain ⟨wo, hwo⟩ : ∃ wo, wo = wr := ⟨_, rfl⟩
    subst hwo
    have hBs := hB.size
    have g1 := (hB.cell (p := ⟨R0, 1, none⟩) hs0).trans f1
    by_cases hlt : k < sy.length
    · have hi0 : (k : Int) < (sy.length : Int) := by omega
      have hsy2 := hsy.below hB
      have hL2 := hL.below hB
      obtain ⟨b, off, B1, d1, rfl, hbb, x0, x1, hh⟩ := hsy2 k hlt
      have hsz := (HSY.out sy[k] (List.getElem_mem _)).1.1
      have e1 := ruleS_yes (sy := sy) (L := M) (k := k)
      have e2 := ruleS_no1 (sy := sy) (L := M) (k := k)
      have e3 := ruleS_no2 (sy := sy) (L := M) (k := k)
      rw [frAt_get hlt] at e1 e2
      have HE1 := Lib.hid e1
      have HE2 := Lib.hid e2
      have HE3 := Lib.hid e3
      have HLG : Hid (∀ j, ruleS sy M k = some j → longer sy (ruleS sy M k) k = decide ((frAt sy j).length < (frAt sy k).length)) := fun j h => by rw [h]; rfl
      have HLN : Hid (ruleS sy M k = none → longer sy (ruleS sy M k) k = true) := fun h => by rw [h]; rfl
      have HJK := Lib.hid (ruleS_lt sy M k)
      have m0 := cell_regrown x0
      have hwm : IntKind.i64.wrap ((L.length : Int) - (a : Int)) = ((L.length - a : Nat) : Int) := by rw [IntKind.wrap_i64]; omega
      clear e1 e2 e3 x1
      by_cases hsh : L.length - a < sy[k].fr.length
      · have HN : Hid (ruleS sy M (k + 1) = ruleS sy M k) := HE2.out (begB_short (by rw [HML.out]; omega))
        clear HE1 HE2 HE3 HLG HLN HJK
        generalize ruleS sy M k = r at HN ⊢
        go_wp2_with fail
        refine region_qw (by kernel_rfl) (by kernel_rfl) ?_
        repeat (
          refine qw_step (fun K hK => ?_)
          go_simp
          first
            | (refine hK _ ?_; clear hK K)
            | fail)
        refine qw_nil ?_
        intro _ hw'
        obtain ⟨⟨dq, osq⟩, hw''⟩ := hw'
        subst hw''
        have hBq := hB.trans ((below_regrown wo dq osq).mono (by have := hB.size; omega))
        go_wp2
        go_roundw
        case rel => exact ⟨k + 1, by omega, by go_num, by rw [HN.out], hBq⟩
        case measure => simp [intOf] <;> omega
      · have hd1 : decide (L.length - a < sy[k].fr.length) = false := decide_eq_false hsh
        have HBL : Hid (begB M sy[k].fr = begTo M sy[k].fr sy[k].fr.length) := begB_long (by rw [HML.out]; omega)
        cases hr : ruleS sy M k with
        | none =>
          have HY : Hid (begB M sy[k].fr = true → ruleS sy M (k + 1) = some k) := fun hb => HE1.out hb (HLN.out hr)
          have HNO : Hid (begB M sy[k].fr = false → ruleS sy M (k + 1) = none) := fun hb => by rw [HE2.out hb, hr]
          clear HE1 HE2 HE3 HLG HLN HJK hr
          have er : ptrY (some ⟨b, off, none⟩) none = .pointer none := rfl
          rw [er]
          clear er
          go_wp2_with fail
          refine region_qw (by kernel_rfl) (by kernel_rfl) ?_
          repeat (
            refine qw_step (fun K hK => ?_)
            go_simp
            first
              | (refine hK _ ?_; clear hK K)
              | fail)
          refine qw_nil ?_
          intro _ hw'
          obtain ⟨⟨dq, osq⟩, hw''⟩ := hw'
          subst hw''
          have hBq := hB.trans ((below_regrown wo dq osq).mono (by have := hB.size; omega))
          have x0q := (belowL (below_regrown wo dq osq) hbb).trans x0
          have hhq := hh.below (below_regrown wo dq osq)
          have hL3 := hL2.below (below_regrown wo dq osq)
          generalize grow (redrawn wo dq) osq = wp at hBq x0q hhq hL3 ⊢
          clear m0 x0 hh hL2
          generalize hfr : sy[k].fr = fr at x0q hhq hsz hsh HBL HY HNO ⊢
          go_wp2_with fail
          go_loopw [10, 11, 12, 13, 56] (fun fv _ _ _ jv wv => ∃ i : Nat, i ≤ fr.length ∧ jv = .int .i64 i ∧ fv = .bool (begTo M fr i) ∧ Below wp.heap.size wp wv) (fun _ _ _ _ jv _ => fr.length - (intOf jv).toNat)
          case atStart => exact ⟨0, Nat.zero_le _, rfl, rfl, Below.refl _ _⟩
          case round =>
            obtain ⟨i, hi, rfl, rfl, hBi⟩ := hrel
            obtain ⟨wv, hwv⟩ : ∃ wv, wv = wr := ⟨_, rfl⟩
            subst hwv
            by_cases hlti : i < fr.length
            · have hi1 : (i : Int) < (fr.length : Int) := by omega
              have hal : a + i < L.length := by omega
              have hi2 : ((a : Int) + (i : Int)) < (L.length : Int) := by omega
              have hL4 := hL3.below hBi
              obtain ⟨b3, off3, rfl, hb3, t0, t1⟩ := hL4.atTm hal
              obtain ⟨_, _, t3⟩ := hL4.allTm ha
              obtain ⟨b4, off4, rfl, hb4, z0⟩ := (hhq.below hBi).atT hlti
              have hbg := HBD.out fr i hal hlti
              have hsuc := begTo_succ M fr i
              rw [hbg] at hsuc
              have hla := HSL.out L[a] (List.getElem_mem _)
              clear hbg hL4
              generalize L[a + i].1 = tx at t0 hsuc
              generalize L[a + i].2 = ta at t1 hsuc
              generalize (L[a]'(by omega)).2 = t2 at t3 hsuc hla
              generalize fr[i] = fx at z0 hsuc
              generalize begTo M fr i = B at hsuc ⊢
              have HSUC := Lib.hid hsuc
              clear hsuc
              have hwm3 : IntKind.i64.wrap ((t2 : Int) + (i : Int)) = (t2 : Int) + (i : Int) := by rw [IntKind.wrap_i64]; omega
              have hb5 : Below wv.heap.size wv (wv.alloc (.cells #[.string tx, .int .i64 (ta : Int)] 108)) := (Below.refl _ _).alloc (Nat.le_refl _) _
              have u0 : (wv.alloc (.cells #[.string tx, .int .i64 (ta : Int)] 108)).cell? ⟨wv.heap.size, 0, none⟩ = some (.string tx) := by simp [go_sem]
              have u1 : (wv.alloc (.cells #[.string tx, .int .i64 (ta : Int)] 108)).cell? ⟨wv.heap.size, 1, none⟩ = some (.int .i64 (ta : Int)) := by simp [go_sem]
              have t5 := (belowL hb5 hb3).trans t3
              have hBi2 := hBi.trans (hb5.mono hBi.size)
              go_wp2_with fail
              generalize (wv.alloc (.cells #[.string tx, .int .i64 (ta : Int)] 108)) = wz at u0 u1 t5 hBi2 ⊢
              have p0 := cell_regrown u0
              have p1 := cell_regrown u1
              have p2 := cell_regrown t5
              clear hb5 t0 t1 t3 z0
              cases B with
              | false =>
                have HM : Hid (begTo M fr (i + 1) = false) := HSUC.out
                clear HSUC
                refine region_qw (by kernel_rfl) (by kernel_rfl) ?_
                repeat (
                  refine qw_step (fun K hK => ?_)
                  go_simp
                  first
                    | (refine hK _ ?_; clear hK K)
                    | fail)
                refine qw_nil ?_
                intro _ hw'
                obtain ⟨⟨dq, osq⟩, hw''⟩ := hw'
                subst hw''
                have hBq := hBi2.trans ((below_regrown wz dq osq).mono (by have := hBi2.size; omega))
                go_wp2
                go_roundw
                case rel => exact ⟨i + 1, by omega, by go_num, by rw [HM.out], hBq⟩
                case measure => simp [intOf] <;> omega
              | true =>
                cases hq : (tx.toList == fx.toList) with
                | false =>
                  have HM : Hid (begTo M fr (i + 1) = false) := by show _ = _; rw [HSUC.out, hq]; rfl
                  clear HSUC
                  refine region_qw (by kernel_rfl) (by kernel_rfl) ?_
                  repeat (
                    refine qw_step (fun K hK => ?_)
                    go_simp
                    first
                      | (refine hK _ ?_; clear hK K)
                      | fail)
                  refine qw_nil ?_
                  intro _ hw'
                  obtain ⟨⟨dq, osq⟩, hw''⟩ := hw'
                  subst hw''
                  have hBq := hBi2.trans ((below_regrown wz dq osq).mono (by have := hBi2.size; omega))
                  go_wp2
                  go_roundw
                  case rel => exact ⟨i + 1, by omega, by go_num, by rw [HM.out], hBq⟩
                  case measure => simp [intOf] <;> omega
                | true =>
                  by_cases hA : (ta : Int) = (t2 : Int) + (i : Int)
                  · have HM : Hid (begTo M fr (i + 1) = true) := by show _ = _; rw [HSUC.out, hq, decide_eq_true hA]; rfl
                    rw [hA] at p1
                    clear HSUC hA u1 hBi
                    refine region_qw (by kernel_rfl) (by kernel_rfl) ?_
                    repeat (
                      refine qw_step (fun K hK => ?_)
                      go_simp
                      first
                        | (refine hK _ ?_; clear hK K)
                        | fail)
                    refine qw_nil ?_
                    intro _ hw'
                    obtain ⟨⟨dq, osq⟩, hw''⟩ := hw'
                    subst hw''
                    have hBq := hBi2.trans ((below_regrown wz dq osq).mono (by have := hBi2.size; omega))
                    go_wp2
                    go_roundw
                    case rel => exact ⟨i + 1, by omega, by go_num, by rw [HM.out], hBq⟩
                    case measure => simp [intOf] <;> omega
                  · have HM : Hid (begTo M fr (i + 1) = false) := by show _ = _; rw [HSUC.out, hq, decide_eq_false hA]; rfl
                    have hA2 : ((ta : Int) == (t2 : Int) + (i : Int)) = false := by rw [beq_eq_false_iff_ne]; exact hA
                    clear HSUC hA
                    refine region_qw (by kernel_rfl) (by kernel_rfl) ?_
                    repeat (
                      refine qw_step (fun K hK => ?_)
                      go_simp
                      first
                        | (refine hK _ ?_; clear hK K)
                        | fail)
                    refine qw_nil ?_
                    intro _ hw'
                    obtain ⟨⟨dq, osq⟩, hw''⟩ := hw'
                    subst hw''
                    have hBq := hBi2.trans ((below_regrown wz dq osq).mono (by have := hBi2.size; omega))
                    go_wp2
                    go_roundw
                    case rel => exact ⟨i + 1, by omega, by go_num, by rw [HM.out], hBq⟩
                    case measure => simp [intOf] <;> omega
            · obtain rfl : i = fr.length := by omega
              have hBq2 := hBq.trans (hBi.mono hBq.size)
              cases hf : begTo M fr fr.length with
              | true =>
                have HM : Hid (ruleS sy M (k + 1) = some k) := HY.out (by rw [HBL.out, hf])
                clear HY HNO HBL hf
                go_wp2
                go_roundw
                case rel => exact ⟨k + 1, by omega, by go_num, by rw [HM.out]; rfl, hBq2⟩
                case measure => simp [intOf] <;> omega
              | false =>
                have HM : Hid (ruleS sy M (k + 1) = none) := HNO.out (by rw [HBL.out, hf])
                clear HY HNO HBL hf
                go_wp2
                go_roundw
                case rel => exact ⟨k + 1, by omega, by go_num, by rw [HM.out]; rfl, hBq2⟩
                case measure => simp [intOf] <;> omega
        | some j =>
          have hjl : j < k := HJK.out j hr
          have hlg2 := HLG.out j hr
          rw [frAt_get hlt, frAt_get (show j < sy.length by omega)] at hlg2
          obtain ⟨B2, d2, _, y0, _⟩ := hsy2.all (show j < sy.length by omega)
          have m2 := cell_regrown y0
          clear y0
          have er : ptrY (some ⟨b, off, none⟩) (some j) = .pointer (some ⟨b, off + j * 2, none⟩) := rfl
          rw [er]
          clear er
          by_cases hlong : sy[k].fr.length ≤ (sy[j]'(by omega)).fr.length
          · have HN : Hid (ruleS sy M (k + 1) = some j) := by show _ = _; rw [HE3.out (by rw [hlg2, decide_eq_false (by omega)]), hr]
            clear HE1 HE2 HE3 HLG HLN HJK hr hlg2
            go_wp2_with fail
            refine region_qw (by kernel_rfl) (by kernel_rfl) ?_
            repeat (
              refine qw_step (fun K hK => ?_)
              go_simp
              first
                | (refine hK _ ?_; clear hK K)
                | fail)
            refine qw_nil ?_
            intro _ hw'
            obtain ⟨⟨dq, osq⟩, hw''⟩ := hw'
            subst hw''
            have hBq := hB.trans ((below_regrown wo dq osq).mono (by have := hB.size; omega))
            go_wp2
            go_roundw
            case rel => exact ⟨k + 1, by omega, by go_num, by rw [HN.out]; rfl, hBq⟩
            case measure => simp [intOf] <;> omega
          · have hd2 : decide (sy[k].fr.length ≤ (sy[j]'(by omega)).fr.length) = false := decide_eq_false hlong
            have HY : Hid (begB M sy[k].fr = true → ruleS sy M (k + 1) = some k) := fun hb => HE1.out hb (by rw [hlg2, decide_eq_true (by omega)])
            have HNO : Hid (begB M sy[k].fr = false → ruleS sy M (k + 1) = some j) := fun hb => by rw [HE2.out hb, hr]
            clear HE1 HE2 HE3 HLG HLN HJK hr hlg2
            go_wp2_with fail
            refine region_qw (by kernel_rfl) (by kernel_rfl) ?_
            repeat (
              refine qw_step (fun K hK => ?_)
              go_simp
              first
                | (refine hK _ ?_; clear hK K)
                | fail)
            refine qw_nil ?_
            intro _ hw'
            obtain ⟨⟨dq, osq⟩, hw''⟩ := hw'
            subst hw''
            have hBq := hB.trans ((below_regrown wo dq osq).mono (by have := hB.size; omega))
            have x0q := (belowL (below_regrown wo dq osq) hbb).trans x0
            have hhq := hh.below (below_regrown wo dq osq)
            have hL3 := hL2.below (below_regrown wo dq osq)
            generalize grow (redrawn wo dq) osq = wp at hBq x0q hhq hL3 ⊢
            clear m0 x0 hh hL2
            generalize hfr : sy[k].fr = fr at x0q hhq hsz hsh HBL HY HNO ⊢
            go_wp2_with fail
            go_loopw [10, 11, 12, 13, 56] (fun fv _ _ _ jv wv => ∃ i : Nat, i ≤ fr.length ∧ jv = .int .i64 i ∧ fv = .bool (begTo M fr i) ∧ Below wp.heap.size wp wv) (fun _ _ _ _ jv _ => fr.length - (intOf jv).toNat)
            case atStart => exact ⟨0, Nat.zero_le _, rfl, rfl, Below.refl _ _⟩
            case round =>
              obtain ⟨i, hi, rfl, rfl, hBi⟩ := hrel
              obtain ⟨wv, hwv⟩ : ∃ wv, wv = wr := ⟨_, rfl⟩
              subst hwv
              by_cases hlti : i < fr.length
              · have hi1 : (i : Int) < (fr.length : Int) := by omega
                have hal : a + i < L.length := by omega
                have hi2 : ((a : Int) + (i : Int)) < (L.length : Int) := by omega
                have hL4 := hL3.below hBi
                obtain ⟨b3, off3, rfl, hb3, t0, t1⟩ := hL4.atTm hal
                obtain ⟨_, _, t3⟩ := hL4.allTm ha
                obtain ⟨b4, off4, rfl, hb4, z0⟩ := (hhq.below hBi).atT hlti
                have hbg := HBD.out fr i hal hlti
                have hsuc := begTo_succ M fr i
                rw [hbg] at hsuc
                have hla := HSL.out L[a] (List.getElem_mem _)
                clear hbg hL4
                generalize L[a + i].1 = tx at t0 hsuc
                generalize L[a + i].2 = ta at t1 hsuc
                generalize (L[a]'(by omega)).2 = t2 at t3 hsuc hla
                generalize fr[i] = fx at z0 hsuc
                generalize begTo M fr i = B at hsuc ⊢
                have HSUC := Lib.hid hsuc
                clear hsuc
                have hwm3 : IntKind.i64.wrap ((t2 : Int) + (i : Int)) = (t2 : Int) + (i : Int) := by rw [IntKind.wrap_i64]; omega
                have hb5 : Below wv.heap.size wv (wv.alloc (.cells #[.string tx, .int .i64 (ta : Int)] 108)) := (Below.refl _ _).alloc (Nat.le_refl _) _
                have u0 : (wv.alloc (.cells #[.string tx, .int .i64 (ta : Int)] 108)).cell? ⟨wv.heap.size, 0, none⟩ = some (.string tx) := by simp [go_sem]
                have u1 : (wv.alloc (.cells #[.string tx, .int .i64 (ta : Int)] 108)).cell? ⟨wv.heap.size, 1, none⟩ = some (.int .i64 (ta : Int)) := by simp [go_sem]
                have t5 := (belowL hb5 hb3).trans t3
                have hBi2 := hBi.trans (hb5.mono hBi.size)
                go_wp2_with fail
                generalize (wv.alloc (.cells #[.string tx, .int .i64 (ta : Int)] 108)) = wz at u0 u1 t5 hBi2 ⊢
                have p0 := cell_regrown u0
                have p1 := cell_regrown u1
                have p2 := cell_regrown t5
                clear hb5 t0 t1 t3 z0
                cases B with
                | false =>
                  have HM : Hid (begTo M fr (i + 1) = false) := HSUC.out
                  clear HSUC
                  refine region_qw (by kernel_rfl) (by kernel_rfl) ?_
                  repeat (
                    refine qw_step (fun K hK => ?_)
                    go_simp
                    first
                      | (refine hK _ ?_; clear hK K)
                      | fail)
                  refine qw_nil ?_
                  intro _ hw'
                  obtain ⟨⟨dq, osq⟩, hw''⟩ := hw'
                  subst hw''
                  have hBq := hBi2.trans ((below_regrown wz dq osq).mono (by have := hBi2.size; omega))
                  go_wp2
                  go_roundw
                  case rel => exact ⟨i + 1, by omega, by go_num, by rw [HM.out], hBq⟩
                  case measure => simp [intOf] <;> omega
                | true =>
                  cases hq : (tx.toList == fx.toList) with
                  | false =>
                    have HM : Hid (begTo M fr (i + 1) = false) := by show _ = _; rw [HSUC.out, hq]; rfl
                    clear HSUC
                    refine region_qw (by kernel_rfl) (by kernel_rfl) ?_
                    repeat (
                      refine qw_step (fun K hK => ?_)
                      go_simp
                      first
                        | (refine hK _ ?_; clear hK K)
                        | fail)
                    refine qw_nil ?_
                    intro _ hw'
                    obtain ⟨⟨dq, osq⟩, hw''⟩ := hw'
                    subst hw''
                    have hBq := hBi2.trans ((below_regrown wz dq osq).mono (by have := hBi2.size; omega))
                    go_wp2
                    go_roundw
                    case rel => exact ⟨i + 1, by omega, by go_num, by rw [HM.out], hBq⟩
                    case measure => simp [intOf] <;> omega
                  | true =>
                    by_cases hA : (ta : Int) = (t2 : Int) + (i : Int)
                    · have HM : Hid (begTo M fr (i + 1) = true) := by show _ = _; rw [HSUC.out, hq, decide_eq_true hA]; rfl
                      rw [hA] at p1
                      clear HSUC hA u1 hBi
                      refine region_qw (by kernel_rfl) (by kernel_rfl) ?_
                      repeat (
                        refine qw_step (fun K hK => ?_)
                        go_simp
                        first
                          | (refine hK _ ?_; clear hK K)
                          | fail)
                      refine qw_nil ?_
                      intro _ hw'
                      obtain ⟨⟨dq, osq⟩, hw''⟩ := hw'
                      subst hw''
                      have hBq := hBi2.trans ((below_regrown wz dq osq).mono (by have := hBi2.size; omega))
                      go_wp2
                      go_roundw
                      case rel => exact ⟨i + 1, by omega, by go_num, by rw [HM.out], hBq⟩
                      case measure => simp [intOf] <;> omega
                    · have HM : Hid (begTo M fr (i + 1) = false) := by show _ = _; rw [HSUC.out, hq, decide_eq_false hA]; rfl
                      have hA2 : ((ta : Int) == (t2 : Int) + (i : Int)) = false := by rw [beq_eq_false_iff_ne]; exact hA
                      clear HSUC hA
                      refine region_qw (by kernel_rfl) (by kernel_rfl) ?_
                      repeat (
                        refine qw_step (fun K hK => ?_)
                        go_simp
                        first
                          | (refine hK _ ?_; clear hK K)
                          | fail)
                      refine qw_nil ?_
                      intro _ hw'
                      obtain ⟨⟨dq, osq⟩, hw''⟩ := hw'
                      subst hw''
                      have hBq := hBi2.trans ((below_regrown wz dq osq).mono (by have := hBi2.size; omega))
                      go_wp2
                      go_roundw
                      case rel => exact ⟨i + 1, by omega, by go_num, by rw [HM.out], hBq⟩
                      case measure => simp [intOf] <;> omega
              · obtain rfl : i = fr.length := by omega
                have hBq2 := hBq.trans (hBi.mono hBq.size)
                cases hf : begTo M fr fr.length with
                | true =>
                  have HM : Hid (ruleS sy M (k + 1) = some k) := HY.out (by rw [HBL.out, hf])
                  clear HY HNO HBL hf
                  go_wp2
                  go_roundw
                  case rel => exact ⟨k + 1, by omega, by go_num, by rw [HM.out]; rfl, hBq2⟩
                  case measure => simp [intOf] <;> omega
                | false =>
                  have HM : Hid (ruleS sy M (k + 1) = some j) := HNO.out (by rw [HBL.out, hf])
                  clear HY HNO HBL hf
                  go_wp2
                  go_roundw
                  case rel => exact ⟨k + 1, by omega, by go_num, by rw [HM.out]; rfl, hBq2⟩
                  case measure => simp [intOf] <;> omega
    · obtain rfl : k = sy.length := by omega
      go_wp2
      go_ret
      exact ⟨rfl, by subst hRw; exact hB0.trans (hB.mono hBw)⟩
end Go.Proofs.YtaobgliimbmemaaDoor
