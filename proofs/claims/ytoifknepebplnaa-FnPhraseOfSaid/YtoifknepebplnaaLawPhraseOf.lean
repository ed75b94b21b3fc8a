/-
  The walk of FnPhraseOf.
-/
import Derived.Test.YtoifknepebplnaaDrawPl
import Derived.Test.YtoifknepebplnaaPhraseLaw
namespace Go.Proofs.Ytoifknepebplnaa
open Go.RowKit
set_option linter.unusedVariables false

theorem foInts_same (A A' : Option Addr) (c c' : Nat) (L : List Int) (w : World) (h : RdI w A L) (h' : RdI w A' L) (hn : L.length ≤ 4194304) :
    Calls Try.prog 25 #[.slice A L.length c, .slice A' L.length c'] w fun e w' => e = .returned (.bool true) ∧ Below w.heap.size w w' := by
  refine (foInts_any A A' c c' L L w h h' (by omega) (by omega)).mono ?_
  rintro e w' ⟨rfl, q, rfl⟩
  exact ⟨ret_bool (by simp), below_of_drewN⟩
theorem total_le {Ls : List (List Int)} (n : Nat) (h : ∀ L ∈ Ls, L.length ≤ n) : total Ls ≤ Ls.length * (n + 1) := by
  unfold total
  induction Ls with
  | nil => simp
  | cons L r ih =>
    have h1 := h L (List.mem_cons_self ..)
    have h2 := ih (fun M hM => h M (List.mem_cons_of_mem _ hM))
    rw [List.map_cons, List.sum_cons, List.length_cons, Nat.add_mul r.length]
    omega
theorem phr_not {Ls : List (List Int)} (slop : Int) {k : Nat} (hk : k < Ls.length) (h : upB Ls[k] = false) : phrI Ls slop = [] := by
  have : allUp Ls = false := by
    unfold allUp
    rw [← Bool.not_eq_true, List.all_eq_true]
    intro hh
    have := hh _ (List.getElem_mem hk)
    rw [h] at this; cases this
  unfold phrI placesB listsB
  rw [this]; simp
theorem phr_zero {Ls : List (List Int)} (h : placesB Ls = true) : phrI Ls 0 = (Ls.getD 0 []).filter (fun p => runK Ls p Ls.length) := by
  unfold phrI
  rw [h, show wi 0 0 5 = true from rfl, Bool.and_true, if_pos rfl]
  exact List.filter_congr (fun p hp => run_is h hp)

set_option maxHeartbeats 1600000 in
theorem walk_FnPhraseOf (a0 : Option Addr) (len cap : Nat) (zs : List Int) (w : World) (hrow : IsRow .u8 w a0 len cap zs) :
    Calls Try.prog 6 #[.slice a0 len cap] w fun e w' => e = .returned (.bool true) ∧ Below w.heap.size w w' := by
  obtain ⟨hc1, hc2, _⟩ := code_of_row hrow
  by_cases hbig : (1048576 : Int) < (len : Int)
  · go_enter Try.func6, Try.ntmps6
    go_wp2
    go_ret
    exact ⟨rfl, Below.refl _ _⟩
  · go_enter Try.func6, Try.ntmps6
    go_wp2_with fail
    refine (drawPhraseOf_any a0 len cap zs _ hrow).mono ?_
    rintro e w0 ⟨B, d, Ls, slop, ⟨rfl, hl1, hl5, hL4, hm0, hm6, hS, hcd, hcd2⟩, hB0⟩
    clear hrow
    have hn : total Ls ≤ 1048576 := by have := total_le 4 hL4; omega
    obtain ⟨X, hX⟩ : ∃ X, X = phrI Ls slop := ⟨_, rfl⟩
    have hXl : X.length ≤ 1048576 := by rw [hX]; exact phrI_len Ls slop hn
    have ci := fun A c w h => phraseOf_any A c Ls slop w h hn
    have cs := fun A c w h => specPhraseOf_phr A c Ls slop w h hn
    rw [← hX] at ci cs
    have CI := Lib.hid ci
    have CS := Lib.hid cs
    have HX := Lib.hid hX
    have HL := Lib.hid hL4
    clear hX ci cs hL4
    go_wp2_with fail
    refine (CI.out _ _ _ hS hcd hcd2).mono ?_
    rintro e w1 ⟨b1, d1, ⟨rfl, rX⟩, hb⟩
    replace hS := hS.below hb
    have hB1 := hB0.trans (hb.mono hB0.size)
    clear hb hB0
    go_wp2_with fail
    refine (CS.out _ _ _ hS hcd hcd2).mono ?_
    rintro e w2 ⟨b2, d2, ⟨rfl, rS⟩, hb⟩
    replace hS := hS.below hb
    replace rX := own_below rX hb
    have hB2 := hB1.trans (hb.mono hB1.size)
    clear hb hB1
    go_wp2_with fail
    refine (foInts_same _ _ _ _ X _ (Rds.own rX) (Rds.own rS) (by omega)).mono ?_
    rintro e w3 ⟨rfl, hb⟩
    replace hS := hS.below hb
    replace rX := own_below rX hb
    have hB3 := hB2.trans (hb.mono hB2.size)
    clear hb hB2 rS
    by_cases hm1 : 5 < slop
    · go_wp2_with fail
      refine (CS.out _ _ _ hS hcd hcd2).mono ?_
      rintro e w4 ⟨b4, d4, ⟨rfl, rT⟩, hb⟩
      replace rX := own_below rX hb
      have hB4 := hB3.trans (hb.mono hB3.size)
      clear hb hB3
      go_wp2_with fail
      refine (foInts_same _ _ _ _ X _ (Rds.own rX) (Rds.own rT) (by omega)).mono ?_
      rintro e w5 ⟨rfl, hb⟩
      have hB5 := hB4.trans (hb.mono hB4.size)
      go_wp2
      go_ret
      exact ⟨rfl, hB5⟩
    · go_wp2_with fail
      go_loopw [6] (fun i wr => ∃ k : Nat, k ≤ Ls.length ∧ i = .int .i64 k ∧ Hid (allUp Ls = allUp (Ls.drop k)) ∧ ∃ q, wr = w3.drewN q) (fun i _ => Ls.length - (intOf i).toNat)
      case atStart => exact ⟨0, Nat.zero_le _, rfl, rfl, 0, rfl⟩
      case round =>
        obtain ⟨k, hk, rfl, hu, q, rfl⟩ := hrel
        by_cases hlt : k < Ls.length
        · obtain ⟨b, off, B', d', e, hb, hc, hs⟩ := hS k hlt
          simp only [Option.some.injEq, Addr.mk.injEq, and_true] at e
          obtain ⟨rfl, rfl⟩ := e
          rw [Nat.zero_add] at hc
          have hi0 : (k : Int) < (Ls.length : Int) := by omega
          have hLk := HL.out Ls[k] (List.getElem_mem _)
          have hd := allUp_drop hlt
          have hno := phr_not slop hlt
          generalize Ls[k] = L at hc hs hLk hd hno
          cases hul : upB L with
          | true =>
            have HD : Hid (allUp Ls = allUp (Ls.drop (k + 1))) := by show _ = _; rw [hu.out, hd, hul, Bool.true_and]
            clear hd hu hno
            go_wp2_with fail
            refine (upOk_any B' d' L _ (hs.1.drawn _) (by omega)).mono ?_
            rintro e w4 ⟨rfl, q2, rfl⟩
            rw [hul]
            go_wp2
            go_roundw
            case rel => exact ⟨k + 1, by omega, by go_num, HD, _, (by first | rfl | exact World.drewN_drewN _ _ _)⟩
            case measure => simp [intOf]; omega
          | false =>
            have hz : X.length = 0 := by rw [HX.out, hno hul]; rfl
            have hz2 : ((X.length : Int) == 0) = true := by simp [hz]
            clear hd hu hno hz
            go_wp2_with fail
            refine (upOk_any B' d' L _ (hs.1.drawn _) (by omega)).mono ?_
            rintro e w4 ⟨rfl, q2, rfl⟩
            rw [hul]
            go_wp2
            go_ret
            exact ⟨ret_bool (by first | rfl | exact hz2), hB3.trans ((below_of_drewN).mono hB3.size)⟩
        · have hU : placesB Ls = true := by unfold placesB listsB; rw [hu.out, List.drop_of_length_le (by omega), decide_eq_true (by omega : 0 < Ls.length), decide_eq_true (by omega : Ls.length ≤ 6)]; rfl
          obtain ⟨W4, hW4⟩ : ∃ W4, W4 = w3.drewN q := ⟨_, rfl⟩
          have hb4 : Below w3.heap.size w3 W4 := by rw [hW4]; exact below_of_drewN
          rw [← hW4]
          clear hW4 hu
          replace hS := hS.below hb4
          replace rX := own_below rX hb4
          have hB4 := hB3.trans (hb4.mono hB3.size)
          clear hb4 hB3
          have hL0 : 0 < Ls.length := by omega
          obtain ⟨b, off, A0, c0, e, hb, y0, hs0⟩ := hS 0 hL0
          simp only [Option.some.injEq, Addr.mk.injEq, and_true] at e
          obtain ⟨rfl, rfl⟩ := e
          have h00 : Ls.getD 0 [] = Ls[0] := by rw [List.getD_eq_getElem?_getD, List.getElem?_eq_getElem hL0]; rfl
          have hfew := phr_zero hU
          have hin : ∀ x ∈ X, x ∈ Ls.getD 0 [] := fun x hx => by rw [HX.out] at hx; exact phr_mem hx
          have hnone : ∀ x ∈ phrI Ls 0, x ∈ X := fun x hx => by rw [HX.out]; exact phr_more hm0 (by omega) hx
          have hmore : slop ≤ 4 → ∀ x ∈ X, x ∈ phrI Ls (slop + 1) := fun h4 x hx => by rw [HX.out] at hx; exact phr_more (by omega) (by omega) hx
          have hUP := (places_up hU).1
          rw [h00] at hfew hin
          have hPl := HL.out Ls[0] (List.getElem_mem _)
          have hPb := up_b (hUP Ls[0] (List.getElem_mem _))
          generalize Ls[0] = P at y0 hs0 hfew hin hPl hPb
          have hNl := phrI_len Ls 0 hn
          have hMl := phrI_len Ls (slop + 1) hn
          have cn := fun A c w h => phraseOf_any A c Ls 0 w h hn
          have cm := fun A c w h => phraseOf_any A c Ls (slop + 1) w h hn
          have HPb := Lib.hid hPb
          obtain ⟨N, hN⟩ : ∃ N, N = phrI Ls 0 := ⟨_, rfl⟩
          rw [← hN] at cn hNl hfew hnone
          obtain ⟨M, hM⟩ : ∃ M, M = phrI Ls (slop + 1) := ⟨_, rfl⟩
          rw [← hM] at cm hMl hmore
          have CN := Lib.hid cn
          have CM := Lib.hid cm
          have HF := Lib.hid hfew
          have HIN := Lib.hid hin
          have HNone := Lib.hid hnone
          have HMore := Lib.hid hmore
          have Y0 := Lib.hid y0
          have ownF := ownI_made W4 W4.heap.size (Nat.le_refl _)
          clear cn cm hN hM hfew hin hnone hmore hPb hUP h00 hU CI CS y0 HX
          go_wp2_with fail
          go_loopw [7, 8, 9, 10] (fun v iv _ _ wr => ∃ i : Nat, i ≤ P.length ∧ iv = .int .i64 i ∧ ∃ F, Hid (F = (P.take i).filter (fun p => runK Ls p Ls.length)) ∧ ∃ gF cF, v = .slice (some ⟨gF, 0, none⟩) F.length cF ∧ OwnI wr W4.heap.size (.slice (some ⟨gF, 0, none⟩) F.length cF) F ∧ Below W4.heap.size W4 wr) (fun _ iv _ _ _ => P.length - (intOf iv).toNat)
          case atStart => exact ⟨0, Nat.zero_le _, rfl, [], rfl, _, _, rfl, ownF, by (repeat' (first | exact Below.refl _ _ | apply Below.alloc | apply Below.setCell | apply Below.drew | apply below_draws)) <;> (first | omega | (simp <;> omega))⟩
          case round =>
            obtain ⟨i, hi, rfl, F, hF, gF, cF, rfl, own, hBF⟩ := hrel
            have hFl : F.length ≤ P.length := by rw [hF.out]; exact filter_len _ _ _
            have hFs := hBF.size
            have x0 : wr.cell? ⟨B, 0, none⟩ = some (.slice A0 P.length c0) := (hBF.cell (p := ⟨B, 0, none⟩) hb).trans Y0.out
            have hS2 := hS.below hBF
            by_cases hlt2 : i < P.length
            · obtain ⟨b2, off2, rfl, hb2, x1⟩ := (hs0.below hBF).1.at1 hlt2
              have hpb := HPb.out P[i] (List.getElem_mem _)
              have hi0 : (i : Int) < (P.length : Int) := by omega
              have hyes := filter_yes (p := fun p => runK Ls p Ls.length) hlt2
              have hno := filter_no (p := fun p => runK Ls p Ls.length) hlt2
              generalize P[i] = p at x1 hyes hno hpb
              have HYES := Lib.hid hyes
              have HNO := Lib.hid hno
              obtain ⟨hp0, hp1⟩ := hpb
              clear hyes hno
              obtain ⟨W5, rfl⟩ : ∃ W5 : World, W5 = wr := ⟨_, rfl⟩
              go_wp2_with fail
              go_loopw [9, 10] (fun ov kv wr => ∃ k : Nat, k ≤ Ls.length ∧ kv = .int .i64 k ∧ (∃ o : Bool, ov = .bool o ∧ Hid (o = runK Ls p k)) ∧ ∃ q, wr = W5.drewN q) (fun _ kv _ => Ls.length - (intOf kv).toNat)
              case atStart => exact ⟨0, Nat.zero_le _, rfl, ⟨true, rfl, rfl⟩, 0, rfl⟩
              case round =>
                obtain ⟨k, hk, rfl, ⟨o, rfl, ho⟩, q4, rfl⟩ := hrel
                by_cases hlk : k < Ls.length
                · have hk0 : (k : Int) < (Ls.length : Int) := by omega
                  have hrs := runK_succ (p := p) hlk
                  cases o with
                  | true =>
                    obtain ⟨b', off', B', d', e, hb', hc, hs⟩ := hS2 k hlk
                    simp only [Option.some.injEq, Addr.mk.injEq, and_true] at e
                    obtain ⟨rfl, rfl⟩ := e
                    rw [Nat.zero_add] at hc
                    have hLk := HL.out Ls[k] (List.getElem_mem _)
                    generalize Ls[k] = L at hc hs hLk hrs
                    obtain ⟨z, hz⟩ : ∃ z, z = inB L (p + k) := ⟨_, rfl⟩
                    have HO : Hid (z = runK Ls p (k + 1)) := by show _ = _; rw [hrs, ← ho.out, hz]; rfl
                    have cI := fun A c w h h2 => foIn_any A c L (p + k) w h h2
                    rw [← hz] at cI
                    have CIn := Lib.hid cI
                    clear hrs ho hz cI
                    have hw1 : IntKind.i64.wrap (p + (k : Int)) = p + k := IntWalk.i64_in _ (by omega)
                    go_wp2_with fail
                    go_quiet ((go_at_call 28; first | exact qsame (CIn.out _ _ _ (hs.1.drawn _) (by omega)) | exact qsame2 (CIn.out _ _ _ (hs.1.drawn _) (by omega))))
                    go_wp2
                    go_roundw
                    case rel => exact ⟨k + 1, by omega, by go_num, ⟨z, rfl, HO⟩, _, (by first | rfl | exact World.drewN_drewN _ _ _)⟩
                    case measure => simp [intOf]; omega
                  | false =>
                    have HO : Hid (false = runK Ls p (k + 1)) := by show _ = _; rw [hrs, ← ho.out]; rfl
                    clear hrs ho
                    go_wp2_with fail
                    go_quiet (fail)
                    go_wp2
                    go_roundw
                    case rel => exact ⟨k + 1, by omega, by go_num, ⟨false, rfl, HO⟩, _, (by first | rfl | exact World.drewN_drewN _ _ _)⟩
                    case measure => simp [intOf]; omega
                · obtain rfl : k = Ls.length := by omega
                  have hB5 : Below W4.heap.size W4 (W5.drewN q4) := hBF.trans ((below_of_drewN).mono hFs)
                  have own5 := own_drawn (q := q4) own
                  cases o with
                  | true =>
                    have hK : Hid (F ++ [p] = (P.take (i + 1)).filter (fun p => runK Ls p Ls.length)) := by show _ = _; rw [HYES.out ho.out.symm, hF.out]
                    clear hF HYES HNO ho
                    go_wp2_with (at_builtin; refine append_at rfl _ _ rfl W4.heap.size _ _ _ F rfl rfl (own5.alloc _) _ _ _ [p] rfl rfl (Src.lit _ p) (by simp; omega) (by simp; omega) ?_)
                    intro G hG g6 c6 w6 own6 hg6 hat6 hb6
                    have hB6 : Below W4.heap.size W4 w6 := hB5.trans (Below.trans (by (repeat' (first | exact Below.refl _ _ | apply Below.alloc | apply Below.setCell | apply Below.drew | apply below_draws)) <;> (first | omega | (simp <;> omega))) hb6)
                    have HG : G = (P.take (i + 1)).filter (fun p => runK Ls p Ls.length) := by rw [← hK.out]; exact hG.out
                    clear hG hK hat6 hg6 hb6 hB5 own5 own hBF
                    go_wp2
                    go_roundw
                    case rel => exact ⟨i + 1, by omega, by go_num, G, HG, g6, c6, rfl, own6, hB6⟩
                    case measure => simp [intOf]; omega
                  | false =>
                    have hK : Hid (F = (P.take (i + 1)).filter (fun p => runK Ls p Ls.length)) := by show _ = _; rw [HNO.out ho.out.symm, hF.out]
                    clear hF HYES HNO ho
                    go_wp2
                    go_roundw
                    case rel => exact ⟨i + 1, by omega, by go_num, F, hK.out, gF, cF, rfl, own5, hB5⟩
                    case measure => simp [intOf]; omega
            · have eF : F = N := by rw [hF.out, HF.out, List.take_of_length_le (by omega)]
              clear hF HF
              subst eF
              obtain ⟨W5, rfl⟩ : ∃ W5 : World, W5 = wr := ⟨_, rfl⟩
              have rX5 := own_below rX hBF
              have hB5 := hB4.trans (hBF.mono hB4.size)
              have hX5 := Rds.own rX5
              have hP5 := (hs0.below hBF).1
              clear hS rX hBF hB4 hs0 ownF
              go_wp2_with fail
              go_loopw [11] (fun jv wr => ∃ j : Nat, j ≤ X.length ∧ jv = .int .i64 j ∧ ∃ q, wr = W5.drewN q) (fun jv _ => X.length - (intOf jv).toNat)
              case atStart => exact ⟨0, Nat.zero_le _, rfl, 0, rfl⟩
              case round =>
                obtain ⟨j, hj, rfl, q5, rfl⟩ := hrel
                by_cases hlj : j < X.length
                · obtain ⟨b3, off3, rfl, hb3, x2⟩ := hX5.at1 hlj
                  have hj0 : (j : Int) < (X.length : Int) := by omega
                  have hp := inB_iff.2 (HIN.out X[j] (List.getElem_mem _))
                  generalize X[j] = p at x2 hp
                  go_wp2_with fail
                  go_quiet ((go_at_call 28; first | exact qsame (foIn_any _ _ _ _ _ (hP5.drawn _) (by omega)) | exact qsame2 (foIn_any _ _ _ _ _ (hP5.drawn _) (by omega))))
                  rw [hp]
                  go_wp2
                  go_roundw
                  case rel => exact ⟨j + 1, by omega, by go_num, _, (by first | rfl | exact World.drewN_drewN _ _ _)⟩
                  case measure => simp [intOf]; omega
                · obtain ⟨W6, hW6⟩ : ∃ W6, W6 = W5.drewN q5 := ⟨_, rfl⟩
                  have hb6 : Below W5.heap.size W5 W6 := by rw [hW6]; exact below_of_drewN
                  rw [← hW6]
                  clear hW6 hP5 HIN hX5 x0
                  replace hS2 := hS2.below hb6
                  replace rX5 := own_below rX5 hb6
                  replace own := own_below own hb6
                  have hB6 := hB5.trans (hb6.mono hB5.size)
                  clear hb6 hB5
                  have eL := less_none HNone.out
                  have cL := fun A1 A2 c1 c2 W => setLess_any A1 A2 c1 c2 F X W
                  rw [eL] at cL
                  have CL := Lib.hid cL
                  clear eL cL HNone
                  go_wp2_with fail
                  refine (CN.out _ _ _ hS2 hcd hcd2).mono ?_
                  rintro e w7 ⟨b7, d7, ⟨rfl, r7⟩, hb7⟩
                  replace hS2 := hS2.below hb7
                  replace rX5 := own_below rX5 hb7
                  replace own := own_below own hb7
                  have hB7 := hB6.trans (hb7.mono hB6.size)
                  clear hb7 hB6 CN
                  go_wp2_with fail
                  refine (foInts_same _ _ _ _ F _ (Rds.own r7) (Rds.own own) (by omega)).mono ?_
                  rintro e w8 ⟨rfl, hb8⟩
                  replace hS2 := hS2.below hb8
                  replace rX5 := own_below rX5 hb8
                  replace r7 := own_below r7 hb8
                  have hB8 := hB7.trans (hb8.mono hB7.size)
                  clear hb8 hB7 own
                  go_wp2_with fail
                  refine (CL.out _ _ _ _ _ (Rds.own r7) (Rds.own rX5) (by omega) (by omega)).mono ?_
                  rintro e w9 ⟨b9, d9, ⟨rfl, r9⟩, hb9⟩
                  replace hS2 := hS2.below hb9
                  replace rX5 := own_below rX5 hb9
                  have hB9 := hB8.trans (hb9.mono hB8.size)
                  clear hb9 hB8 r7 r9
                  by_cases h5 : slop = 5
                  · subst h5
                    go_wp2
                    go_ret
                    exact ⟨rfl, hB9⟩
                  · have h5b : (slop == 5) = false := by simp; omega
                    have eL := less_none (HMore.out (by omega))
                    have cL := fun A1 A2 c1 c2 W => setLess_any A1 A2 c1 c2 X M W
                    rw [eL] at cL
                    have CL2 := Lib.hid cL
                    clear eL cL HMore
                    go_wp2_with fail
                    refine (CM.out _ _ _ hS2 hcd hcd2).mono ?_
                    rintro e w10 ⟨b10, d10, ⟨rfl, r10⟩, hb10⟩
                    replace rX5 := own_below rX5 hb10
                    have hB10 := hB9.trans (hb10.mono hB9.size)
                    clear hb10 hB9 CM
                    go_wp2_with fail
                    refine (CL2.out _ _ _ _ _ (Rds.own rX5) (Rds.own r10) (by omega) (by omega)).mono ?_
                    rintro e w11 ⟨b11, d11, ⟨rfl, r11⟩, hb11⟩
                    have hB11 := hB10.trans (hb11.mono hB10.size)
                    clear hb11 hB10
                    go_wp2
                    go_ret
                    exact ⟨rfl, hB11⟩
end Go.Proofs.Ytoifknepebplnaa
