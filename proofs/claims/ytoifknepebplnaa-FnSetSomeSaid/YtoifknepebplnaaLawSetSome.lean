/-
  The walk of FnSetSome.
-/
import Derived.Test.YtoifknepebplnaaDrawSS
import Derived.Test.YtoifknepebplnaaSomeLaw
import Derived.Deep.RegionHeld3
namespace Go.Proofs.Ytoifknepebplnaa
open Go.RowKit
set_option linter.unusedVariables false

theorem someI_yes {Ls : List (List Int)} {many : Int} (hu : listsB Ls = true) (hm : 1 ≤ many) : someI Ls many = (allI Ls).filter (enough Ls many) := by
  rw [← sSome_some]; unfold sSomeI; rw [hu, decide_eq_true hm]; rfl
theorem someI_next {Ls : List (List Int)} {many : Int} (hu : listsB Ls = true) (hm : 1 ≤ many) {x : Int} (hx : x ∈ someI Ls (many + 1)) : inB (someI Ls many) x = true := by
  rw [inB_iff]
  rw [someI_yes hu (by omega), List.mem_filter] at hx
  rw [someI_yes hu hm, List.mem_filter]
  refine ⟨hx.1, ?_⟩
  have := hx.2
  unfold enough at *
  rw [decide_eq_true_eq] at *
  omega
theorem someI_enough {Ls : List (List Int)} {many : Int} (hu : listsB Ls = true) (hm : 1 ≤ many) {x : Int} (hx : x ∈ someI Ls many) : many ≤ (cntL Ls x : Int) := by
  rw [someI_yes hu hm, List.mem_filter] at hx
  have := hx.2
  unfold enough at this
  rwa [decide_eq_true_eq] at this
theorem some_two {L M : List Int} (hu : listsB [L, M] = true) : someI [L, M] 2 = andL L M := by
  have hq : upB L = true ∧ upB M = true := by unfold listsB allUp at hu; simp at hu; exact hu
  rw [someI_yes hu (by omega), andL_yes hq.1 hq.2]
  refine asc_ext ((allI_asc _).filter _) ((upB_iff.1 hq.1).2.1.filter _) fun x => ?_
  rw [List.mem_filter, List.mem_filter, allI_mem, inB_iff]
  unfold enough cntL
  rw [decide_eq_true_eq, List.countP_cons, List.countP_cons, List.countP_nil]
  by_cases h1 : x ∈ L <;> by_cases h2 : x ∈ M <;> simp [inB, h1, h2]
theorem some_one {L M : List Int} (hu : listsB [L, M] = true) : someI [L, M] 1 = orL L M := by
  have hq : upB L = true ∧ upB M = true := by unfold listsB allUp at hu; simp at hu; exact hu
  rw [someI_yes hu (by omega), orL_yes hq.1 hq.2]
  refine asc_ext ((allI_asc _).filter _) (unionI_asc _ _) fun x => ?_
  rw [List.mem_filter, allI_mem, unionI_mem]
  unfold enough cntL
  rw [decide_eq_true_eq, List.countP_cons, List.countP_cons, List.countP_nil]
  by_cases h1 : x ∈ L <;> by_cases h2 : x ∈ M <;> simp [inB, h1, h2]
theorem foInts_same (A A' : Option Addr) (c c' : Nat) (L : List Int) (w : World) (h : RdI w A L) (h' : RdI w A' L) (hn : L.length ≤ 4194304) :
    Calls Try.prog 25 #[.slice A L.length c, .slice A' L.length c'] w fun e w' => e = .returned (.bool true) ∧ Below w.heap.size w w' := by
  refine (foInts_any A A' c c' L L w h h' (by omega) (by omega)).mono ?_
  rintro e w' ⟨rfl, q, rfl⟩
  exact ⟨ret_bool (by simp), below_of_drewN⟩

theorem total_le {Ls : List (List Int)} (n : Nat) (h : ∀ L ∈ Ls, L.length ≤ n) : total Ls ≤ Ls.length * (n + 1) := by
  unfold total
  induction Ls with
  | nil => simp
  | cons L r ih =>
    have h1 := h L (List.mem_cons_self ..)
    have h2 := ih (fun M hM => h M (List.mem_cons_of_mem _ hM))
    rw [List.map_cons, List.sum_cons, List.length_cons, Nat.add_mul r.length]
    omega
set_option maxHeartbeats 1600000 in
theorem walk_FnSetSome (a0 : Option Addr) (len cap : Nat) (zs : List Int) (w : World) (hrow : IsRow .u8 w a0 len cap zs) :
    Calls Try.prog 15 #[.slice a0 len cap] w fun e w' => e = .returned (.bool true) ∧ Below w.heap.size w w' := by
  obtain ⟨hc1, hc2, _⟩ := code_of_row hrow
  by_cases hbig : (1048576 : Int) < (len : Int)
  · go_enter Try.func15, Try.ntmps15
    go_wp2
    go_ret
    exact ⟨rfl, Below.refl _ _⟩
  · go_enter Try.func15, Try.ntmps15
    go_wp2_with fail
    refine (drawSetSome_any a0 len cap zs _ hrow).mono ?_
    rintro e w0 ⟨B, d, Ls, many, ⟨rfl, _, hl5, hL61, hm0, hm4, hS, _⟩, hB0⟩
    clear hrow
    have hn : total Ls ≤ 1048576 := by have := total_le 61 hL61; omega
    obtain ⟨X, hX⟩ : ∃ X, X = someI Ls many := ⟨_, rfl⟩
    have hXl : X.length ≤ 1048576 := by rw [hX]; exact someI_len Ls many hn
    have hNl := someI_len Ls (many + 1) hn
    have ci := fun A c w h => setSome_any A c Ls many w h hn
    have cs := fun A c w h => specSetSome_some A c Ls many w h hn
    have cn := fun A c w h => setSome_any A c Ls (many + 1) w h hn
    rw [← hX] at ci cs
    have CI := Lib.hid ci
    have CS := Lib.hid cs
    have HX := Lib.hid hX
    have HL := Lib.hid hL61
    clear hX ci cs hL61
    go_wp2_with fail
    refine (CI.out _ _ _ hS).mono ?_
    rintro e w1 ⟨b1, d1, ⟨rfl, rX⟩, hb⟩
    replace hS := hS.below hb
    have hB1 := hB0.trans (hb.mono hB0.size)
    clear hb hB0
    go_wp2_with fail
    refine (CS.out _ _ _ hS).mono ?_
    rintro e w2 ⟨b2, d2, ⟨rfl, rS⟩, hb⟩
    replace hS := hS.below hb
    replace rX := own_below rX hb
    have hB2 := hB1.trans (hb.mono hB1.size)
    clear hb hB1
    go_wp2_with fail
    refine (foInts_same _ _ _ _ X _ (Rds.own rX) (Rds.own rS) (by omega)).mono ?_
    rintro e w3 ⟨rfl, hb⟩
    replace hS := hS.below hb
    replace rX := own_below rX hb
    have hB3 := hB2.trans (hb.mono hB2.size)
    clear hb hB2 rS
    by_cases hm1 : many < 1
    · go_wp2_with fail
      refine (CS.out _ _ _ hS).mono ?_
      rintro e w4 ⟨b4, d4, ⟨rfl, rT⟩, hb⟩
      replace rX := own_below rX hb
      have hB4 := hB3.trans (hb.mono hB3.size)
      clear hb hB3
      go_wp2_with fail
      refine (foInts_same _ _ _ _ X _ (Rds.own rX) (Rds.own rT) (by omega)).mono ?_
      rintro e w5 ⟨rfl, hb⟩
      have hB5 := hB4.trans (hb.mono hB4.size)
      go_wp2
      go_ret
      exact ⟨rfl, hB5⟩
    · go_wp2_with fail
      go_loopw [6] (fun i wr => ∃ k : Nat, k ≤ Ls.length ∧ i = .int .i64 k ∧ Hid (allUp Ls = allUp (Ls.drop k)) ∧ ∃ q, wr = w3.drewN q) (fun i _ => Ls.length - (intOf i).toNat)
      case atStart => exact ⟨0, Nat.zero_le _, rfl, rfl, 0, rfl⟩
      case round =>
        obtain ⟨k, hk, rfl, hu, q, rfl⟩ := hrel
        by_cases hlt : k < Ls.length
        · obtain ⟨b, off, B', d', e, hb, hc, hs⟩ := hS k hlt
          simp only [Option.some.injEq, Addr.mk.injEq, and_true] at e
          obtain ⟨rfl, rfl⟩ := e
          rw [Nat.zero_add] at hc
          have hi0 : (k : Int) < (Ls.length : Int) := by omega
          have hLk := HL.out Ls[k] (List.getElem_mem _)
          have hd := allUp_drop hlt
          generalize Ls[k] = L at hc hs hLk hd
          cases hul : upB L with
          | true =>
            have HD : Hid (allUp Ls = allUp (Ls.drop (k + 1))) := by show _ = _; rw [hu.out, hd, hul, Bool.true_and]
            clear hd hu
            go_wp2_with fail
            refine (upOk_any B' d' L _ (hs.1.drawn _) (by omega)).mono ?_
            rintro e w4 ⟨rfl, q2, rfl⟩
            rw [hul]
            go_wp2
            go_roundw
            case rel => exact ⟨k + 1, by omega, by go_num, HD, _, (by first | rfl | exact World.drewN_drewN _ _ _)⟩
            case measure => simp [intOf]; omega
          | false =>
            clear hd hu
            have hB4 : Below w.heap.size w (w3.drewN q) := hB3.trans ((below_of_drewN).mono hB3.size)
            go_wp2_with fail
            refine (upOk_any B' d' L _ (hs.1.drawn _) (by omega)).mono ?_
            rintro e w4 ⟨rfl, q2, rfl⟩
            rw [hul]
            go_wp2
            go_ret
            exact ⟨rfl, hB3.trans ((below_of_drewN).mono hB3.size)⟩
        · have hU : listsB Ls = true := by unfold listsB; rw [hu.out, List.drop_of_length_le (by omega), decide_eq_true (by omega)]; rfl
          obtain ⟨W4, hW4⟩ : ∃ W4, W4 = w3.drewN q := ⟨_, rfl⟩
          have hb4 : Below w3.heap.size w3 W4 := by rw [hW4]; exact below_of_drewN
          rw [← hW4]
          clear hW4 hu
          replace hS := hS.below hb4
          replace rX := own_below rX hb4
          have hB4 := hB3.trans (hb4.mono hB3.size)
          clear hb4 hB3
          have hnext : Hid (∀ x ∈ someI Ls (many + 1), inB X x = true) := fun x hx => by rw [HX.out]; exact someI_next hU (by omega) hx
          have henough : Hid (∀ x ∈ X, many ≤ (cntL Ls x : Int)) := fun x hx => by rw [HX.out] at hx; exact someI_enough hU (by omega) hx
          have htwo : Hid (∀ L M, Ls = [L, M] → (many = 2 → X = andL L M) ∧ (many = 1 → X = orL L M)) := fun L M e => by
            subst e
            exact ⟨fun e => by subst e; rw [HX.out]; exact some_two hU, fun e => by subst e; rw [HX.out]; exact some_one hU⟩
          obtain ⟨N, hN⟩ : ∃ N, N = someI Ls (many + 1) := ⟨_, rfl⟩
          rw [← hN] at cn hNl hnext
          have CN := Lib.hid cn
          clear cn hN HX hU CI CS
          go_wp2_with fail
          refine (CN.out _ _ _ hS).mono ?_
          rintro e w5 ⟨b5, d5, ⟨rfl, rN⟩, hb⟩
          replace hS := hS.below hb
          replace rX := own_below rX hb
          have hB5 := hB4.trans (hb.mono hB4.size)
          have hX5 := Rds.own rX
          have hN5 := Rds.own rN
          clear hb hB4 CN
          go_wp2_with fail
          go_loopw [8] (fun i wr => ∃ k : Nat, k ≤ N.length ∧ i = .int .i64 k ∧ ∃ q, wr = w5.drewN q) (fun i _ => N.length - (intOf i).toNat)
          case atStart => exact ⟨0, Nat.zero_le _, rfl, 0, rfl⟩
          case round =>
            obtain ⟨i, hi, rfl, q2, rfl⟩ := hrel
            by_cases hlt2 : i < N.length
            · obtain ⟨b, off, rfl, hb, x0⟩ := hN5.at1 hlt2
              have hi0 : (i : Int) < (N.length : Int) := by omega
              have hp := hnext.out N[i] (List.getElem_mem _)
              generalize N[i] = p at x0 hp
              go_wp2_with fail
              refine (foIn_any _ _ X p _ (hX5.drawn _) (by omega)).mono ?_
              rintro e w6 ⟨rfl, rfl⟩
              rw [hp]
              go_wp2
              go_roundw
              case rel => exact ⟨i + 1, by omega, by go_num, _, rfl⟩
              case measure => simp [intOf]; omega
            · obtain ⟨W6, hW6⟩ : ∃ W6, W6 = w5.drewN q2 := ⟨_, rfl⟩
              have hb6 : Below w5.heap.size w5 W6 := by rw [hW6]; exact below_of_drewN
              rw [← hW6]
              clear hW6 hN5 rN hnext
              replace hS := hS.below hb6
              replace hX5 := Rds.below hX5 hb6
              replace rX := own_below rX hb6
              have hB6 := hB5.trans (hb6.mono hB5.size)
              clear hb6 hB5
              go_wp2_with fail
              go_loopw [9, 10, 11] (fun i _ _ wr => ∃ k : Nat, k ≤ X.length ∧ i = .int .i64 k ∧ ∃ q, wr = W6.drewN q) (fun i _ _ _ => X.length - (intOf i).toNat)
              case atStart => exact ⟨0, Nat.zero_le _, rfl, 0, rfl⟩
              case round =>
                obtain ⟨j, hj, rfl, q3, rfl⟩ := hrel
                by_cases hlt3 : j < X.length
                · obtain ⟨b, off, rfl, hb, x0⟩ := hX5.at1 hlt3
                  have hi0 : (j : Int) < (X.length : Int) := by omega
                  have hp := henough.out X[j] (List.getElem_mem _)
                  generalize X[j] = p at x0 hp
                  have HP := Lib.hid hp
                  clear hp
                  go_wp2_with fail
                  go_loopw [10, 11] (fun nv kv wr => ∃ k : Nat, k ≤ Ls.length ∧ kv = .int .i64 k ∧ (∃ n : Nat, nv = .int .i64 n ∧ n ≤ k ∧ Hid (n = cntL (Ls.take k) p)) ∧ ∃ q, wr = W6.drewN q) (fun _ kv _ => Ls.length - (intOf kv).toNat)
                  case atStart => exact ⟨0, Nat.zero_le _, rfl, ⟨0, rfl, Nat.le_refl _, rfl⟩, _, rfl⟩
                  case round =>
                    obtain ⟨k, hk, rfl, ⟨n, rfl, hnk, hn2⟩, q4, rfl⟩ := hrel
                    by_cases hlk : k < Ls.length
                    · obtain ⟨b', off', B', d', e, hb', hc, hs⟩ := hS k hlk
                      simp only [Option.some.injEq, Addr.mk.injEq, and_true] at e
                      obtain ⟨rfl, rfl⟩ := e
                      rw [Nat.zero_add] at hc
                      have hk0 : (k : Int) < (Ls.length : Int) := by omega
                      have hLk := HL.out Ls[k] (List.getElem_mem _)
                      have hcy := cntL_yes (x := p) hlk
                      have hcn := cntL_no (x := p) hlk
                      generalize Ls[k] = L at hc hs hLk hcy hcn
                      cases hin : inB L p with
                      | true =>
                        have HN : Hid (n + 1 = cntL (Ls.take (k + 1)) p) := by show _ = _; rw [hcy hin, hn2.out]
                        clear hcy hcn hn2
                        go_wp2_with fail
                        go_quiet ((go_at_call 28; first | exact qsame (foIn_any _ _ _ _ _ (hs.1.drawn _) (by omega)) | exact qsame2 (foIn_any _ _ _ _ _ (hs.1.drawn _) (by omega))))
                        rw [hin]
                        go_wp2
                        go_roundw
                        case rel => exact ⟨k + 1, by omega, by go_num, ⟨n + 1, by go_num, by omega, HN⟩, _, (by first | rfl | exact World.drewN_drewN _ _ _)⟩
                        case measure => simp [intOf]; omega
                      | false =>
                        have HN : Hid (n = cntL (Ls.take (k + 1)) p) := by show _ = _; rw [hcn hin, hn2.out]
                        clear hcy hcn hn2
                        go_wp2_with fail
                        go_quiet ((go_at_call 28; first | exact qsame (foIn_any _ _ _ _ _ (hs.1.drawn _) (by omega)) | exact qsame2 (foIn_any _ _ _ _ _ (hs.1.drawn _) (by omega))))
                        rw [hin]
                        go_wp2
                        go_roundw
                        case rel => exact ⟨k + 1, by omega, by go_num, ⟨n, rfl, by omega, HN⟩, _, (by first | rfl | exact World.drewN_drewN _ _ _)⟩
                        case measure => simp [intOf]; omega
                    · have hn3 : ¬ (n : Int) < many := by have := HP.out; rw [hn2.out, List.take_of_length_le (by omega)]; omega
                      clear hn2 HP
                      go_wp2
                      go_roundw
                      case rel => exact ⟨j + 1, by omega, by go_num, _, rfl⟩
                      case measure => simp [intOf]; omega
                · obtain ⟨W7, hW7⟩ : ∃ W7, W7 = W6.drewN q3 := ⟨_, rfl⟩
                  have hb7 : Below W6.heap.size W6 W7 := by rw [hW7]; exact below_of_drewN
                  rw [← hW7]
                  clear hW7 henough hX5
                  replace hS := hS.below hb7
                  replace rX := own_below rX hb7
                  have hB7 := hB6.trans (hb7.mono hB6.size)
                  clear hb7 hB6
                  by_cases h2 : Ls.length = 2
                  · obtain ⟨L, M, rfl⟩ : ∃ L M, Ls = [L, M] := by
                      match Ls, h2 with
                      | [L, M], _ => exact ⟨L, M, rfl⟩
                    obtain ⟨e2, e1⟩ := htwo.out L M rfl
                    obtain ⟨b, off, A1, c1, e, hb, hc, hs⟩ := hS 0 (by simp)
                    simp only [Option.some.injEq, Addr.mk.injEq, and_true] at e
                    obtain ⟨rfl, rfl⟩ := e
                    obtain ⟨b', off', A2, c2, e, hb', hc', hs'⟩ := hS 1 (by simp)
                    simp only [Option.some.injEq, Addr.mk.injEq, and_true] at e
                    obtain ⟨rfl, rfl⟩ := e
                    simp only [List.getElem_cons_zero, List.getElem_cons_succ, Nat.zero_add] at hc hc' hs hs'
                    have hLl := HL.out L (by simp)
                    have hMl := HL.out M (by simp)
                    have k1 : ∀ w', Below W7.heap.size W7 w' → w'.cell? ⟨B, 0, none⟩ = some (.slice A1 L.length c1) := fun w' h => (h.cell (p := ⟨_, _, _⟩) hb).trans hc
                    have k2 : ∀ w', Below W7.heap.size W7 w' → w'.cell? ⟨B, 1, none⟩ = some (.slice A2 M.length c2) := fun w' h => (h.cell (p := ⟨_, _, _⟩) hb).trans hc'
                    clear hc hc' htwo hS
                    by_cases hmt : many = 2
                    · have e3 := Lib.hid (e2 hmt)
                      subst hmt
                      clear e1 e2
                      have cA := fun A1 A2 c1 c2 W => setAnd_any A1 A2 c1 c2 L M W
                      rw [← e3.out] at cA
                      have CA := Lib.hid cA
                      clear cA
                      go_wp2_with fail
                      go_region_held3 (fun w' => Below W7.heap.size W7 w')
                        ((repeat' (first | exact Below.refl _ _ | assumption | apply Below.alloc | apply Below.setCell | apply Below.drew | apply below_draws | (refine Below.trans ?_ (Below.mono (by assumption) ?_)))) <;> (first | exact Below.size (by assumption) | omega | (simp; done) | (simp; omega) | (refine Nat.le_trans ?_ (Below.size (by assumption)); (first | omega | (simp <;> omega)))))
                        (first | (go_at_call 24; refine (CA.out _ _ _ _ _ (hs.1.below (by assumption)) (hs'.1.below (by assumption)) (by omega) (by omega)).mono ?_; rintro e w8 ⟨b8, d8, ⟨rfl, r8⟩, hb8⟩) | (go_at_call 25; refine (foInts_same _ _ _ _ X _ (Rds.own (own_below rX (by assumption))) (Rds.own r8) (by omega)).mono ?_; rintro e w9 ⟨rfl, hb9⟩))
                      go_wp2
                      go_quiet (fail)
                      go_wp2
                      go_ret
                      exact ⟨rfl, hB7.trans (below_draws (Below.mono (by assumption) hB7.size) _)⟩
                    · have hm2 : (many == 2) = false := by simp; omega
                      have hm2' : (many != 2) = true := by simp; omega
                      by_cases hmo : many = 1
                      · have e3 := Lib.hid (e1 hmo)
                        subst hmo
                        clear e1 e2 hm2 hm2'
                        have cA := fun A1 A2 c1 c2 W => setOr_any A1 A2 c1 c2 L M W
                        rw [← e3.out] at cA
                        have CA := Lib.hid cA
                        clear cA
                        go_wp2_with fail
                        go_quiet (fail)
                        go_wp2_with fail
                        go_region_held3 (fun w' => Below W7.heap.size W7 w')
                          ((repeat' (first | exact Below.refl _ _ | assumption | apply Below.alloc | apply Below.setCell | apply Below.drew | apply below_draws | (refine Below.trans ?_ (Below.mono (by assumption) ?_)))) <;> (first | exact Below.size (by assumption) | omega | (simp; done) | (simp; omega) | (refine Nat.le_trans ?_ (Below.size (by assumption)); (first | omega | (simp <;> omega)))))
                          (first | (go_at_call 37; refine (CA.out _ _ _ _ _ (hs.below (by assumption)) (hs'.below (by assumption)) (by omega) (by omega)).mono ?_; rintro e w8 ⟨b8, d8, ⟨rfl, r8⟩, hb8⟩) | (go_at_call 25; refine (foInts_same _ _ _ _ X _ (Rds.own (own_below rX (by assumption))) (Rds.own r8) (by omega)).mono ?_; rintro e w9 ⟨rfl, hb9⟩))
                        go_wp2
                        go_ret
                        exact ⟨rfl, hB7.trans (Below.mono (by assumption) hB7.size)⟩
                      · have hmo1 : (many == 1) = false := by simp; omega
                        have hmo2 : (many != 1) = true := by simp; omega
                        go_wp2_with fail
                        go_quiet (fail)
                        go_wp2
                        go_quiet (fail)
                        go_wp2
                        go_ret
                        exact ⟨rfl, hB7.trans (by first | exact (below_of_drewN).mono hB7.size | exact below_draws (below_draws (Below.refl _ _) _) _ | (rw [World.drewN_drewN]; exact (below_of_drewN).mono hB7.size))⟩
                  · have h2' : ((Ls.length : Int) == 2) = false := by simp; omega
                    have h2'' : ((Ls.length : Int) != 2) = true := by simp; omega
                    go_wp2_with fail
                    go_quiet (fail)
                    go_wp2
                    go_quiet (fail)
                    go_wp2
                    go_ret
                    exact ⟨rfl, hB7.trans (by first | exact (below_of_drewN).mono hB7.size | exact below_draws (below_draws (Below.refl _ _) _) _ | (rw [World.drewN_drewN]; exact (below_of_drewN).mono hB7.size))⟩
end Go.Proofs.Ytoifknepebplnaa
