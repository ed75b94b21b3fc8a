/-
  Contracts of l6Num, DocNum, DocsOk, l6Docs.
-/
import Derived.Test.YteomiaffdbbpoaaSpecDoc
namespace Go.Proofs.Yteomiaffdbbpoaa
open Go.RowKit Go.Sort
set_option linter.unusedVariables false
theorem cDocOk (d : DocD) (A1 A2 : Option Addr) (c1 c2 : Nat) (r : Bool) (hr : docB d = r) (W : World) (h : HasD W d A1 A2) (hs : SmD d) (dd : Nat) (os : Array Obj) :
    Calls Try.prog 64 #[.agg #[.int .i64 d.id, .slice A1 d.fs.length c1, .slice A2 d.ns.length c2]] (grow (redrawn W dd) os) fun e w'' => e = .returned (.bool r) ∧ ∃ p : Regrown, w'' = grow (redrawn W p.d) p.os := by
  subst hr
  exact Calls.regrown_of (docOk_any d A1 A2 c1 c2 _ (h.below (below_regrown W dd os)) hs)
theorem cL6Ok (d : DocD) (A1 A2 : Option Addr) (c1 c2 : Nat) (r : Bool) (hr : docB d = r) (W : World) (h : HasD W d A1 A2) (hs : SmD d) (dd : Nat) (os : Array Obj) :
    Calls Try.prog 90 #[.agg #[.int .i64 d.id, .slice A1 d.fs.length c1, .slice A2 d.ns.length c2]] (grow (redrawn W dd) os) fun e w'' => e = .returned (.bool r) ∧ ∃ p : Regrown, w'' = grow (redrawn W p.d) p.os := by
  subst hr
  exact Calls.regrown_of (l6Ok_any d A1 A2 c1 c2 _ (h.below (below_regrown W dd os)) hs)
theorem l6Num_any (d : DocD) (A1 A2 : Option Addr) (c1 c2 : Nat) (name : ByteArray) (w : World) (h : HasD w d A1 A2) (hs : SmD d) :
    Calls Try.prog 62 #[.agg #[.int .i64 d.id, .slice A1 d.fs.length c1, .slice A2 d.ns.length c2], .string name] w fun e w' => e = .returned (.int .i64 (numR name d.ns)) ∧ Below w.heap.size w w' := by
  obtain ⟨id, fs, ns⟩ := d
  obtain ⟨hF, hA⟩ := h
  obtain ⟨hs1, hs2, hs3, hs4, hs5⟩ := hs
  dsimp only at hF hA hs1 hs2 hs3 hs4 hs5 ⊢
  clear hs3 hs4 hs5
  obtain ⟨R, hR⟩ : ∃ R, R = numR name ns := ⟨_, rfl⟩
  rw [← hR]
  have HR := Lib.hid hR
  clear hR
  have hB0 : Below w.heap.size w (w.alloc (.cells #[.int .i64 id, .slice A1 fs.length c1, .slice A2 ns.length c2] 42)) := (Below.refl _ _).alloc (Nat.le_refl _) _
  have f2 : (w.alloc (.cells #[.int .i64 id, .slice A1 fs.length c1, .slice A2 ns.length c2] 42)).cell? ⟨w.heap.size, 2, none⟩ = some (.slice A2 ns.length c2) := by simp [go_sem]
  have hA0 := hA.below hB0
  clear hF hA
  go_enter Try.func62, Try.ntmps62
  go_wp2_with fail
  generalize (w.alloc (.cells #[.int .i64 id, .slice A1 fs.length c1, .slice A2 ns.length c2] 42)) = W0 at hB0 f2 hA0 ⊢
  go_loop [5] (fun iv => ∃ k : Nat, k ≤ ns.length ∧ iv = .int .i64 k ∧ Hid (R = numR name (ns.drop k))) (fun iv => ns.length - (intOf iv).toNat)
  case atStart => exact ⟨0, Nat.zero_le _, rfl, HR⟩
  case round =>
    obtain ⟨k, hk, rfl, hm⟩ := hrel
    by_cases hlt : k < ns.length
    · obtain ⟨b, off, rfl, hb, x0, x1⟩ := hA0.atA hlt
      have hi0 : (k : Int) < (ns.length : Int) := by omega
      have hd := numR_drop (name := name) hlt
      cases he : (ns[k].1.toList == name.toList) with
      | true =>
        have HM : Hid (R = ns[k].2) := by show _ = _; rw [hm.out, hd, if_pos he]
        clear hd hm
        generalize ns[k].1 = p at x0 he
        generalize ns[k].2 = q at x1 HM
        go_wp2
        go_ret
        exact ⟨ret_int HM.out.symm, hB0⟩
      | false =>
        have HM : Hid (R = numR name (ns.drop (k + 1))) := by show _ = _; rw [hm.out, hd, if_neg (by rw [he]; simp)]
        clear hd hm
        generalize ns[k].1 = p at x0 he
        generalize ns[k].2 = q at x1
        go_wp2
        go_round
        case rel => exact ⟨k + 1, by omega, by go_num, HM⟩
        case measure => simp [intOf]; omega
    · have HM : Hid (R = -1) := by show _ = _; rw [hm.out, List.drop_of_length_le (by omega)]; rfl
      clear hm
      go_wp2
      go_ret
      exact ⟨ret_int HM.out.symm, hB0⟩
theorem docNum_any (d : DocD) (A1 A2 : Option Addr) (c1 c2 : Nat) (name : ByteArray) (w : World) (h : HasD w d A1 A2) (hs : SmD d) :
    Calls Try.prog 24 #[.agg #[.int .i64 d.id, .slice A1 d.fs.length c1, .slice A2 d.ns.length c2], .string name] w fun e w' => e = .returned (.int .i64 (docNum d name)) ∧ Below w.heap.size w w' := by
  have cok := fun W h => docOk_any d A1 A2 c1 c2 W h hs
  have hhd := h
  obtain ⟨id, fs, ns⟩ := d
  obtain ⟨hF, hA⟩ := h
  obtain ⟨hs1, hs2, hs3, hs4, hs5⟩ := hs
  obtain ⟨R, hR⟩ : ∃ R, R = docNum ⟨id, fs, ns⟩ name := ⟨_, rfl⟩
  obtain ⟨ok, hok⟩ : ∃ ok, ok = docB ⟨id, fs, ns⟩ := ⟨_, rfl⟩
  rw [← hR]
  rw [← hok] at cok
  have HR : Hid (R = if ok = true then numR name ns else -1) := by show _ = _; rw [hR]; unfold docNum; rw [← hok]
  dsimp only at hF hA hs1 hs2 hs3 hs4 hs5 cok ⊢
  have COK := Lib.hid cok
  clear hs3 hs4 hs5 hR hok cok
  have hB0 : Below w.heap.size w (w.alloc (.cells #[.int .i64 id, .slice A1 fs.length c1, .slice A2 ns.length c2] 42)) := (Below.refl _ _).alloc (Nat.le_refl _) _
  have f0 : (w.alloc (.cells #[.int .i64 id, .slice A1 fs.length c1, .slice A2 ns.length c2] 42)).cell? ⟨w.heap.size, 0, none⟩ = some (.int .i64 id) := by simp [go_sem]
  have f1 : (w.alloc (.cells #[.int .i64 id, .slice A1 fs.length c1, .slice A2 ns.length c2] 42)).cell? ⟨w.heap.size, 1, none⟩ = some (.slice A1 fs.length c1) := by simp [go_sem]
  have f2 : (w.alloc (.cells #[.int .i64 id, .slice A1 fs.length c1, .slice A2 ns.length c2] 42)).cell? ⟨w.heap.size, 2, none⟩ = some (.slice A2 ns.length c2) := by simp [go_sem]
  have hs0 : w.heap.size < (w.alloc (.cells #[.int .i64 id, .slice A1 fs.length c1, .slice A2 ns.length c2] 42)).heap.size := by simp
  have hh0 := hhd.below hB0
  clear hF hA hhd
  go_enter Try.func24, Try.ntmps24
  go_wp2_with fail
  generalize (w.alloc (.cells #[.int .i64 id, .slice A1 fs.length c1, .slice A2 ns.length c2] 42)) = W0 at hB0 f0 f1 f2 hs0 hh0 ⊢
  refine (COK.out _ hh0).mono ?_
  rintro e w1 ⟨rfl, hb1⟩
  have hB1 := hB0.trans (hb1.mono hB0.size)
  have e2 := (hb1.cell (p := ⟨w.heap.size, 2, none⟩) hs0).trans f2
  have hA1 := (hh0.below hb1).2
  dsimp only at hA1
  have hs1' := Nat.lt_of_lt_of_le hs0 hb1.size
  clear hB0 f0 f1 f2 hs0 hh0 hb1 COK
  cases ok with
  | false =>
    go_wp2
    go_ret
    exact ⟨ret_int (by rw [HR.out]; rfl), hB1⟩
  | true =>
    have HR2 : Hid (R = numR name ns) := by show _ = _; rw [HR.out, if_pos rfl]
    clear HR
    go_wp2_with fail
    go_loopw [6, 12] (fun _ iv wr => ∃ k : Nat, k ≤ ns.length ∧ iv = .int .i64 k ∧ Hid (R = numR name (ns.drop k)) ∧ Below w1.heap.size w1 wr) (fun _ iv _ => ns.length - (intOf iv).toNat)
    case atStart => exact ⟨0, Nat.zero_le _, rfl, HR2, Below.refl _ _⟩
    case round =>
      obtain ⟨k, hk, rfl, hm, hB⟩ := hrel
      have hBs := hB.size
      have d9 := (hB.cell (p := ⟨w.heap.size, 2, none⟩) hs1').trans e2
      by_cases hlt : k < ns.length
      · obtain ⟨b, off, rfl, hb, x0, x1⟩ := (hA1.below hB).atA hlt
        have hi0 : (k : Int) < (ns.length : Int) := by omega
        have hd := numR_drop (name := name) hlt
        cases he : (ns[k].1.toList == name.toList) with
        | true =>
          have HM : Hid (R = ns[k].2) := by show _ = _; rw [hm.out, hd, if_pos he]
          clear hd hm
          generalize ns[k].1 = p at x0 he
          generalize ns[k].2 = q at x1 HM
          have hBW : Below w1.heap.size w1 (wr.alloc (.cells #[.string p, .int .i64 q] 88)) := hB.trans (((Below.refl _ _).alloc (Nat.le_refl _) _).mono hBs)
          go_wp2
          go_ret
          exact ⟨ret_int HM.out.symm, hB1.trans (hBW.mono hB1.size)⟩
        | false =>
          have HM : Hid (R = numR name (ns.drop (k + 1))) := by show _ = _; rw [hm.out, hd, if_neg (by rw [he]; simp)]
          clear hd hm
          generalize ns[k].1 = p at x0 he
          generalize ns[k].2 = q at x1
          have hBW : Below w1.heap.size w1 (wr.alloc (.cells #[.string p, .int .i64 q] 88)) := hB.trans (((Below.refl _ _).alloc (Nat.le_refl _) _).mono hBs)
          go_wp2
          go_roundw
          case rel => exact ⟨k + 1, by omega, by go_num, HM, hBW⟩
          case measure => simp [intOf]; omega
      · have HM : Hid (R = -1) := by show _ = _; rw [hm.out, List.drop_of_length_le (by omega)]; rfl
        clear hm
        go_wp2
        go_ret
        exact ⟨ret_int HM.out.symm, hB1.trans (hB.mono hB1.size)⟩
set_option maxHeartbeats 1600000 in
theorem docsOk_any (A : Option Addr) (c : Nat) (Ds : List DocD) (w : World) (h : RdD w A Ds) (hs : SmDs Ds) :
    Calls Try.prog 22 #[.slice A Ds.length c] w fun e w' => e = .returned (.bool (docsB Ds)) ∧ Below w.heap.size w w' := by
  obtain ⟨hn, hs2⟩ := hs
  have HSM := Lib.hid hs2
  clear hs2
  obtain ⟨R, hR⟩ : ∃ R, R = docsB Ds := ⟨_, rfl⟩
  rw [← hR]
  have HR := Lib.hid hR
  clear hR
  go_enter Try.func22, Try.ntmps22
  go_wp2_with fail
  go_loopw [3, 4, 7] (fun _ _ iv wr => ∃ k : Nat, k ≤ Ds.length ∧ iv = .int .i64 k ∧ Hid (toD Ds k = true) ∧ Below w.heap.size w wr) (fun _ _ iv _ => Ds.length - (intOf iv).toNat)
  case atStart => exact ⟨0, Nat.zero_le _, rfl, rfl, Below.refl _ _⟩
  case round =>
    obtain ⟨k, hk, rfl, hm, hB⟩ := hrel
    have hBs := hB.size
    by_cases hlt : k < Ds.length
    · have hr := h.below hB
      obtain ⟨b, off, A1, c1, A2, c2, rfl, hb, x0, x1, x2, hhd0⟩ := hr k hlt
      have hi0 : (k : Int) < (Ds.length : Int) := by omega
      have hok := okD_at hlt
      have HFALSE := Lib.hid (toD_false hlt)
      have HSUCC := Lib.hid (toD_succ Ds k)
      have hsm := HSM.out _ (List.getElem_mem hlt)
      cases hdb : docB Ds[k] with
      | false =>
        have HN : Hid (R = false) := by show _ = _; rw [HR.out, HFALSE.out (by rw [hok, hdb]; rfl)]
        clear hok HFALSE HSUCC hm
        generalize Ds[k] = d at x0 x1 x2 hhd0 hsm hdb
        obtain ⟨id, fs, ns⟩ := d
        dsimp only at x0 x1 x2
        have hBW : Below w.heap.size w (wr.alloc (.cells #[.int .i64 id, .slice A1 fs.length c1, .slice A2 ns.length c2] 42)) := hB.trans (((Below.refl _ _).alloc (Nat.le_refl _) _).mono hBs)
        have g0 : ((wr.alloc (.cells #[.int .i64 id, .slice A1 fs.length c1, .slice A2 ns.length c2] 42))).cell? ⟨wr.heap.size, 0, none⟩ = some (.int .i64 id) := by simp [go_sem]
        have g1 : ((wr.alloc (.cells #[.int .i64 id, .slice A1 fs.length c1, .slice A2 ns.length c2] 42))).cell? ⟨wr.heap.size, 1, none⟩ = some (.slice A1 fs.length c1) := by simp [go_sem]
        have g2 : ((wr.alloc (.cells #[.int .i64 id, .slice A1 fs.length c1, .slice A2 ns.length c2] 42))).cell? ⟨wr.heap.size, 2, none⟩ = some (.slice A2 ns.length c2) := by simp [go_sem]
        have hhd := hhd0.below ((Below.refl _ wr).alloc (Nat.le_refl _) (.cells #[.int .i64 id, .slice A1 fs.length c1, .slice A2 ns.length c2] 42))
        go_wp2_with fail
        clear x0 x1 x2 hB hBs hr hhd0
        generalize (wr.alloc (.cells #[.int .i64 id, .slice A1 fs.length c1, .slice A2 ns.length c2] 42)) = W1 at hBW g0 g1 g2 hhd ⊢
        have k0 := cell_regrown g0
        have k1 := cell_regrown g1
        have k2 := cell_regrown g2
        refine region_qw (by kernel_rfl) (by kernel_rfl) ?_
        repeat (
          refine qw_step (fun K hK => ?_)
          go_simp
          first
            | (refine hK _ ?_; clear hK K)
            | (apply Exists.intro
               refine ⟨fun _ => ?_, hK _ ?_⟩
               (first | (go_at_call 64; exact cDocOk ⟨id, fs, ns⟩ A1 A2 c1 c2 _ hdb _ hhd hsm _ _))
               clear hK K))
        refine qw_nil ?_
        intro _ hw'
        obtain ⟨⟨dq, osq⟩, hw''⟩ := hw'
        subst hw''
        go_wp2
        go_ret
        exact ⟨ret_bool HN.out.symm, hBW.trans ((below_regrown W1 dq osq).mono hBW.size)⟩
      | true =>
        rw [hdb, Bool.true_and] at hok
        by_cases hk0 : k = 0
        · have HS : Hid (toD Ds (k + 1) = true) := by show _ = _; rw [HSUCC.out, hm.out, hok, decide_eq_true hk0]; rfl
          have hkz : decide ((0 : Int) < (k : Int)) = false := decide_eq_false (by omega)
          have hkz2 : decide (0 < k) = false := decide_eq_false (by omega)
          clear hok HFALSE HSUCC hm hk0
          generalize Ds[k] = d at x0 x1 x2 hhd0 hsm hdb
          obtain ⟨id, fs, ns⟩ := d
          dsimp only at x0 x1 x2
          have hBW : Below w.heap.size w (wr.alloc (.cells #[.int .i64 id, .slice A1 fs.length c1, .slice A2 ns.length c2] 42)) := hB.trans (((Below.refl _ _).alloc (Nat.le_refl _) _).mono hBs)
          have g0 : ((wr.alloc (.cells #[.int .i64 id, .slice A1 fs.length c1, .slice A2 ns.length c2] 42))).cell? ⟨wr.heap.size, 0, none⟩ = some (.int .i64 id) := by simp [go_sem]
          have g1 : ((wr.alloc (.cells #[.int .i64 id, .slice A1 fs.length c1, .slice A2 ns.length c2] 42))).cell? ⟨wr.heap.size, 1, none⟩ = some (.slice A1 fs.length c1) := by simp [go_sem]
          have g2 : ((wr.alloc (.cells #[.int .i64 id, .slice A1 fs.length c1, .slice A2 ns.length c2] 42))).cell? ⟨wr.heap.size, 2, none⟩ = some (.slice A2 ns.length c2) := by simp [go_sem]
          have hhd := hhd0.below ((Below.refl _ wr).alloc (Nat.le_refl _) (.cells #[.int .i64 id, .slice A1 fs.length c1, .slice A2 ns.length c2] 42))
          go_wp2_with fail
          clear x0 x1 x2 hB hBs hr hhd0
          generalize (wr.alloc (.cells #[.int .i64 id, .slice A1 fs.length c1, .slice A2 ns.length c2] 42)) = W1 at hBW g0 g1 g2 hhd ⊢
          have k0 := cell_regrown g0
          have k1 := cell_regrown g1
          have k2 := cell_regrown g2
          refine region_qw (by kernel_rfl) (by kernel_rfl) ?_
          repeat (
            refine qw_step (fun K hK => ?_)
            go_simp
            first
              | (refine hK _ ?_; clear hK K)
              | (apply Exists.intro
                 refine ⟨fun _ => ?_, hK _ ?_⟩
                 (first | (go_at_call 64; exact cDocOk ⟨id, fs, ns⟩ A1 A2 c1 c2 _ hdb _ hhd hsm _ _))
                 clear hK K))
          refine qw_nil ?_
          intro _ hw'
          obtain ⟨⟨dq, osq⟩, hw''⟩ := hw'
          subst hw''
          go_wp2
          go_roundw
          case rel => exact ⟨k + 1, by omega, by go_num, HS, hBW.trans ((below_regrown W1 dq osq).mono hBW.size)⟩
          case measure => simp [intOf]; omega
        · obtain ⟨j0, hkj⟩ : ∃ j0, k = j0 + 1 := ⟨k - 1, by omega⟩
          have hjl : j0 < Ds.length := by omega
          obtain ⟨b', off', _, _, _, _, e9, _, y0, _⟩ := hr j0 hjl
          simp only [Option.some.injEq, Addr.mk.injEq, and_true] at e9
          obtain ⟨rfl, rfl⟩ := e9
          rw [decide_eq_false hk0, Bool.false_or, show k - 1 = j0 by omega, getDD hjl] at hok
          have HOK := Lib.hid hok
          clear hok
          have hi2 : (j0 : Int) < (Ds.length : Int) := by omega
          have hz1 : (0 : Int) ≤ (j0 : Int) := by omega
          have hw3 : IntKind.i64.wrap ((k : Int) - 1) = (j0 : Int) := by rw [show (k : Int) - 1 = (j0 : Int) by omega]; exact IntWalk.i64_in _ (by omega)
          have hkz : decide ((0 : Int) < (k : Int)) = true := decide_eq_true (by omega)
          have hkz2 : decide (0 < k) = true := decide_eq_true (by omega)
          clear hkj
          by_cases hls : Ds[j0].id < Ds[k].id
          · have HS : Hid (toD Ds (k + 1) = true) := by show _ = _; rw [HSUCC.out, hm.out, HOK.out, decide_eq_true hls]; rfl
            clear HOK HFALSE HSUCC hm hk0
            generalize Ds[k] = d at x0 x1 x2 hhd0 hsm hdb hls
            generalize Ds[j0].id = id' at y0 hls
            obtain ⟨id, fs, ns⟩ := d
            dsimp only at x0 x1 x2 hls
            have hcd : decide (id ≤ id') = false := decide_eq_false (by omega)
            have hBW : Below w.heap.size w (wr.alloc (.cells #[.int .i64 id, .slice A1 fs.length c1, .slice A2 ns.length c2] 42)) := hB.trans (((Below.refl _ _).alloc (Nat.le_refl _) _).mono hBs)
            have g0 : ((wr.alloc (.cells #[.int .i64 id, .slice A1 fs.length c1, .slice A2 ns.length c2] 42))).cell? ⟨wr.heap.size, 0, none⟩ = some (.int .i64 id) := by simp [go_sem]
            have g1 : ((wr.alloc (.cells #[.int .i64 id, .slice A1 fs.length c1, .slice A2 ns.length c2] 42))).cell? ⟨wr.heap.size, 1, none⟩ = some (.slice A1 fs.length c1) := by simp [go_sem]
            have g2 : ((wr.alloc (.cells #[.int .i64 id, .slice A1 fs.length c1, .slice A2 ns.length c2] 42))).cell? ⟨wr.heap.size, 2, none⟩ = some (.slice A2 ns.length c2) := by simp [go_sem]
            have hhd := hhd0.below ((Below.refl _ wr).alloc (Nat.le_refl _) (.cells #[.int .i64 id, .slice A1 fs.length c1, .slice A2 ns.length c2] 42))
            have y1 : ((wr.alloc (.cells #[.int .i64 id, .slice A1 fs.length c1, .slice A2 ns.length c2] 42))).cell? ⟨b, off + j0 * 3, none⟩ = some (.int .i64 id') := (((Below.refl _ wr).alloc (Nat.le_refl _) _).cell (p := ⟨_, _, _⟩) hb).trans y0
            go_wp2_with fail
            clear x0 x1 x2 hB hBs hr hhd0 y0
            generalize (wr.alloc (.cells #[.int .i64 id, .slice A1 fs.length c1, .slice A2 ns.length c2] 42)) = W1 at hBW g0 g1 g2 hhd y1 ⊢
            have k0 := cell_regrown g0
            have k1 := cell_regrown g1
            have k2 := cell_regrown g2
            have k3 := cell_regrown y1
            refine region_qw (by kernel_rfl) (by kernel_rfl) ?_
            repeat (
              refine qw_step (fun K hK => ?_)
              go_simp
              first
                | (refine hK _ ?_; clear hK K)
                | (apply Exists.intro
                   refine ⟨fun _ => ?_, hK _ ?_⟩
                   (first | (go_at_call 64; exact cDocOk ⟨id, fs, ns⟩ A1 A2 c1 c2 _ hdb _ hhd hsm _ _))
                   clear hK K))
            refine qw_nil ?_
            intro _ hw'
            obtain ⟨⟨dq, osq⟩, hw''⟩ := hw'
            subst hw''
            go_wp2
            go_roundw
            case rel => exact ⟨k + 1, by omega, by go_num, HS, hBW.trans ((below_regrown W1 dq osq).mono hBW.size)⟩
            case measure => simp [intOf]; omega
          · have HN : Hid (R = false) := by show _ = _; rw [HR.out, HFALSE.out (by rw [HOK.out, decide_eq_false hls])]
            clear HOK HFALSE HSUCC hm hk0
            generalize Ds[k] = d at x0 x1 x2 hhd0 hsm hdb hls
            generalize Ds[j0].id = id' at y0 hls
            obtain ⟨id, fs, ns⟩ := d
            dsimp only at x0 x1 x2 hls
            have hcd : decide (id ≤ id') = true := decide_eq_true (by omega)
            have hBW : Below w.heap.size w (wr.alloc (.cells #[.int .i64 id, .slice A1 fs.length c1, .slice A2 ns.length c2] 42)) := hB.trans (((Below.refl _ _).alloc (Nat.le_refl _) _).mono hBs)
            have g0 : ((wr.alloc (.cells #[.int .i64 id, .slice A1 fs.length c1, .slice A2 ns.length c2] 42))).cell? ⟨wr.heap.size, 0, none⟩ = some (.int .i64 id) := by simp [go_sem]
            have g1 : ((wr.alloc (.cells #[.int .i64 id, .slice A1 fs.length c1, .slice A2 ns.length c2] 42))).cell? ⟨wr.heap.size, 1, none⟩ = some (.slice A1 fs.length c1) := by simp [go_sem]
            have g2 : ((wr.alloc (.cells #[.int .i64 id, .slice A1 fs.length c1, .slice A2 ns.length c2] 42))).cell? ⟨wr.heap.size, 2, none⟩ = some (.slice A2 ns.length c2) := by simp [go_sem]
            have hhd := hhd0.below ((Below.refl _ wr).alloc (Nat.le_refl _) (.cells #[.int .i64 id, .slice A1 fs.length c1, .slice A2 ns.length c2] 42))
            have y1 : ((wr.alloc (.cells #[.int .i64 id, .slice A1 fs.length c1, .slice A2 ns.length c2] 42))).cell? ⟨b, off + j0 * 3, none⟩ = some (.int .i64 id') := (((Below.refl _ wr).alloc (Nat.le_refl _) _).cell (p := ⟨_, _, _⟩) hb).trans y0
            go_wp2_with fail
            clear x0 x1 x2 hB hBs hr hhd0 y0
            generalize (wr.alloc (.cells #[.int .i64 id, .slice A1 fs.length c1, .slice A2 ns.length c2] 42)) = W1 at hBW g0 g1 g2 hhd y1 ⊢
            have k0 := cell_regrown g0
            have k1 := cell_regrown g1
            have k2 := cell_regrown g2
            have k3 := cell_regrown y1
            refine region_qw (by kernel_rfl) (by kernel_rfl) ?_
            repeat (
              refine qw_step (fun K hK => ?_)
              go_simp
              first
                | (refine hK _ ?_; clear hK K)
                | (apply Exists.intro
                   refine ⟨fun _ => ?_, hK _ ?_⟩
                   (first | (go_at_call 64; exact cDocOk ⟨id, fs, ns⟩ A1 A2 c1 c2 _ hdb _ hhd hsm _ _))
                   clear hK K))
            refine qw_nil ?_
            intro _ hw'
            obtain ⟨⟨dq, osq⟩, hw''⟩ := hw'
            subst hw''
            go_wp2
            go_ret
            exact ⟨ret_bool HN.out.symm, hBW.trans ((below_regrown W1 dq osq).mono hBW.size)⟩
    · have hkk : Ds.length = k := by omega
      have HN : Hid (R = decide (Ds.length ≤ 16)) := by show _ = _; rw [HR.out]; unfold docsB; rw [hkk, hm.out]; rfl
      clear hm HR
      by_cases h16 : Ds.length ≤ 16
      · go_wp2
        go_ret
        exact ⟨ret_bool (by rw [HN.out]; simp; omega), hB⟩
      · go_wp2
        go_ret
        exact ⟨ret_bool (by rw [HN.out]; simp; omega), hB⟩
set_option maxHeartbeats 1600000 in
theorem l6Docs_any (A : Option Addr) (c : Nat) (Ds : List DocD) (w : World) (h : RdD w A Ds) (hs : SmDs Ds) :
    Calls Try.prog 60 #[.slice A Ds.length c] w fun e w' => e = .returned (.bool (docsB Ds)) ∧ Below w.heap.size w w' := by
  obtain ⟨hn, hs2⟩ := hs
  have HSM := Lib.hid hs2
  clear hs2
  obtain ⟨R, hR⟩ : ∃ R, R = docsB Ds := ⟨_, rfl⟩
  rw [← hR]
  have HR := Lib.hid hR
  clear hR
  go_enter Try.func60, Try.ntmps60
  go_wp2_with fail
  go_loopw [3] (fun iv wr => ∃ k : Nat, k ≤ Ds.length ∧ iv = .int .i64 k ∧ Hid (toD Ds k = true) ∧ Below w.heap.size w wr) (fun iv _ => Ds.length - (intOf iv).toNat)
  case atStart => exact ⟨0, Nat.zero_le _, rfl, rfl, Below.refl _ _⟩
  case round =>
    obtain ⟨k, hk, rfl, hm, hB⟩ := hrel
    have hBs := hB.size
    by_cases hlt : k < Ds.length
    · have hr := h.below hB
      obtain ⟨b, off, A1, c1, A2, c2, rfl, hb, x0, x1, x2, hhd0⟩ := hr k hlt
      have hi0 : (k : Int) < (Ds.length : Int) := by omega
      have hok := okD_at hlt
      have HFALSE := Lib.hid (toD_false hlt)
      have HSUCC := Lib.hid (toD_succ Ds k)
      have hsm := HSM.out _ (List.getElem_mem hlt)
      cases hdb : docB Ds[k] with
      | false =>
        have HN : Hid (R = false) := by show _ = _; rw [HR.out, HFALSE.out (by rw [hok, hdb]; rfl)]
        clear hok HFALSE HSUCC hm
        generalize Ds[k] = d at x0 x1 x2 hhd0 hsm hdb
        obtain ⟨id, fs, ns⟩ := d
        dsimp only at x0 x1 x2
        have hBW := hB
        have g0 := x0
        have g1 := x1
        have g2 := x2
        have hhd := hhd0
        go_wp2_with fail
        clear x0 x1 x2 hB hBs hr hhd0
        generalize wr = W1 at hBW g0 g1 g2 hhd ⊢
        have k0 := cell_regrown g0
        have k1 := cell_regrown g1
        have k2 := cell_regrown g2
        refine region_qw (by kernel_rfl) (by kernel_rfl) ?_
        repeat (
          refine qw_step (fun K hK => ?_)
          go_simp
          first
            | (refine hK _ ?_; clear hK K)
            | (apply Exists.intro
               refine ⟨fun _ => ?_, hK _ ?_⟩
               (first | (go_at_call 90; exact cL6Ok ⟨id, fs, ns⟩ A1 A2 c1 c2 _ hdb _ hhd hsm _ _))
               clear hK K))
        refine qw_nil ?_
        intro _ hw'
        obtain ⟨⟨dq, osq⟩, hw''⟩ := hw'
        subst hw''
        go_wp2
        go_ret
        exact ⟨ret_bool HN.out.symm, hBW.trans ((below_regrown W1 dq osq).mono hBW.size)⟩
      | true =>
        rw [hdb, Bool.true_and] at hok
        by_cases hk0 : k = 0
        · have HS : Hid (toD Ds (k + 1) = true) := by show _ = _; rw [HSUCC.out, hm.out, hok, decide_eq_true hk0]; rfl
          have hkz : decide ((0 : Int) < (k : Int)) = false := decide_eq_false (by omega)
          have hkz2 : decide (0 < k) = false := decide_eq_false (by omega)
          clear hok HFALSE HSUCC hm hk0
          generalize Ds[k] = d at x0 x1 x2 hhd0 hsm hdb
          obtain ⟨id, fs, ns⟩ := d
          dsimp only at x0 x1 x2
          have hBW := hB
          have g0 := x0
          have g1 := x1
          have g2 := x2
          have hhd := hhd0
          go_wp2_with fail
          clear x0 x1 x2 hB hBs hr hhd0
          generalize wr = W1 at hBW g0 g1 g2 hhd ⊢
          have k0 := cell_regrown g0
          have k1 := cell_regrown g1
          have k2 := cell_regrown g2
          refine region_qw (by kernel_rfl) (by kernel_rfl) ?_
          repeat (
            refine qw_step (fun K hK => ?_)
            go_simp
            first
              | (refine hK _ ?_; clear hK K)
              | (apply Exists.intro
                 refine ⟨fun _ => ?_, hK _ ?_⟩
                 (first | (go_at_call 90; exact cL6Ok ⟨id, fs, ns⟩ A1 A2 c1 c2 _ hdb _ hhd hsm _ _))
                 clear hK K))
          refine qw_nil ?_
          intro _ hw'
          obtain ⟨⟨dq, osq⟩, hw''⟩ := hw'
          subst hw''
          go_wp2
          go_roundw
          case rel => exact ⟨k + 1, by omega, by go_num, HS, hBW.trans ((below_regrown W1 dq osq).mono hBW.size)⟩
          case measure => simp [intOf]; omega
        · obtain ⟨j0, hkj⟩ : ∃ j0, k = j0 + 1 := ⟨k - 1, by omega⟩
          have hjl : j0 < Ds.length := by omega
          obtain ⟨b', off', _, _, _, _, e9, _, y0, _⟩ := hr j0 hjl
          simp only [Option.some.injEq, Addr.mk.injEq, and_true] at e9
          obtain ⟨rfl, rfl⟩ := e9
          rw [decide_eq_false hk0, Bool.false_or, show k - 1 = j0 by omega, getDD hjl] at hok
          have HOK := Lib.hid hok
          clear hok
          have hi2 : (j0 : Int) < (Ds.length : Int) := by omega
          have hz1 : (0 : Int) ≤ (j0 : Int) := by omega
          have hw3 : IntKind.i64.wrap ((k : Int) - 1) = (j0 : Int) := by rw [show (k : Int) - 1 = (j0 : Int) by omega]; exact IntWalk.i64_in _ (by omega)
          have hkz : decide ((0 : Int) < (k : Int)) = true := decide_eq_true (by omega)
          have hkz2 : decide (0 < k) = true := decide_eq_true (by omega)
          clear hkj
          by_cases hls : Ds[j0].id < Ds[k].id
          · have HS : Hid (toD Ds (k + 1) = true) := by show _ = _; rw [HSUCC.out, hm.out, HOK.out, decide_eq_true hls]; rfl
            clear HOK HFALSE HSUCC hm hk0
            generalize Ds[k] = d at x0 x1 x2 hhd0 hsm hdb hls
            generalize Ds[j0].id = id' at y0 hls
            obtain ⟨id, fs, ns⟩ := d
            dsimp only at x0 x1 x2 hls
            have hcd : decide (id ≤ id') = false := decide_eq_false (by omega)
            have hBW := hB
            have g0 := x0
            have g1 := x1
            have g2 := x2
            have hhd := hhd0
            have y1 : (wr).cell? ⟨b, off + j0 * 3, none⟩ = some (.int .i64 id') := y0
            go_wp2_with fail
            clear x0 x1 x2 hB hBs hr hhd0 y0
            generalize wr = W1 at hBW g0 g1 g2 hhd y1 ⊢
            have k0 := cell_regrown g0
            have k1 := cell_regrown g1
            have k2 := cell_regrown g2
            have k3 := cell_regrown y1
            refine region_qw (by kernel_rfl) (by kernel_rfl) ?_
            repeat (
              refine qw_step (fun K hK => ?_)
              go_simp
              first
                | (refine hK _ ?_; clear hK K)
                | (apply Exists.intro
                   refine ⟨fun _ => ?_, hK _ ?_⟩
                   (first | (go_at_call 90; exact cL6Ok ⟨id, fs, ns⟩ A1 A2 c1 c2 _ hdb _ hhd hsm _ _))
                   clear hK K))
            refine qw_nil ?_
            intro _ hw'
            obtain ⟨⟨dq, osq⟩, hw''⟩ := hw'
            subst hw''
            go_wp2
            go_roundw
            case rel => exact ⟨k + 1, by omega, by go_num, HS, hBW.trans ((below_regrown W1 dq osq).mono hBW.size)⟩
            case measure => simp [intOf]; omega
          · have HN : Hid (R = false) := by show _ = _; rw [HR.out, HFALSE.out (by rw [HOK.out, decide_eq_false hls])]
            clear HOK HFALSE HSUCC hm hk0
            generalize Ds[k] = d at x0 x1 x2 hhd0 hsm hdb hls
            generalize Ds[j0].id = id' at y0 hls
            obtain ⟨id, fs, ns⟩ := d
            dsimp only at x0 x1 x2 hls
            have hcd : decide (id ≤ id') = true := decide_eq_true (by omega)
            have hBW := hB
            have g0 := x0
            have g1 := x1
            have g2 := x2
            have hhd := hhd0
            have y1 : (wr).cell? ⟨b, off + j0 * 3, none⟩ = some (.int .i64 id') := y0
            go_wp2_with fail
            clear x0 x1 x2 hB hBs hr hhd0 y0
            generalize wr = W1 at hBW g0 g1 g2 hhd y1 ⊢
            have k0 := cell_regrown g0
            have k1 := cell_regrown g1
            have k2 := cell_regrown g2
            have k3 := cell_regrown y1
            refine region_qw (by kernel_rfl) (by kernel_rfl) ?_
            repeat (
              refine qw_step (fun K hK => ?_)
              go_simp
              first
                | (refine hK _ ?_; clear hK K)
                | (apply Exists.intro
                   refine ⟨fun _ => ?_, hK _ ?_⟩
                   (first | (go_at_call 90; exact cL6Ok ⟨id, fs, ns⟩ A1 A2 c1 c2 _ hdb _ hhd hsm _ _))
                   clear hK K))
            refine qw_nil ?_
            intro _ hw'
            obtain ⟨⟨dq, osq⟩, hw''⟩ := hw'
            subst hw''
            go_wp2
            go_ret
            exact ⟨ret_bool HN.out.symm, hBW.trans ((below_regrown W1 dq osq).mono hBW.size)⟩
    · have hkk : Ds.length = k := by omega
      have HN : Hid (R = decide (Ds.length ≤ 16)) := by show _ = _; rw [HR.out]; unfold docsB; rw [hkk, hm.out]; rfl
      clear hm HR
      by_cases h16 : Ds.length ≤ 16
      · go_wp2
        go_ret
        exact ⟨ret_bool (by rw [HN.out]; simp; omega), hB⟩
      · go_wp2
        go_ret
        exact ⟨ret_bool (by rw [HN.out]; simp; omega), hB⟩
end Go.Proofs.Yteomiaffdbbpoaa
