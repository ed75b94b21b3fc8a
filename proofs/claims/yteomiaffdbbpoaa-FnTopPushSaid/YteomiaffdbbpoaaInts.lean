/-
  Slices of integers in memory, and what the small readers answer of them: UpOk, l3Up, l8Has, foIn, foInts, slices.Contains.
-/
import Derived.Test.YteomiaffdbbpoaaSl
import Derived.Test.YteomiaffdbbpoaaShelf
namespace Go.Proofs.Yteomiaffdbbpoaa
open Go.RowKit
set_option linter.unusedVariables false

def ints (L : List Int) : List Value := L.map (Value.int .i64)
theorem ints_len (L : List Int) : (ints L).length = L.length := by simp [ints]
theorem ints_get {L : List Int} {k : Nat} (hk : k < L.length) : (ints L)[k]? = some (.int .i64 L[k]) := by simp [ints, hk]
theorem ints_append (L M : List Int) : ints (L ++ M) = ints L ++ ints M := by simp [ints]
abbrev RdI (w : World) (A : Option Addr) (L : List Int) : Prop := Rds w 1 A L.length (ints L)
theorem Rds.at1 {w : World} {A : Option Addr} {L : List Int} (h : RdI w A L) {k : Nat} (hk : k < L.length) :
    ∃ b off, A = some ⟨b, off, none⟩ ∧ b < w.heap.size ∧ w.cell? ⟨b, off + k, none⟩ = some (.int .i64 L[k]) := by
  obtain ⟨b, off, e, hlt, hc⟩ := h.2 (by omega)
  exact ⟨b, off, e, hlt, hc k _ (ints_get hk)⟩
theorem Rds.all1 {w : World} {b off : Nat} {L : List Int} (h : RdI w (some ⟨b, off, none⟩) L) {k : Nat} (hk : k < L.length) :
    b < w.heap.size ∧ w.cell? ⟨b, off + k, none⟩ = some (.int .i64 L[k]) := by
  obtain ⟨b', off', e, h1, h2⟩ := h.at1 hk
  simp only [Option.some.injEq, Addr.mk.injEq, and_true] at e
  obtain ⟨rfl, rfl⟩ := e
  exact ⟨h1, h2⟩

/-! a call inside a region that only reads: a callee that hands the world back as it was; one that draws. -/
section
variable {P : Program} {f : FuncId} {args : Array Value} {w : World} {v : Value}
theorem qsame {n : Nat} (h : Calls P f args (w.drewN n) fun e w' => e = .returned v ∧ w.drewN n = w') : Calls P f args (w.drewN n) fun e w'' => e = .returned v ∧ ∃ m, w'' = w.drewN m :=
  h.mono fun _ _ ⟨he, hm⟩ => ⟨he, n, hm.symm⟩
theorem qsame2 {a n : Nat} (h : Calls P f args (w.drewN (a + n)) fun e w' => e = .returned v ∧ w.drewN (a + n) = w') : Calls P f args (w.drewN (a + n)) fun e w'' => e = .returned v ∧ ∃ m, w'' = w.drewN (a + m) :=
  h.mono fun _ _ ⟨he, hm⟩ => ⟨he, n, hm.symm⟩
theorem qdrew {n : Nat} (h : Calls P f args (w.drewN n) fun e w' => e = .returned v ∧ ∃ m, w' = (w.drewN n).drewN m) : Calls P f args (w.drewN n) fun e w'' => e = .returned v ∧ ∃ m, w'' = w.drewN m :=
  h.mono fun _ _ ⟨he, m, hm⟩ => ⟨he, n + m, by rw [hm, World.drewN_drewN]⟩
theorem qdrew2 {a n : Nat} (h : Calls P f args (w.drewN (a + n)) fun e w' => e = .returned v ∧ ∃ m, w' = (w.drewN (a + n)).drewN m) : Calls P f args (w.drewN (a + n)) fun e w'' => e = .returned v ∧ ∃ m, w'' = w.drewN (a + m) :=
  h.mono fun _ _ ⟨he, m, hm⟩ => ⟨he, n + m, by rw [hm, World.drewN_drewN, Nat.add_assoc]⟩
end

/-- numbers that ascend from behind p, each in its bounds. -/
def upR : Int → List Int → Bool
  | _, [] => true
  | p, x :: r => decide (p < x) && wi x 0 999999999 && upR x r
def upB (L : List Int) : Bool := upR (-1) L && decide (L.length ≤ 60)
def prevI (L : List Int) (k : Nat) : Int := if k = 0 then -1 else L.getD (k - 1) 0
theorem prevI_zero (L : List Int) : prevI L 0 = -1 := rfl
theorem prevI_succ {L : List Int} {k : Nat} (hk : k < L.length) : prevI L (k + 1) = L[k] := by simp [prevI, List.getD_eq_getElem?_getD, hk]
theorem upR_drop {L : List Int} {k : Nat} (hk : k < L.length) (p : Int) : upR p (L.drop k) = (decide (p < L[k]) && wi L[k] 0 999999999 && upR L[k] (L.drop (k + 1))) := by
  rw [List.drop_eq_getElem_cons hk]; rfl
/-- x is one of L (a name, so that the walk leaves it alone). -/
def inB (L : List Int) (x : Int) : Bool := L.contains x
theorem has_drop {L : List Int} {k : Nat} (hk : k < L.length) (x : Int) : inB (L.drop k) x = (x == L[k] || inB (L.drop (k + 1)) x) := by
  unfold inB
  rw [List.drop_eq_getElem_cons hk, List.contains_cons]
theorem eq_drop {L M : List Int} {k : Nat} (hk : k < L.length) (hk' : k < M.length) : decide (L.drop k = M.drop k) = (decide (L[k] = M[k]) && decide (L.drop (k + 1) = M.drop (k + 1))) := by
  rw [List.drop_eq_getElem_cons hk, List.drop_eq_getElem_cons hk']
  rw [decide_eq_decide.2 (by rw [List.cons.injEq] : (L[k] :: List.drop (k + 1) L = M[k] :: List.drop (k + 1) M) ↔ (L[k] = M[k] ∧ List.drop (k + 1) L = List.drop (k + 1) M)), Bool.decide_and]

theorem upOk_any (A : Option Addr) (c : Nat) (L : List Int) (w : World) (h : RdI w A L) (hn : L.length ≤ 9223372036854775000) :
    Calls Try.prog 23 #[.slice A L.length c] w fun e w' => e = .returned (.bool (upB L)) ∧ ∃ q, w' = w.drewN q := by
  go_enter Try.func23, Try.ntmps23
  go_wp2
  go_loopw [3, 4, 7] (fun _ _ i wr => ∃ k : Nat, k ≤ L.length ∧ i = .int .i64 k ∧ Hid (upB L = (upR (prevI L k) (L.drop k) && decide (L.length ≤ 60))) ∧ ∃ q, wr = w.drewN q) (fun _ _ i _ => L.length - (intOf i).toNat)
  case atStart => exact ⟨0, Nat.zero_le _, rfl, rfl, 0, rfl⟩
  case round =>
    obtain ⟨k, hk, rfl, hm, q, rfl⟩ := hrel
    by_cases hlt : k < L.length
    · obtain ⟨b, off, rfl, hb, x0⟩ := h.at1 hlt
      have hd := upR_drop hlt (prevI L k)
      have hnx : Hid (prevI L (k + 1) = L[k]) := prevI_succ hlt
      rcases Nat.eq_zero_or_pos k with rfl | hpos
      · rw [prevI_zero] at hd
        generalize L[0] = p at x0 hd hnx
        rw [Nat.add_zero] at x0
        cases hw : wi p 0 999999999 with
        | false =>
          have HD : Hid (upB L = false) := by show upB L = false; rw [hm.out, prevI_zero, hd, hw]; simp
          clear hd hm
          go_wp2_with (go_at_call 53; refine (within_any _ _ _ _).mono ?_; rintro e w' ⟨rfl, rfl⟩)
          go_ret
          exact ⟨ret_bool (by rw [HD.out]), _, rfl⟩
        | true =>
          have hp := wi_true.1 hw
          have HD : Hid (upB L = (upR (prevI L 1) (L.drop 1) && decide (L.length ≤ 60))) := by show upB L = _; rw [hm.out, prevI_zero, hd, hw, hnx.out, decide_eq_true (by omega : (-1 : Int) < p)]; simp
          clear hd hm hp
          go_wp2_with (go_at_call 53; refine (within_any _ _ _ _).mono ?_; rintro e w' ⟨rfl, rfl⟩)
          go_roundw
          case rel => exact ⟨1, by omega, by first | rfl | go_num, HD, _, rfl⟩
          case measure => simp [intOf]; omega
      · obtain ⟨j, rfl⟩ : ∃ j, k = j + 1 := ⟨k - 1, by omega⟩
        obtain ⟨_, y0⟩ := Rds.all1 h (k := j) (by omega)
        rw [prevI_succ (by omega)] at hd
        have hm2 : Hid (upB L = (upR (L[j]'(by omega)) (L.drop (j + 1)) && decide (L.length ≤ 60))) := by show upB L = _; rw [hm.out, prevI_succ]
        clear hm
        generalize (L[j]'(by omega)) = p at y0 hd hm2
        generalize L[j + 1] = p' at x0 hd hnx
        have x0' := x0
        rw [← Nat.add_assoc] at x0'
        have hi1 : (j : Int) + 1 < (L.length : Int) := by omega
        have hi0 : (j : Int) < (L.length : Int) := by omega
        have t1 : ((j : Int) + 1).toNat = j + 1 := by omega
        cases hw : wi p' 0 999999999 with
        | false =>
          have HD : Hid (upB L = false) := by show upB L = false; rw [hm2.out, hd, hw]; simp
          clear hd hm2
          go_wp2_with (go_at_call 53; refine (within_any _ _ _ _).mono ?_; rintro e w' ⟨rfl, rfl⟩)
          go_ret
          exact ⟨ret_bool (by rw [HD.out]), _, rfl⟩
        | true =>
          by_cases hle : p' ≤ p
          · have HD : Hid (upB L = false) := by show upB L = false; rw [hm2.out, hd, decide_eq_false (by omega)]; simp
            clear hd hm2
            go_wp2_with (go_at_call 53; refine (within_any _ _ _ _).mono ?_; rintro e w' ⟨rfl, rfl⟩)
            go_ret
            exact ⟨ret_bool (by rw [HD.out]), _, rfl⟩
          · have HD : Hid (upB L = (upR (prevI L (j + 2)) (L.drop (j + 2)) && decide (L.length ≤ 60))) := by show upB L = _; rw [hm2.out, hd, hw, hnx.out, decide_eq_true (by omega : p < p')]; simp
            clear hd hm2
            go_wp2_with (go_at_call 53; refine (within_any _ _ _ _).mono ?_; rintro e w' ⟨rfl, rfl⟩)
            go_roundw
            case rel => exact ⟨j + 2, by omega, by go_num, HD, _, rfl⟩
            case measure => simp [intOf]; omega
    · have HD : Hid (upB L = decide (L.length ≤ 60)) := by show upB L = _; rw [hm.out, List.drop_of_length_le (by omega)]; simp [upR]
      by_cases h60 : L.length ≤ 60
      · go_wp2
        go_ret
        exact ⟨ret_bool (by rw [HD.out]; simp [h60]; omega), _, rfl⟩
      · go_wp2
        go_ret
        exact ⟨ret_bool (by rw [HD.out]; simp [h60]; omega), _, rfl⟩

theorem l3Up_any (A : Option Addr) (c : Nat) (L : List Int) (w : World) (h : RdI w A L) (hn : L.length ≤ 9223372036854775000) :
    Calls Try.prog 61 #[.slice A L.length c] w fun e w' => e = .returned (.bool (upB L)) ∧ ∃ q, w' = w.drewN q := by
  go_enter Try.func61, Try.ntmps61
  go_wp2
  go_loopw [3] (fun i wr => ∃ k : Nat, k ≤ L.length ∧ i = .int .i64 k ∧ Hid (upB L = (upR (prevI L k) (L.drop k) && decide (L.length ≤ 60))) ∧ ∃ q, wr = w.drewN q) (fun i _ => L.length - (intOf i).toNat)
  case atStart => exact ⟨0, Nat.zero_le _, rfl, rfl, 0, rfl⟩
  case round =>
    obtain ⟨k, hk, rfl, hm, q, rfl⟩ := hrel
    by_cases hlt : k < L.length
    · obtain ⟨b, off, rfl, hb, x0⟩ := h.at1 hlt
      have hd := upR_drop hlt (prevI L k)
      have hnx : Hid (prevI L (k + 1) = L[k]) := prevI_succ hlt
      rcases Nat.eq_zero_or_pos k with rfl | hpos
      · rw [prevI_zero] at hd
        have hi0 : (0 : Int) < (L.length : Int) := by omega
        generalize L[0] = p at x0 hd hnx
        rw [Nat.add_zero] at x0
        cases hw : wi p 0 999999999 with
        | false =>
          have HD : Hid (upB L = false) := by show upB L = false; rw [hm.out, prevI_zero, hd, hw]; simp
          clear hd hm
          go_wp2
          go_quiet ((go_at_call 73; first | exact qsame (l1In_any _ _ _ _) | exact qsame2 (l1In_any _ _ _ _)))
          go_wp2
          go_ret
          exact ⟨ret_bool (by rw [HD.out]), _, (by first | rfl | exact World.drewN_drewN _ _ _)⟩
        | true =>
          have hp := wi_true.1 hw
          have HD : Hid (upB L = (upR (prevI L 1) (L.drop 1) && decide (L.length ≤ 60))) := by show upB L = _; rw [hm.out, prevI_zero, hd, hw, hnx.out, decide_eq_true (by omega : (-1 : Int) < p)]; simp
          clear hd hm hp
          go_wp2
          go_quiet ((go_at_call 73; first | exact qsame (l1In_any _ _ _ _) | exact qsame2 (l1In_any _ _ _ _)))
          go_wp2
          go_roundw
          case rel => exact ⟨1, by omega, by first | rfl | go_num, HD, _, (by first | rfl | exact World.drewN_drewN _ _ _)⟩
          case measure => simp [intOf]; omega
      · obtain ⟨j, rfl⟩ : ∃ j, k = j + 1 := ⟨k - 1, by omega⟩
        obtain ⟨_, y0⟩ := Rds.all1 h (k := j) (by omega)
        rw [prevI_succ (by omega)] at hd
        have hm2 : Hid (upB L = (upR (L[j]'(by omega)) (L.drop (j + 1)) && decide (L.length ≤ 60))) := by show upB L = _; rw [hm.out, prevI_succ]
        clear hm
        generalize (L[j]'(by omega)) = p at y0 hd hm2
        generalize L[j + 1] = p' at x0 hd hnx
        have x0' := x0
        rw [← Nat.add_assoc] at x0'
        have hi1 : (j : Int) + 1 < (L.length : Int) := by omega
        have hi0 : (j : Int) < (L.length : Int) := by omega
        have t1 : ((j : Int) + 1).toNat = j + 1 := by omega
        cases hw : wi p' 0 999999999 with
        | false =>
          have HD : Hid (upB L = false) := by show upB L = false; rw [hm2.out, hd, hw]; simp
          clear hd hm2
          go_wp2
          go_quiet ((go_at_call 73; first | exact qsame (l1In_any _ _ _ _) | exact qsame2 (l1In_any _ _ _ _)))
          go_wp2
          go_ret
          exact ⟨ret_bool (by rw [HD.out]), _, (by first | rfl | exact World.drewN_drewN _ _ _)⟩
        | true =>
          by_cases hle : p' ≤ p
          · have HD : Hid (upB L = false) := by show upB L = false; rw [hm2.out, hd, decide_eq_false (by omega)]; simp
            clear hd hm2
            go_wp2
            go_quiet ((go_at_call 73; first | exact qsame (l1In_any _ _ _ _) | exact qsame2 (l1In_any _ _ _ _)))
            go_wp2
            go_ret
            exact ⟨ret_bool (by rw [HD.out]), _, (by first | rfl | exact World.drewN_drewN _ _ _)⟩
          · have HD : Hid (upB L = (upR (prevI L (j + 2)) (L.drop (j + 2)) && decide (L.length ≤ 60))) := by show upB L = _; rw [hm2.out, hd, hw, hnx.out, decide_eq_true (by omega : p < p')]; simp
            clear hd hm2
            go_wp2
            go_quiet ((go_at_call 73; first | exact qsame (l1In_any _ _ _ _) | exact qsame2 (l1In_any _ _ _ _)))
            go_wp2
            go_roundw
            case rel => exact ⟨j + 2, by omega, by go_num, HD, _, (by first | rfl | exact World.drewN_drewN _ _ _)⟩
            case measure => simp [intOf]; omega
    · have HD : Hid (upB L = decide (L.length ≤ 60)) := by show upB L = _; rw [hm.out, List.drop_of_length_le (by omega)]; simp [upR]
      by_cases h60 : L.length ≤ 60
      · go_wp2
        go_ret
        exact ⟨ret_bool (by rw [HD.out]; simp [h60]; omega), _, (by first | rfl | exact World.drewN_drewN _ _ _)⟩
      · go_wp2
        go_ret
        exact ⟨ret_bool (by rw [HD.out]; simp [h60]; omega), _, (by first | rfl | exact World.drewN_drewN _ _ _)⟩

theorem l8Has_any (A : Option Addr) (c : Nat) (L : List Int) (x : Int) (w : World) (h : RdI w A L) (hn : L.length ≤ 9223372036854775000) :
    Calls Try.prog 63 #[.slice A L.length c, .int .i64 x] w fun e w' => e = .returned (.bool (inB L x)) ∧ w = w' := by
  go_enter Try.func63, Try.ntmps63
  go_wp2
  go_loop [5] (fun i => ∃ k : Nat, k ≤ L.length ∧ i = .int .i64 k ∧ Hid (inB L x = inB (L.drop k) x)) (fun i => L.length - (intOf i).toNat)
  case atStart => exact ⟨0, Nat.zero_le _, rfl, rfl⟩
  case round =>
    obtain ⟨k, hk, rfl, hm⟩ := hrel
    by_cases hlt : k < L.length
    · obtain ⟨b, off, rfl, hb, x0⟩ := h.at1 hlt
      have hd := has_drop hlt x
      generalize L[k] = p at x0 hd
      by_cases he : p = x
      · have HD : Hid (inB L x = true) := by show inB L x = true; rw [hm.out, hd, he]; simp
        clear hd hm
        subst he
        go_wp2
        go_ret
        exact ⟨ret_bool (by rw [HD.out]), rfl⟩
      · have HD : Hid (inB L x = inB (L.drop (k + 1)) x) := by show inB L x = _; rw [hm.out, hd, beq_eq_false_iff_ne.2 (fun e => he e.symm)]; simp
        clear hd hm
        go_wp2
        go_round
        case rel => exact ⟨k + 1, by omega, by go_num, HD⟩
        case measure => simp [intOf]; omega
    · have HD : Hid (inB L x = false) := by show inB L x = _; rw [hm.out, List.drop_of_length_le (by omega)]; rfl
      go_wp2
      go_ret
      exact ⟨ret_bool (by rw [HD.out]), rfl⟩
theorem foIn_any (A : Option Addr) (c : Nat) (L : List Int) (x : Int) (w : World) (h : RdI w A L) (hn : L.length ≤ 9223372036854775000) :
    Calls Try.prog 25 #[.slice A L.length c, .int .i64 x] w fun e w' => e = .returned (.bool (inB L x)) ∧ w = w' := by
  go_enter Try.func25, Try.ntmps25
  go_wp2
  go_loop [5] (fun i => ∃ k : Nat, k ≤ L.length ∧ i = .int .i64 k ∧ Hid (inB L x = inB (L.drop k) x)) (fun i => L.length - (intOf i).toNat)
  case atStart => exact ⟨0, Nat.zero_le _, rfl, rfl⟩
  case round =>
    obtain ⟨k, hk, rfl, hm⟩ := hrel
    by_cases hlt : k < L.length
    · obtain ⟨b, off, rfl, hb, x0⟩ := h.at1 hlt
      have hd := has_drop hlt x
      generalize L[k] = p at x0 hd
      by_cases he : p = x
      · have HD : Hid (inB L x = true) := by show inB L x = true; rw [hm.out, hd, he]; simp
        clear hd hm
        subst he
        go_wp2
        go_ret
        exact ⟨ret_bool (by rw [HD.out]), rfl⟩
      · have HD : Hid (inB L x = inB (L.drop (k + 1)) x) := by show inB L x = _; rw [hm.out, hd, beq_eq_false_iff_ne.2 (fun e => he e.symm)]; simp
        clear hd hm
        go_wp2
        go_round
        case rel => exact ⟨k + 1, by omega, by go_num, HD⟩
        case measure => simp [intOf]; omega
    · have HD : Hid (inB L x = false) := by show inB L x = _; rw [hm.out, List.drop_of_length_le (by omega)]; rfl
      go_wp2
      go_ret
      exact ⟨ret_bool (by rw [HD.out]), rfl⟩
theorem contains_any (A : Option Addr) (c : Nat) (L : List Int) (x : Int) (w : World) (h : RdI w A L) (hn : L.length ≤ 9223372036854775000) :
    Calls Try.prog 89 #[.slice A L.length c, .int .i64 x] w fun e w' => e = .returned (.bool (inB L x)) ∧ w = w' := by
  rcases Nat.eq_zero_or_pos L.length with h0 | hp
  · obtain rfl : L = [] := List.length_eq_zero_iff.1 h0
    refine (Try.slices_Contains_int_empty A c x w).mono ?_
    rintro e w' ⟨rfl, rfl⟩
    exact ⟨rfl, rfl⟩
  · obtain ⟨b, off, rfl, hb, hc⟩ := h.2 hp
    refine (Try.slices_Contains_int b off L.length c L x w (Nat.le_refl _) (by omega) ?_).mono ?_
    · intro j hj
      rw [hc j _ (ints_get hj), List.getD_eq_getElem?_getD, List.getElem?_eq_getElem hj]; rfl
    · rintro e w' ⟨rfl, rfl⟩
      exact ⟨by rw [List.take_length]; rfl, rfl⟩
theorem foInts_any (A A' : Option Addr) (c c' : Nat) (L M : List Int) (w : World) (h : RdI w A L) (h' : RdI w A' M) (hn : L.length ≤ 9223372036854775000) (hn' : M.length ≤ 9223372036854775000) :
    Calls Try.prog 20 #[.slice A L.length c, .slice A' M.length c'] w fun e w' => e = .returned (.bool (decide (L = M))) ∧ ∃ q, w' = w.drewN q := by
  by_cases hl : L.length = M.length
  · go_enter Try.func20, Try.ntmps20
    go_wp2
    go_loopw [5] (fun i wr => ∃ k : Nat, k ≤ L.length ∧ i = .int .i64 k ∧ Hid (decide (L = M) = decide (L.drop k = M.drop k)) ∧ ∃ q, wr = w.drewN q) (fun i _ => L.length - (intOf i).toNat)
    case atStart => exact ⟨0, Nat.zero_le _, rfl, rfl, 0, rfl⟩
    case round =>
      obtain ⟨k, hk, rfl, hm, q, rfl⟩ := hrel
      by_cases hlt : k < L.length
      · have hlt' : k < M.length := by omega
        obtain ⟨b, off, rfl, hb, x0⟩ := h.at1 hlt
        obtain ⟨b', off', rfl, hb', x0'⟩ := h'.at1 hlt'
        have hd := eq_drop hlt hlt'
        generalize L[k] = p at x0 hd
        generalize M[k] = p' at x0' hd
        have hi0 : (k : Int) < (L.length : Int) := by omega
        have hi1 : (k : Int) < (M.length : Int) := by omega
        by_cases he : p = p'
        · have HD : Hid (decide (L = M) = decide (L.drop (k + 1) = M.drop (k + 1))) := by show decide (L = M) = _; rw [hm.out, hd, decide_eq_true he]; simp
          clear hd hm
          subst he
          go_wp2
          go_quiet (fail)
          go_wp2
          go_roundw
          case rel => exact ⟨k + 1, by omega, by go_num, HD, _, (by first | rfl | exact World.drewN_drewN _ _ _)⟩
          case measure => simp [intOf]; omega
        · have HD : Hid (decide (L = M) = false) := by show decide (L = M) = _; rw [hm.out, hd, decide_eq_false he]; simp
          clear hd hm
          go_wp2
          go_quiet (fail)
          go_wp2
          go_ret
          exact ⟨ret_bool (by rw [HD.out]), _, (by first | rfl | exact World.drewN_drewN _ _ _)⟩
      · have HD : Hid (decide (L = M) = true) := by show decide (L = M) = _; rw [hm.out, List.drop_of_length_le (by omega), List.drop_of_length_le (by omega)]; rfl
        go_wp2
        go_ret
        exact ⟨ret_bool (by rw [HD.out]), q, rfl⟩
  · have HD : Hid (decide (L = M) = false) := by show decide (L = M) = _; exact decide_eq_false (fun e => hl (by rw [e]))
    go_enter Try.func20, Try.ntmps20
    go_wp2
    go_ret
    exact ⟨ret_bool (by rw [HD.out]), 0, rfl⟩
theorem eqIntS_any (A A' : Option Addr) (c c' : Nat) (L M : List Int) (w : World) (h : RdI w A L) (h' : RdI w A' M) (hn : L.length ≤ 9223372036854775000) (hn' : M.length ≤ 9223372036854775000) :
    Calls Try.prog 33 #[.slice A L.length c, .slice A' M.length c'] w fun e w' => e = .returned (.bool (decide (L = M))) ∧ ∃ q, w' = w.drewN q := by
  by_cases hl : L.length = M.length
  · go_enter Try.func33, Try.ntmps33
    go_wp2
    go_loopw [5] (fun i wr => ∃ k : Nat, k ≤ L.length ∧ i = .int .i64 k ∧ Hid (decide (L = M) = decide (L.drop k = M.drop k)) ∧ ∃ q, wr = w.drewN q) (fun i _ => L.length - (intOf i).toNat)
    case atStart => exact ⟨0, Nat.zero_le _, rfl, rfl, 0, rfl⟩
    case round =>
      obtain ⟨k, hk, rfl, hm, q, rfl⟩ := hrel
      by_cases hlt : k < L.length
      · have hlt' : k < M.length := by omega
        obtain ⟨b, off, rfl, hb, x0⟩ := h.at1 hlt
        obtain ⟨b', off', rfl, hb', x0'⟩ := h'.at1 hlt'
        have hd := eq_drop hlt hlt'
        generalize L[k] = p at x0 hd
        generalize M[k] = p' at x0' hd
        have hi0 : (k : Int) < (L.length : Int) := by omega
        have hi1 : (k : Int) < (M.length : Int) := by omega
        by_cases he : p = p'
        · have HD : Hid (decide (L = M) = decide (L.drop (k + 1) = M.drop (k + 1))) := by show decide (L = M) = _; rw [hm.out, hd, decide_eq_true he]; simp
          clear hd hm
          subst he
          go_wp2
          go_quiet (fail)
          go_wp2
          go_roundw
          case rel => exact ⟨k + 1, by omega, by go_num, HD, _, (by first | rfl | exact World.drewN_drewN _ _ _)⟩
          case measure => simp [intOf]; omega
        · have HD : Hid (decide (L = M) = false) := by show decide (L = M) = _; rw [hm.out, hd, decide_eq_false he]; simp
          clear hd hm
          go_wp2
          go_quiet (fail)
          go_wp2
          go_ret
          exact ⟨ret_bool (by rw [HD.out]), _, (by first | rfl | exact World.drewN_drewN _ _ _)⟩
      · have HD : Hid (decide (L = M) = true) := by show decide (L = M) = _; rw [hm.out, List.drop_of_length_le (by omega), List.drop_of_length_le (by omega)]; rfl
        go_wp2
        go_ret
        exact ⟨ret_bool (by rw [HD.out]), q, rfl⟩
  · have HD : Hid (decide (L = M) = false) := by show decide (L = M) = _; exact decide_eq_false (fun e => hl (by rw [e]))
    go_enter Try.func33, Try.ntmps33
    go_wp2
    go_ret
    exact ⟨ret_bool (by rw [HD.out]), 0, rfl⟩
end Go.Proofs.Yteomiaffdbbpoaa
