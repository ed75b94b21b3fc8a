/-
  Contract of spec.l8Put.
-/
import Derived.Test.YteomiaffdbbpoaaSrc
namespace Go.Proofs.Yteomiaffdbbpoaa
open Go.RowKit
set_option linter.unusedVariables false

/-- n put into a list that ascends. -/
def putI : List Int → Int → List Int
  | [], n => [n]
  | x :: r, n => if x < n then x :: putI r n else if x = n then x :: r else n :: x :: r
theorem putI_at : ∀ {L : List Int} {k : Nat} {n : Int}, (∀ j, (h : j < L.length) → j < k → L[j] < n) → k ≤ L.length → ((h : k < L.length) → ¬ L[k] < n) →
    putI L n = if (h : k < L.length) → L[k] ≠ n then L.take k ++ [n] ++ L.drop k else L
  | [], k, n, _, hk, _ => by simp [putI]
  | x :: r, 0, n, _, _, h2 => by
    have h3 := h2 (by simp)
    simp only [List.getElem_cons_zero] at h3
    unfold putI
    rw [if_neg h3]
    by_cases e : x = n
    · rw [if_pos e, if_neg (by simp [e])]
    · rw [if_neg e, if_pos (by simp [e])]; simp
  | x :: r, k + 1, n, h1, hk, h2 => by
    have h3 : x < n := by have := h1 0 (by simp) (by omega); simpa using this
    have ih := putI_at (L := r) (k := k) (n := n) (fun j h hj => by have := h1 (j + 1) (by simp; omega) (by omega); simpa using this) (by simp at hk; omega) (fun h => by have := h2 (by simp; omega); simpa using this)
    unfold putI
    rw [if_pos h3, ih]
    by_cases hc : (h : k < r.length) → r[k] ≠ n
    · rw [if_pos hc, if_pos (fun h => by have := hc (by simp at h; omega); simpa using this)]; simp
    · rw [if_neg hc, if_neg (fun h => hc (fun h4 => by have := h (by simp; omega); simpa using this))]

theorem Src.take {w : World} {g c c' : Nat} {L : List Int} (h : Src w (some ⟨g, 0, none⟩) c L) {k : Nat} (hk : k ≤ L.length) : Src w (some ⟨g, 0, none⟩) c' (L.take k) := by
  have hl : (L.take k).length = k := by simp; omega
  refine ⟨⟨by rw [ints_len, Nat.mul_one], fun hn => ?_⟩, .inr ⟨_, rfl⟩⟩
  rw [hl] at hn
  obtain ⟨b', off', e, hlt, hc⟩ := h.1.2 (by omega)
  refine ⟨b', off', e, hlt, fun j u hu => hc j u ?_⟩
  rw [ints, List.map_take, List.getElem?_take] at hu
  split at hu
  · exact hu
  · cases hu
theorem Src.drop {w : World} {g c c' : Nat} {L : List Int} (h : Src w (some ⟨g, 0, none⟩) c L) {k : Nat} : Src w (some ⟨g, k, none⟩) c' (L.drop k) := by
  refine ⟨⟨by rw [ints_len, Nat.mul_one], fun hn => ?_⟩, .inr ⟨_, rfl⟩⟩
  have hk : k < L.length := by rw [List.length_drop] at hn; omega
  obtain ⟨b', off', e, hlt, hc⟩ := h.1.2 (by omega)
  simp only [Option.some.injEq, Addr.mk.injEq, and_true] at e
  obtain ⟨rfl, rfl⟩ := e
  refine ⟨g, k, rfl, hlt, fun j u hu => ?_⟩
  rw [ints, List.map_drop, List.getElem?_drop] at hu
  have := hc _ u hu
  rwa [Nat.zero_add] at this
theorem own_cap {w : World} {base g c : Nat} {L : List Int} (h : OwnI w base (.slice (some ⟨g, 0, none⟩) L.length c) L) : L.length ≤ c ∧ c ≤ 9223372036854775807 ∧ base ≤ g ∧ g < w.heap.size := by
  have h2 := h.lt g rfl
  rcases h.2 with ⟨h', _⟩ | ⟨g', cap, cur, hv, hb, hh, hnc, hcm, hcs, htake⟩
  · simp at h'
  · simp only [Value.slice.injEq, true_and] at hv
    obtain ⟨_, rfl⟩ := hv
    exact ⟨hnc, by unfold maxLen at hcm; omega, h2.1, h2.2⟩
section
variable {w : World} {ops : Array Oper} {rest : List Oper} {o : Oper} {a : Act} {Q : Exit → Act → World → Prop}
theorem append_srcN (hgd : o.guard = none) (s x : Operand) (ho : o.op = .call { callee := .builtin .append, args := #[s, x], argTypes := #[31, 31] })
    (base : Nat) (g n c0 : Nat) (L : List Int) (hn0 : n = L.length) (hs : a.eval s = .slice (some ⟨g, 0, none⟩) n c0) (hown : OwnI w base (.slice (some ⟨g, 0, none⟩) L.length c0) L)
    (A : Option Addr) (m c : Nat) (M : List Int) (hm : m = M.length) (hx : a.eval x = .slice A m c) (hM : Src w A c M) (hn : L.length + M.length ≤ 16777216) (hbase : base ≤ w.heap.size)
    (h : ∀ N, Hid (N = L ++ M) → ∀ g' c' w', OwnI w' base (.slice (some ⟨g', 0, none⟩) N.length c') N → Below base w w' → wpList Try.prog ops Q rest (a.put o.dst (.slice (some ⟨g', 0, none⟩) N.length c')) w') : wpList Try.prog ops Q (o :: rest) a w := by
  subst hm hn0
  exact append_src hgd s x ho base g c0 L hs hown A c M hx hM hn hbase h
end
theorem Src.empty (w : World) (ad : Addr) (c : Nat) : Src w (some ad) c [] := ⟨⟨rfl, fun h => by simp at h⟩, .inr ⟨_, rfl⟩⟩
/-- an append of one number. -/
theorem Src.lit (w : World) (n : Int) : Src (w.alloc (.cells #[.int .i64 n] 3)) (some ⟨w.heap.size, 0, none⟩) 1 [n] := by
  refine ⟨⟨rfl, fun _ => ⟨_, _, rfl, by simp, fun j u hu => ?_⟩⟩, .inr ⟨_, rfl⟩⟩
  rw [Nat.zero_add, cell_of_row _ _ j #[.int .i64 n] 3 (0, 0) (heap_alloc_new w _)]
  simpa [ints] using hu

/-- what a call hands back that turns a row of the call's own, or makes another one. -/
def Remade (base : Nat) (N : List Int) (w : World) (e : Ending) (w' : World) : Prop :=
  ∃ g' c', (e = .returned (.slice (some ⟨g', 0, none⟩) N.length c') ∧ OwnI w' base (.slice (some ⟨g', 0, none⟩) N.length c') N) ∧ Below base w w'
theorem l8Put_any (g c base : Nat) (L : List Int) (n : Int) (w : World) (h : OwnI w base (.slice (some ⟨g, 0, none⟩) L.length c) L) (hbase : base ≤ w.heap.size) (hn : L.length ≤ 4194304) :
    Calls Try.prog 77 #[.slice (some ⟨g, 0, none⟩) L.length c, .int .i64 n] w (Remade base (putI L n) w) := by
  have hR : RdI w (some ⟨g, 0, none⟩) L := Rds.own h
  have hS := h.src
  obtain ⟨hc1, hc2, _, _⟩ := own_cap h
  go_enter Try.func77, Try.ntmps77
  go_wp2
  go_loop [5] (fun i => ∃ k : Nat, k ≤ L.length ∧ i = .int .i64 k ∧ Hid (∀ j, (h : j < L.length) → j < k → L[j] < n)) (fun i => L.length - (intOf i).toNat)
  case atStart => exact ⟨0, Nat.zero_le _, rfl, fun j h hj => by omega⟩
  case round =>
    obtain ⟨k, hk, rfl, hlo⟩ := hrel
    have own0 := ownI_made w w.heap.size (Nat.le_refl _)
    have hT : Src w (some ⟨g, 0, none⟩) c (L.take k) := hS.take hk
    have hD : Src w (some ⟨g, k, none⟩) (c - k) (L.drop k) := hS.drop
    obtain ⟨X, hX⟩ : ∃ X, X = L.take k := ⟨_, rfl⟩
    obtain ⟨Y, hY⟩ : ∃ Y, Y = L.drop k := ⟨_, rfl⟩
    have hXl : Hid (k = X.length) := by show _ = _; rw [hX, List.length_take, Nat.min_eq_left hk]
    have hYl : Hid (L.length - k = Y.length) := by show _ = _; rw [hY, List.length_drop]
    have HX : Hid (X = L.take k) := hX
    have HY : Hid (Y = L.drop k) := hY
    rw [← hX] at hT
    rw [← hY] at hD
    clear hX hY
    by_cases hlt : k < L.length
    · obtain ⟨hb, x0⟩ := hR.all1 hlt
      rw [Nat.zero_add] at x0
      have hi0 : (k : Int) < (L.length : Int) := by omega
      obtain ⟨p, hp⟩ : ∃ p, p = L[k] := ⟨_, rfl⟩
      rw [← hp] at x0
      by_cases hpn : p < n
      · have hlo2 : Hid (∀ j, (h : j < L.length) → j < k + 1 → L[j] < n) := fun j h hj => by
          rcases Nat.lt_or_eq_of_le (Nat.le_of_lt_succ hj) with h2 | rfl
          · exact hlo.out j h h2
          · rw [← hp]; exact hpn
        clear hp hlo
        go_wp2
        go_round
        case rel => exact ⟨k + 1, by omega, by go_num, hlo2⟩
        case measure => simp [intOf]; omega
      · have HP : Hid (putI L n = if (h : k < L.length) → L[k] ≠ n then L.take k ++ [n] ++ L.drop k else L) := putI_at hlo.out hk (fun _ => by rw [← hp]; exact hpn)
        by_cases he : p = n
        · have HQ : Hid (putI L n = L) := by show putI L n = L; rw [HP.out, if_neg (fun hh => hh hlt (by rw [← hp]; exact he))]
          clear HP hp hlo
          go_wp2
          go_ret
          exact ⟨g, c, ⟨by rw [HQ.out]; rfl, by rw [HQ.out]; exact h⟩, Below.refl _ _⟩
        · have HQ : Hid (putI L n = X ++ [n] ++ Y) := by show putI L n = _; rw [HX.out, HY.out, HP.out, if_pos (fun _ => by rw [← hp]; exact he)]
          clear HP hp hlo
          rcases Nat.eq_zero_or_pos k with rfl | hk0
          all_goals
            go_wp2_with (at_builtin; refine append_srcN rfl _ _ rfl w.heap.size _ _ _ [] rfl rfl own0 _ _ _ X hXl.out rfl (hT.below (by (repeat' (first | exact Below.refl _ _ | apply Below.alloc | apply Below.setCell | apply Below.drew | apply below_draws)) <;> (first | omega | (simp <;> omega)))) (by simp; have := hXl.out; omega) (by simp <;> omega) ?_)
            intro L1 hL1 g1 c1 w1 own1 hb1
            obtain rfl : L1 = X := hL1.out
            have hB1 : Below w.heap.size w w1 := Below.trans (by (repeat' (first | exact Below.refl _ _ | apply Below.alloc | apply Below.setCell | apply Below.drew | apply below_draws)) <;> (first | omega | (simp <;> omega))) hb1
            clear hb1 hL1
            have hs1 := hB1.size
            have own1' := own_below own1 (w' := w1.alloc (.cells #[.int .i64 n] 3)) (by (repeat' (first | exact Below.refl _ _ | apply Below.alloc | apply Below.setCell | apply Below.drew | apply below_draws)) <;> (first | omega | (simp <;> omega)))
            have hl1 := Src.lit w1 n
            go_wp2_with (at_builtin; refine append_srcN rfl _ _ rfl w.heap.size _ _ _ L1 rfl rfl own1' _ _ _ [n] rfl rfl hl1 (by simp; have := hXl.out; omega) (by simp <;> omega) ?_)
            intro L2 hL2 g2 c2 w2 own2 hb2
            have hB2 : Below w.heap.size w w2 := hB1.trans (Below.trans (by (repeat' (first | exact Below.refl _ _ | apply Below.alloc | apply Below.setCell | apply Below.drew | apply below_draws)) <;> (first | omega | (simp <;> omega))) hb2)
            clear hb2
            have hs2 := hB2.size
            have hl2 : Hid (L2.length = L1.length + 1) := by show _ = _; rw [hL2.out]; simp
            go_wp2_with (at_builtin; refine append_srcN rfl _ _ rfl w.heap.size _ _ _ L2 rfl rfl own2 _ _ _ Y hYl.out rfl (hD.below hB2) (by have := hXl.out; have := hYl.out; have := hl2.out; omega) (by omega) ?_)
            intro N hN g3 c3 w3 own3 hb3
            have HN : N = putI L n := by have e1 := hN.out; have e2 := hL2.out; have e3 := HQ.out; simp at e1 e3; rw [e3, e1, e2]; try simp
            subst HN
            go_wp2
            go_ret
            exact ⟨g3, c3, ⟨rfl, own_mono own3 hbase⟩, (hB2.trans hb3).mono hbase⟩
    · obtain rfl : k = L.length := by omega
      have HQ : Hid (putI L n = X ++ [n] ++ Y) := by show putI L n = _; rw [HX.out, HY.out, putI_at hlo.out hk (fun h => by omega), if_pos (fun h => by omega)]
      have hY0 : Y = [] := by rw [HY.out, List.drop_length]
      clear hlo HX HY
      subst hY0
      by_cases hL0 : L.length = 0
      · obtain rfl : L = [] := List.length_eq_zero_iff.1 hL0
        clear hL0
        simp only [List.length_nil] at *
        go_wp2_with (at_builtin; refine append_srcN rfl _ _ rfl w.heap.size _ _ _ [] rfl rfl own0 _ _ _ X hXl.out rfl (hT.below (by (repeat' (first | exact Below.refl _ _ | apply Below.alloc | apply Below.setCell | apply Below.drew | apply below_draws)) <;> (first | omega | (simp <;> omega)))) (by simp; have := hXl.out; omega) (by simp <;> omega) ?_)
        intro L1 hL1 g1 c1 w1 own1 hb1
        obtain rfl : L1 = X := hL1.out
        have hB1 : Below w.heap.size w w1 := Below.trans (by (repeat' (first | exact Below.refl _ _ | apply Below.alloc | apply Below.setCell | apply Below.drew | apply below_draws)) <;> (first | omega | (simp <;> omega))) hb1
        clear hb1 hL1
        have hs1 := hB1.size
        have own1' := own_below own1 (w' := w1.alloc (.cells #[.int .i64 n] 3)) (by (repeat' (first | exact Below.refl _ _ | apply Below.alloc | apply Below.setCell | apply Below.drew | apply below_draws)) <;> (first | omega | (simp <;> omega)))
        have hl1 := Src.lit w1 n
        go_wp2_with (at_builtin; refine append_srcN rfl _ _ rfl w.heap.size _ _ _ L1 rfl rfl own1' _ _ _ [n] rfl rfl hl1 (by simp; have := hXl.out; omega) (by simp <;> omega) ?_)
        intro L2 hL2 g2 c2 w2 own2 hb2
        have hB2 : Below w.heap.size w w2 := hB1.trans (Below.trans (by (repeat' (first | exact Below.refl _ _ | apply Below.alloc | apply Below.setCell | apply Below.drew | apply below_draws)) <;> (first | omega | (simp <;> omega))) hb2)
        clear hb2
        have hs2 := hB2.size
        have hl2 : Hid (L2.length = L1.length + 1) := by show _ = _; rw [hL2.out]; simp
        go_wp2_with (at_builtin; refine append_srcN rfl _ _ rfl w.heap.size _ _ _ L2 rfl rfl own2 _ _ _ [] (by simp) rfl (Src.empty _ _ _) (by have := hXl.out; have := hl2.out; simp; omega) (by omega) ?_)
        intro N hN g3 c3 w3 own3 hb3
        have HN : N = putI [] n := by have e1 := hN.out; have e2 := hL2.out; have e3 := HQ.out; simp at e1 e3; rw [e3, e1, e2]; try simp
        subst HN
        go_wp2
        go_ret
        exact ⟨g3, c3, ⟨rfl, own_mono own3 hbase⟩, (hB2.trans hb3).mono hbase⟩
      · by_cases hcc : c = L.length
        · subst hcc
          go_wp2_with (at_builtin; refine append_srcN rfl _ _ rfl w.heap.size _ _ _ [] rfl rfl own0 _ _ _ X hXl.out rfl (hT.below (by (repeat' (first | exact Below.refl _ _ | apply Below.alloc | apply Below.setCell | apply Below.drew | apply below_draws)) <;> (first | omega | (simp <;> omega)))) (by simp; have := hXl.out; omega) (by simp <;> omega) ?_)
          intro L1 hL1 g1 c1 w1 own1 hb1
          obtain rfl : L1 = X := hL1.out
          have hB1 : Below w.heap.size w w1 := Below.trans (by (repeat' (first | exact Below.refl _ _ | apply Below.alloc | apply Below.setCell | apply Below.drew | apply below_draws)) <;> (first | omega | (simp <;> omega))) hb1
          clear hb1 hL1
          have hs1 := hB1.size
          have own1' := own_below own1 (w' := w1.alloc (.cells #[.int .i64 n] 3)) (by (repeat' (first | exact Below.refl _ _ | apply Below.alloc | apply Below.setCell | apply Below.drew | apply below_draws)) <;> (first | omega | (simp <;> omega)))
          have hl1 := Src.lit w1 n
          go_wp2_with (at_builtin; refine append_srcN rfl _ _ rfl w.heap.size _ _ _ L1 rfl rfl own1' _ _ _ [n] rfl rfl hl1 (by simp; have := hXl.out; omega) (by simp <;> omega) ?_)
          intro L2 hL2 g2 c2 w2 own2 hb2
          have hB2 : Below w.heap.size w w2 := hB1.trans (Below.trans (by (repeat' (first | exact Below.refl _ _ | apply Below.alloc | apply Below.setCell | apply Below.drew | apply below_draws)) <;> (first | omega | (simp <;> omega))) hb2)
          clear hb2
          have hs2 := hB2.size
          have hl2 : Hid (L2.length = L1.length + 1) := by show _ = _; rw [hL2.out]; simp
          go_wp2_with (at_builtin; refine append_srcN rfl _ _ rfl w.heap.size _ _ _ L2 rfl rfl own2 _ _ _ [] (by simp) rfl (Src.empty _ _ _) (by have := hXl.out; have := hl2.out; simp; omega) (by omega) ?_)
          intro N hN g3 c3 w3 own3 hb3
          have HN : N = putI L n := by have e1 := hN.out; have e2 := hL2.out; have e3 := HQ.out; simp at e1 e3; rw [e3, e1, e2]; try simp
          subst HN
          go_wp2
          go_ret
          exact ⟨g3, c3, ⟨rfl, own_mono own3 hbase⟩, (hB2.trans hb3).mono hbase⟩
        · 
          go_wp2_with (at_builtin; refine append_srcN rfl _ _ rfl w.heap.size _ _ _ [] rfl rfl own0 _ _ _ X hXl.out rfl (hT.below (by (repeat' (first | exact Below.refl _ _ | apply Below.alloc | apply Below.setCell | apply Below.drew | apply below_draws)) <;> (first | omega | (simp <;> omega)))) (by simp; have := hXl.out; omega) (by simp <;> omega) ?_)
          intro L1 hL1 g1 c1 w1 own1 hb1
          obtain rfl : L1 = X := hL1.out
          have hB1 : Below w.heap.size w w1 := Below.trans (by (repeat' (first | exact Below.refl _ _ | apply Below.alloc | apply Below.setCell | apply Below.drew | apply below_draws)) <;> (first | omega | (simp <;> omega))) hb1
          clear hb1 hL1
          have hs1 := hB1.size
          have own1' := own_below own1 (w' := w1.alloc (.cells #[.int .i64 n] 3)) (by (repeat' (first | exact Below.refl _ _ | apply Below.alloc | apply Below.setCell | apply Below.drew | apply below_draws)) <;> (first | omega | (simp <;> omega)))
          have hl1 := Src.lit w1 n
          go_wp2_with (at_builtin; refine append_srcN rfl _ _ rfl w.heap.size _ _ _ L1 rfl rfl own1' _ _ _ [n] rfl rfl hl1 (by simp; have := hXl.out; omega) (by simp <;> omega) ?_)
          intro L2 hL2 g2 c2 w2 own2 hb2
          have hB2 : Below w.heap.size w w2 := hB1.trans (Below.trans (by (repeat' (first | exact Below.refl _ _ | apply Below.alloc | apply Below.setCell | apply Below.drew | apply below_draws)) <;> (first | omega | (simp <;> omega))) hb2)
          clear hb2
          have hs2 := hB2.size
          have hl2 : Hid (L2.length = L1.length + 1) := by show _ = _; rw [hL2.out]; simp
          go_wp2_with (at_builtin; refine append_srcN rfl _ _ rfl w.heap.size _ _ _ L2 rfl rfl own2 _ _ _ [] (by simp) rfl (Src.empty _ _ _) (by have := hXl.out; have := hl2.out; simp; omega) (by omega) ?_)
          intro N hN g3 c3 w3 own3 hb3
          have HN : N = putI L n := by have e1 := hN.out; have e2 := hL2.out; have e3 := HQ.out; simp at e1 e3; rw [e3, e1, e2]; try simp
          subst HN
          go_wp2
          go_ret
          exact ⟨g3, c3, ⟨rfl, own_mono own3 hbase⟩, (hB2.trans hb3).mono hbase⟩
theorem putI_len (L : List Int) (n : Int) : (putI L n).length ≤ L.length + 1 := by
  induction L with
  | nil => simp [putI]
  | cons x r ih =>
    unfold putI
    split
    · simp; omega
    · split <;> simp
end Go.Proofs.Yteomiaffdbbpoaa
