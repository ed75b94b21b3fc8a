/-
  Contracts of spec.SetOr and of what it calls.
-/
import Derived.Test.YtoifknepebplnaaSetOr
namespace Go.Proofs.Ytoifknepebplnaa
open Go.RowKit
set_option linter.unusedVariables false

/-- n put into a list that ascends. -/
def putI : List Int → Int → List Int
  | [], n => [n]
  | x :: r, n => if x < n then x :: putI r n else if x = n then x :: r else n :: x :: r
theorem putI_at : ∀ {L : List Int} {k : Nat} {n : Int}, (∀ j, (h : j < L.length) → j < k → L[j] < n) → k ≤ L.length → ((h : k < L.length) → ¬ L[k] < n) →
    putI L n = if (h : k < L.length) → L[k] ≠ n then L.take k ++ [n] ++ L.drop k else L
  | [], k, n, _, hk, _ => by simp [putI]
  | x :: r, 0, n, _, _, h2 => by
    have h3 := h2 (by simp)
    simp only [List.getElem_cons_zero] at h3
    unfold putI
    rw [if_neg h3]
    by_cases e : x = n
    · rw [if_pos e, if_neg (by simp [e])]
    · rw [if_neg e, if_pos (by simp [e])]; simp
  | x :: r, k + 1, n, h1, hk, h2 => by
    have h3 : x < n := by have := h1 0 (by simp) (by omega); simpa using this
    have ih := putI_at (L := r) (k := k) (n := n) (fun j h hj => by have := h1 (j + 1) (by simp; omega) (by omega); simpa using this) (by simp at hk; omega) (fun h => by have := h2 (by simp; omega); simpa using this)
    unfold putI
    rw [if_pos h3, ih]
    by_cases hc : (h : k < r.length) → r[k] ≠ n
    · rw [if_pos hc, if_pos (fun h => by have := hc (by simp at h; omega); simpa using this)]; simp
    · rw [if_neg hc, if_neg (fun h => hc (fun h4 => by have := h (by simp; omega); simpa using this))]

theorem Src.take {w : World} {g c c' : Nat} {L : List Int} (h : Src w (some ⟨g, 0, none⟩) c L) {k : Nat} (hk : k ≤ L.length) : Src w (some ⟨g, 0, none⟩) c' (L.take k) := by
  have hl : (L.take k).length = k := by simp; omega
  refine ⟨⟨by rw [ints_len, Nat.mul_one], fun hn => ?_⟩, .inr ⟨_, rfl⟩⟩
  rw [hl] at hn
  obtain ⟨b', off', e, hlt, hc⟩ := h.1.2 (by omega)
  refine ⟨b', off', e, hlt, fun j u hu => hc j u ?_⟩
  rw [ints, List.map_take, List.getElem?_take] at hu
  split at hu
  · exact hu
  · cases hu
theorem Src.drop {w : World} {g c c' : Nat} {L : List Int} (h : Src w (some ⟨g, 0, none⟩) c L) {k : Nat} : Src w (some ⟨g, k, none⟩) c' (L.drop k) := by
  refine ⟨⟨by rw [ints_len, Nat.mul_one], fun hn => ?_⟩, .inr ⟨_, rfl⟩⟩
  have hk : k < L.length := by rw [List.length_drop] at hn; omega
  obtain ⟨b', off', e, hlt, hc⟩ := h.1.2 (by omega)
  simp only [Option.some.injEq, Addr.mk.injEq, and_true] at e
  obtain ⟨rfl, rfl⟩ := e
  refine ⟨g, k, rfl, hlt, fun j u hu => ?_⟩
  rw [ints, List.map_drop, List.getElem?_drop] at hu
  have := hc _ u hu
  rwa [Nat.zero_add] at this
theorem own_cap {w : World} {base g c : Nat} {L : List Int} (h : OwnI w base (.slice (some ⟨g, 0, none⟩) L.length c) L) : L.length ≤ c ∧ c ≤ 9223372036854775807 ∧ base ≤ g ∧ g < w.heap.size := by
  have h2 := h.lt g rfl
  rcases h.2 with ⟨h', _⟩ | ⟨g', cap, cur, hv, hb, hh, hnc, hcm, hcs, htake⟩
  · simp at h'
  · simp only [Value.slice.injEq, true_and] at hv
    obtain ⟨_, rfl⟩ := hv
    exact ⟨hnc, by unfold maxLen at hcm; omega, h2.1, h2.2⟩
section
variable {w : World} {ops : Array Oper} {rest : List Oper} {o : Oper} {a : Act} {Q : Exit → Act → World → Prop}
theorem append_srcN (hgd : o.guard = none) (s x : Operand) (ho : o.op = .call { callee := .builtin .append, args := #[s, x], argTypes := #[22, 22] })
    (base : Nat) (g n c0 : Nat) (L : List Int) (hn0 : n = L.length) (hs : a.eval s = .slice (some ⟨g, 0, none⟩) n c0) (hown : OwnI w base (.slice (some ⟨g, 0, none⟩) L.length c0) L)
    (A : Option Addr) (m c : Nat) (M : List Int) (hm : m = M.length) (hx : a.eval x = .slice A m c) (hM : Src w A c M) (hn : L.length + M.length ≤ 16777216) (hbase : base ≤ w.heap.size)
    (h : ∀ N, Hid (N = L ++ M) → ∀ g' c' w', OwnI w' base (.slice (some ⟨g', 0, none⟩) N.length c') N → Below base w w' → wpList Try.prog ops Q rest (a.put o.dst (.slice (some ⟨g', 0, none⟩) N.length c')) w') : wpList Try.prog ops Q (o :: rest) a w := by
  subst hm hn0
  exact append_src hgd s x ho base g c0 L hs hown A c M hx hM hn hbase h
end
theorem Src.empty (w : World) (ad : Addr) (c : Nat) : Src w (some ad) c [] := ⟨⟨rfl, fun h => by simp at h⟩, .inr ⟨_, rfl⟩⟩
/-- an append of one number. -/
theorem Src.lit (w : World) (n : Int) : Src (w.alloc (.cells #[.int .i64 n] 3)) (some ⟨w.heap.size, 0, none⟩) 1 [n] := by
  refine ⟨⟨rfl, fun _ => ⟨_, _, rfl, by simp, fun j u hu => ?_⟩⟩, .inr ⟨_, rfl⟩⟩
  rw [Nat.zero_add, cell_of_row _ _ j #[.int .i64 n] 3 (0, 0) (heap_alloc_new w _)]
  simpa [ints] using hu

/-- what a call hands back that turns a row of the call's own, or makes another one. -/
def Remade (base : Nat) (N : List Int) (w : World) (e : Ending) (w' : World) : Prop :=
  ∃ g' c', (e = .returned (.slice (some ⟨g', 0, none⟩) N.length c') ∧ OwnI w' base (.slice (some ⟨g', 0, none⟩) N.length c') N) ∧ Below base w w'
theorem l8Put_any (g c base : Nat) (L : List Int) (n : Int) (w : World) (h : OwnI w base (.slice (some ⟨g, 0, none⟩) L.length c) L) (hbase : base ≤ w.heap.size) (hn : L.length ≤ 4194304) :
    Calls Try.prog 80 #[.slice (some ⟨g, 0, none⟩) L.length c, .int .i64 n] w (Remade base (putI L n) w) := by
  have hR : RdI w (some ⟨g, 0, none⟩) L := Rds.own h
  have hS := h.src
  obtain ⟨hc1, hc2, _, _⟩ := own_cap h
  go_enter Try.func80, Try.ntmps80
  go_wp2
  go_loop [5] (fun i => ∃ k : Nat, k ≤ L.length ∧ i = .int .i64 k ∧ Hid (∀ j, (h : j < L.length) → j < k → L[j] < n)) (fun i => L.length - (intOf i).toNat)
  case atStart => exact ⟨0, Nat.zero_le _, rfl, fun j h hj => by omega⟩
  case round =>
    obtain ⟨k, hk, rfl, hlo⟩ := hrel
    have own0 := ownI_made w w.heap.size (Nat.le_refl _)
    have hT : Src w (some ⟨g, 0, none⟩) c (L.take k) := hS.take hk
    have hD : Src w (some ⟨g, k, none⟩) (c - k) (L.drop k) := hS.drop
    obtain ⟨X, hX⟩ : ∃ X, X = L.take k := ⟨_, rfl⟩
    obtain ⟨Y, hY⟩ : ∃ Y, Y = L.drop k := ⟨_, rfl⟩
    have hXl : Hid (k = X.length) := by show _ = _; rw [hX, List.length_take, Nat.min_eq_left hk]
    have hYl : Hid (L.length - k = Y.length) := by show _ = _; rw [hY, List.length_drop]
    have HX : Hid (X = L.take k) := hX
    have HY : Hid (Y = L.drop k) := hY
    rw [← hX] at hT
    rw [← hY] at hD
    clear hX hY
    by_cases hlt : k < L.length
    · obtain ⟨hb, x0⟩ := hR.all1 hlt
      rw [Nat.zero_add] at x0
      have hi0 : (k : Int) < (L.length : Int) := by omega
      obtain ⟨p, hp⟩ : ∃ p, p = L[k] := ⟨_, rfl⟩
      rw [← hp] at x0
      by_cases hpn : p < n
      · have hlo2 : Hid (∀ j, (h : j < L.length) → j < k + 1 → L[j] < n) := fun j h hj => by
          rcases Nat.lt_or_eq_of_le (Nat.le_of_lt_succ hj) with h2 | rfl
          · exact hlo.out j h h2
          · rw [← hp]; exact hpn
        clear hp hlo
        go_wp2
        go_round
        case rel => exact ⟨k + 1, by omega, by go_num, hlo2⟩
        case measure => simp [intOf]; omega
      · have HP : Hid (putI L n = if (h : k < L.length) → L[k] ≠ n then L.take k ++ [n] ++ L.drop k else L) := putI_at hlo.out hk (fun _ => by rw [← hp]; exact hpn)
        by_cases he : p = n
        · have HQ : Hid (putI L n = L) := by show putI L n = L; rw [HP.out, if_neg (fun hh => hh hlt (by rw [← hp]; exact he))]
          clear HP hp hlo
          go_wp2
          go_ret
          exact ⟨g, c, ⟨by rw [HQ.out]; rfl, by rw [HQ.out]; exact h⟩, Below.refl _ _⟩
        · have HQ : Hid (putI L n = X ++ [n] ++ Y) := by show putI L n = _; rw [HX.out, HY.out, HP.out, if_pos (fun _ => by rw [← hp]; exact he)]
          clear HP hp hlo
          rcases Nat.eq_zero_or_pos k with rfl | hk0
          all_goals
            go_wp2_with (at_builtin; refine append_srcN rfl _ _ rfl w.heap.size _ _ _ [] rfl rfl own0 _ _ _ X hXl.out rfl (hT.below (by (repeat' (first | exact Below.refl _ _ | apply Below.alloc | apply Below.setCell | apply Below.drew | apply below_draws)) <;> (first | omega | (simp <;> omega)))) (by simp; have := hXl.out; omega) (by simp <;> omega) ?_)
            intro L1 hL1 g1 c1 w1 own1 hb1
            obtain rfl : L1 = X := hL1.out
            have hB1 : Below w.heap.size w w1 := Below.trans (by (repeat' (first | exact Below.refl _ _ | apply Below.alloc | apply Below.setCell | apply Below.drew | apply below_draws)) <;> (first | omega | (simp <;> omega))) hb1
            clear hb1 hL1
            have hs1 := hB1.size
            have own1' := own_below own1 (w' := w1.alloc (.cells #[.int .i64 n] 3)) (by (repeat' (first | exact Below.refl _ _ | apply Below.alloc | apply Below.setCell | apply Below.drew | apply below_draws)) <;> (first | omega | (simp <;> omega)))
            have hl1 := Src.lit w1 n
            go_wp2_with (at_builtin; refine append_srcN rfl _ _ rfl w.heap.size _ _ _ L1 rfl rfl own1' _ _ _ [n] rfl rfl hl1 (by simp; have := hXl.out; omega) (by simp <;> omega) ?_)
            intro L2 hL2 g2 c2 w2 own2 hb2
            have hB2 : Below w.heap.size w w2 := hB1.trans (Below.trans (by (repeat' (first | exact Below.refl _ _ | apply Below.alloc | apply Below.setCell | apply Below.drew | apply below_draws)) <;> (first | omega | (simp <;> omega))) hb2)
            clear hb2
            have hs2 := hB2.size
            have hl2 : Hid (L2.length = L1.length + 1) := by show _ = _; rw [hL2.out]; simp
            go_wp2_with (at_builtin; refine append_srcN rfl _ _ rfl w.heap.size _ _ _ L2 rfl rfl own2 _ _ _ Y hYl.out rfl (hD.below hB2) (by have := hXl.out; have := hYl.out; have := hl2.out; omega) (by omega) ?_)
            intro N hN g3 c3 w3 own3 hb3
            have HN : N = putI L n := by have e1 := hN.out; have e2 := hL2.out; have e3 := HQ.out; simp at e1 e3; rw [e3, e1, e2]; try simp
            subst HN
            go_wp2
            go_ret
            exact ⟨g3, c3, ⟨rfl, own_mono own3 hbase⟩, (hB2.trans hb3).mono hbase⟩
    · obtain rfl : k = L.length := by omega
      have HQ : Hid (putI L n = X ++ [n] ++ Y) := by show putI L n = _; rw [HX.out, HY.out, putI_at hlo.out hk (fun h => by omega), if_pos (fun h => by omega)]
      have hY0 : Y = [] := by rw [HY.out, List.drop_length]
      clear hlo HX HY
      subst hY0
      by_cases hL0 : L.length = 0
      · obtain rfl : L = [] := List.length_eq_zero_iff.1 hL0
        clear hL0
        simp only [List.length_nil] at *
        go_wp2_with (at_builtin; refine append_srcN rfl _ _ rfl w.heap.size _ _ _ [] rfl rfl own0 _ _ _ X hXl.out rfl (hT.below (by (repeat' (first | exact Below.refl _ _ | apply Below.alloc | apply Below.setCell | apply Below.drew | apply below_draws)) <;> (first | omega | (simp <;> omega)))) (by simp; have := hXl.out; omega) (by simp <;> omega) ?_)
        intro L1 hL1 g1 c1 w1 own1 hb1
        obtain rfl : L1 = X := hL1.out
        have hB1 : Below w.heap.size w w1 := Below.trans (by (repeat' (first | exact Below.refl _ _ | apply Below.alloc | apply Below.setCell | apply Below.drew | apply below_draws)) <;> (first | omega | (simp <;> omega))) hb1
        clear hb1 hL1
        have hs1 := hB1.size
        have own1' := own_below own1 (w' := w1.alloc (.cells #[.int .i64 n] 3)) (by (repeat' (first | exact Below.refl _ _ | apply Below.alloc | apply Below.setCell | apply Below.drew | apply below_draws)) <;> (first | omega | (simp <;> omega)))
        have hl1 := Src.lit w1 n
        go_wp2_with (at_builtin; refine append_srcN rfl _ _ rfl w.heap.size _ _ _ L1 rfl rfl own1' _ _ _ [n] rfl rfl hl1 (by simp; have := hXl.out; omega) (by simp <;> omega) ?_)
        intro L2 hL2 g2 c2 w2 own2 hb2
        have hB2 : Below w.heap.size w w2 := hB1.trans (Below.trans (by (repeat' (first | exact Below.refl _ _ | apply Below.alloc | apply Below.setCell | apply Below.drew | apply below_draws)) <;> (first | omega | (simp <;> omega))) hb2)
        clear hb2
        have hs2 := hB2.size
        have hl2 : Hid (L2.length = L1.length + 1) := by show _ = _; rw [hL2.out]; simp
        go_wp2_with (at_builtin; refine append_srcN rfl _ _ rfl w.heap.size _ _ _ L2 rfl rfl own2 _ _ _ [] (by simp) rfl (Src.empty _ _ _) (by have := hXl.out; have := hl2.out; simp; omega) (by omega) ?_)
        intro N hN g3 c3 w3 own3 hb3
        have HN : N = putI [] n := by have e1 := hN.out; have e2 := hL2.out; have e3 := HQ.out; simp at e1 e3; rw [e3, e1, e2]; try simp
        subst HN
        go_wp2
        go_ret
        exact ⟨g3, c3, ⟨rfl, own_mono own3 hbase⟩, (hB2.trans hb3).mono hbase⟩
      · by_cases hcc : c = L.length
        · subst hcc
          go_wp2_with (at_builtin; refine append_srcN rfl _ _ rfl w.heap.size _ _ _ [] rfl rfl own0 _ _ _ X hXl.out rfl (hT.below (by (repeat' (first | exact Below.refl _ _ | apply Below.alloc | apply Below.setCell | apply Below.drew | apply below_draws)) <;> (first | omega | (simp <;> omega)))) (by simp; have := hXl.out; omega) (by simp <;> omega) ?_)
          intro L1 hL1 g1 c1 w1 own1 hb1
          obtain rfl : L1 = X := hL1.out
          have hB1 : Below w.heap.size w w1 := Below.trans (by (repeat' (first | exact Below.refl _ _ | apply Below.alloc | apply Below.setCell | apply Below.drew | apply below_draws)) <;> (first | omega | (simp <;> omega))) hb1
          clear hb1 hL1
          have hs1 := hB1.size
          have own1' := own_below own1 (w' := w1.alloc (.cells #[.int .i64 n] 3)) (by (repeat' (first | exact Below.refl _ _ | apply Below.alloc | apply Below.setCell | apply Below.drew | apply below_draws)) <;> (first | omega | (simp <;> omega)))
          have hl1 := Src.lit w1 n
          go_wp2_with (at_builtin; refine append_srcN rfl _ _ rfl w.heap.size _ _ _ L1 rfl rfl own1' _ _ _ [n] rfl rfl hl1 (by simp; have := hXl.out; omega) (by simp <;> omega) ?_)
          intro L2 hL2 g2 c2 w2 own2 hb2
          have hB2 : Below w.heap.size w w2 := hB1.trans (Below.trans (by (repeat' (first | exact Below.refl _ _ | apply Below.alloc | apply Below.setCell | apply Below.drew | apply below_draws)) <;> (first | omega | (simp <;> omega))) hb2)
          clear hb2
          have hs2 := hB2.size
          have hl2 : Hid (L2.length = L1.length + 1) := by show _ = _; rw [hL2.out]; simp
          go_wp2_with (at_builtin; refine append_srcN rfl _ _ rfl w.heap.size _ _ _ L2 rfl rfl own2 _ _ _ [] (by simp) rfl (Src.empty _ _ _) (by have := hXl.out; have := hl2.out; simp; omega) (by omega) ?_)
          intro N hN g3 c3 w3 own3 hb3
          have HN : N = putI L n := by have e1 := hN.out; have e2 := hL2.out; have e3 := HQ.out; simp at e1 e3; rw [e3, e1, e2]; try simp
          subst HN
          go_wp2
          go_ret
          exact ⟨g3, c3, ⟨rfl, own_mono own3 hbase⟩, (hB2.trans hb3).mono hbase⟩
        · 
          go_wp2_with (at_builtin; refine append_srcN rfl _ _ rfl w.heap.size _ _ _ [] rfl rfl own0 _ _ _ X hXl.out rfl (hT.below (by (repeat' (first | exact Below.refl _ _ | apply Below.alloc | apply Below.setCell | apply Below.drew | apply below_draws)) <;> (first | omega | (simp <;> omega)))) (by simp; have := hXl.out; omega) (by simp <;> omega) ?_)
          intro L1 hL1 g1 c1 w1 own1 hb1
          obtain rfl : L1 = X := hL1.out
          have hB1 : Below w.heap.size w w1 := Below.trans (by (repeat' (first | exact Below.refl _ _ | apply Below.alloc | apply Below.setCell | apply Below.drew | apply below_draws)) <;> (first | omega | (simp <;> omega))) hb1
          clear hb1 hL1
          have hs1 := hB1.size
          have own1' := own_below own1 (w' := w1.alloc (.cells #[.int .i64 n] 3)) (by (repeat' (first | exact Below.refl _ _ | apply Below.alloc | apply Below.setCell | apply Below.drew | apply below_draws)) <;> (first | omega | (simp <;> omega)))
          have hl1 := Src.lit w1 n
          go_wp2_with (at_builtin; refine append_srcN rfl _ _ rfl w.heap.size _ _ _ L1 rfl rfl own1' _ _ _ [n] rfl rfl hl1 (by simp; have := hXl.out; omega) (by simp <;> omega) ?_)
          intro L2 hL2 g2 c2 w2 own2 hb2
          have hB2 : Below w.heap.size w w2 := hB1.trans (Below.trans (by (repeat' (first | exact Below.refl _ _ | apply Below.alloc | apply Below.setCell | apply Below.drew | apply below_draws)) <;> (first | omega | (simp <;> omega))) hb2)
          clear hb2
          have hs2 := hB2.size
          have hl2 : Hid (L2.length = L1.length + 1) := by show _ = _; rw [hL2.out]; simp
          go_wp2_with (at_builtin; refine append_srcN rfl _ _ rfl w.heap.size _ _ _ L2 rfl rfl own2 _ _ _ [] (by simp) rfl (Src.empty _ _ _) (by have := hXl.out; have := hl2.out; simp; omega) (by omega) ?_)
          intro N hN g3 c3 w3 own3 hb3
          have HN : N = putI L n := by have e1 := hN.out; have e2 := hL2.out; have e3 := HQ.out; simp at e1 e3; rw [e3, e1, e2]; try simp
          subst HN
          go_wp2
          go_ret
          exact ⟨g3, c3, ⟨rfl, own_mono own3 hbase⟩, (hB2.trans hb3).mono hbase⟩
theorem putI_len (L : List Int) (n : Int) : (putI L n).length ≤ L.length + 1 := by
  induction L with
  | nil => simp [putI]
  | cons x r ih =>
    unfold putI
    split
    · simp; omega
    · split <;> simp
def putAll (L M : List Int) : List Int := M.foldl putI L
theorem putAll_len (L M : List Int) : (putAll L M).length ≤ L.length + M.length := by
  unfold putAll
  induction M generalizing L with
  | nil => simp
  | cons y s ih =>
    have := ih (putI L y)
    have := putI_len L y
    simp only [List.foldl_cons, List.length_cons]
    omega
theorem putAll_take (L M : List Int) {k : Nat} (hk : k < M.length) : putAll L (M.take (k + 1)) = putI (putAll L (M.take k)) M[k] := by
  unfold putAll
  rw [← List.take_append_getElem hk, List.foldl_append]; rfl
theorem l8Or_any (A A' : Option Addr) (c c' : Nat) (L M : List Int) (w : World) (h : Src w A c L) (h' : Src w A' c' M) (hn : L.length ≤ 1048576) (hn' : M.length ≤ 1048576) :
    Calls Try.prog 68 #[.slice A L.length c, .slice A' M.length c'] w (Makes w (putAll L M)) := by
  have own0 := ownI_made w w.heap.size (Nat.le_refl _)
  go_enter Try.func68, Try.ntmps68
  go_wp2_with (at_builtin; refine append_srcN rfl _ _ rfl w.heap.size _ _ _ [] rfl rfl own0 _ _ _ L rfl rfl (h.below (by (repeat' (first | exact Below.refl _ _ | apply Below.alloc | apply Below.setCell | apply Below.drew | apply below_draws)) <;> (first | omega | (simp <;> omega)))) (by simp; omega) (by simp <;> omega) ?_)
  intro L1 hL1 g1 c1 w1 own1 hb1
  obtain rfl : L1 = L := hL1.out
  have hB1 : Below w.heap.size w w1 := Below.trans (by (repeat' (first | exact Below.refl _ _ | apply Below.alloc | apply Below.setCell | apply Below.drew | apply below_draws)) <;> (first | omega | (simp <;> omega))) hb1
  clear hb1 hL1 own0
  go_wp2
  go_loopw [5, 6] (fun v i wr => ∃ k : Nat, k ≤ M.length ∧ i = .int .i64 k ∧ ∃ X, Hid (X = putAll L1 (M.take k)) ∧ ∃ g c, v = .slice (some ⟨g, 0, none⟩) X.length c ∧ OwnI wr w.heap.size (.slice (some ⟨g, 0, none⟩) X.length c) X ∧ Below w.heap.size w wr) (fun _ i _ => M.length - (intOf i).toNat)
  case atStart => exact ⟨0, Nat.zero_le _, rfl, L1, rfl, g1, c1, rfl, own1, hB1⟩
  case round =>
    obtain ⟨k, hk, rfl, X, hX, g, c, rfl, own, hB⟩ := hrel
    have hlX : X.length ≤ 2097152 := by
      have := putAll_len L1 (M.take k)
      rw [hX.out]; simp at this; omega
    by_cases hlt : k < M.length
    · obtain ⟨b, off, rfl, hb, x0⟩ := (h'.1.below hB).at1 hlt
      have hi0 : (k : Int) < (M.length : Int) := by omega
      have HX : Hid (putAll L1 (M.take (k + 1)) = putI X M[k]) := by show putAll L1 _ = _; rw [putAll_take L1 M hlt, hX.out]
      clear hX
      generalize M[k] = p at x0 HX
      go_wp2_with fail
      refine (l8Put_any g c w.heap.size X p _ own hB.size (by omega)).mono ?_
      rintro e w2 ⟨g2, c2, ⟨rfl, own2⟩, hb2⟩
      have hB2 := hB.trans hb2
      clear hb2
      go_wp2
      go_roundw
      case rel => exact ⟨k + 1, by omega, by go_num, _, HX.out.symm, g2, c2, rfl, own2, hB2⟩
      case measure => simp [intOf]; omega
    · have HX : X = putAll L1 M := by rw [hX.out, List.take_of_length_le (by omega)]
      clear hX
      subst HX
      go_wp2
      go_ret
      exact ⟨_, _, ⟨rfl, own⟩, hB⟩

def sorL (L M : List Int) : List Int := if upB L && upB M then putAll L M else []
theorem specSetOr_any (A A' : Option Addr) (c c' : Nat) (L M : List Int) (w : World) (h : Src w A c L) (h' : Src w A' c' M) (hn : L.length ≤ 1048576) (hn' : M.length ≤ 1048576) :
    Calls Try.prog 36 #[.slice A L.length c, .slice A' M.length c'] w (Makes w (sorL L M)) := by
  cases hu1 : upB L with
  | false =>
    have HX : Hid (sorL L M = []) := by show sorL L M = _; unfold sorL; rw [hu1]; rfl
    go_enter Try.func36, Try.ntmps36
    go_wp2_with fail
    refine (l3Up_any A c L _ h.1 (by omega)).mono ?_
    rintro e w1 ⟨rfl, q, rfl⟩
    rw [hu1]
    go_wp2
    go_ret
    exact ⟨none, 0, ⟨by rw [HX.out]; rfl, by rw [HX.out]; exact ownI_nil _ _⟩, by (repeat' (first | exact Below.refl _ _ | apply Below.alloc | apply Below.setCell | apply Below.drew | apply below_draws)) <;> (first | omega | (simp <;> omega))⟩
  | true =>
    cases hu2 : upB M with
    | false =>
      have HX : Hid (sorL L M = []) := by show sorL L M = _; unfold sorL; rw [hu1, hu2]; rfl
      go_enter Try.func36, Try.ntmps36
      go_wp2_with fail
      refine (l3Up_any A c L _ h.1 (by omega)).mono ?_
      rintro e w1 ⟨rfl, q, rfl⟩
      rw [hu1]
      go_wp2_with fail
      refine (l3Up_any A' c' M _ (h'.1.below (by (repeat' (first | exact Below.refl _ _ | apply Below.alloc | apply Below.setCell | apply Below.drew | apply below_draws)) <;> (first | omega | (simp <;> omega)))) (by omega)).mono ?_
      rintro e w1 ⟨rfl, q', rfl⟩
      rw [hu2]
      go_wp2
      go_ret
      exact ⟨none, 0, ⟨by rw [HX.out]; rfl, by rw [HX.out]; exact ownI_nil _ _⟩, by (repeat' (first | exact Below.refl _ _ | apply Below.alloc | apply Below.setCell | apply Below.drew | apply below_draws)) <;> (first | omega | (simp <;> omega))⟩
    | true =>
      obtain ⟨Z, hZ⟩ : ∃ Z, Z = sorL L M := ⟨_, rfl⟩
      have HX : Hid (Z = putAll L M) := by show Z = _; rw [hZ]; unfold sorL; rw [hu1, hu2]; rfl
      rw [← hZ]
      clear hZ
      go_enter Try.func36, Try.ntmps36
      go_wp2_with fail
      refine (l3Up_any A c L _ h.1 (by omega)).mono ?_
      rintro e w1 ⟨rfl, q, rfl⟩
      rw [hu1]
      go_wp2_with fail
      refine (l3Up_any A' c' M _ (h'.1.below (by (repeat' (first | exact Below.refl _ _ | apply Below.alloc | apply Below.setCell | apply Below.drew | apply below_draws)) <;> (first | omega | (simp <;> omega)))) (by omega)).mono ?_
      rintro e w1 ⟨rfl, q', rfl⟩
      rw [hu2]
      go_wp2_with fail
      refine (l8Or_any A A' c c' L M _ (h.below (by (repeat' (first | exact Below.refl _ _ | apply Below.alloc | apply Below.setCell | apply Below.drew | apply below_draws)) <;> (first | omega | (simp <;> omega)))) (h'.below (by (repeat' (first | exact Below.refl _ _ | apply Below.alloc | apply Below.setCell | apply Below.drew | apply below_draws)) <;> (first | omega | (simp <;> omega)))) hn hn').mono ?_
      rintro e w1 ⟨D, d, ⟨rfl, hown⟩, hB⟩
      go_wp2
      go_ret
      rw [← HX.out] at hown ⊢
      exact ⟨D, d, ⟨rfl, own_mono hown (by simp)⟩, Below.trans (by (repeat' (first | exact Below.refl _ _ | apply Below.alloc | apply Below.setCell | apply Below.drew | apply below_draws)) <;> (first | omega | (simp <;> omega))) (hB.mono (by simp))⟩

/-! both are one. -/
theorem putI_mem {L : List Int} {n x : Int} : x ∈ putI L n ↔ x ∈ L ∨ x = n := by
  induction L with
  | nil => simp [putI]
  | cons y r ih =>
    unfold putI
    split
    · rw [List.mem_cons, List.mem_cons, ih, or_assoc]
    · split
      · rename_i h; subst h
        rw [List.mem_cons]
        constructor
        · exact .inl
        · rintro (h | h)
          · exact h
          · exact .inl h
      · rw [List.mem_cons]; exact or_comm
theorem putI_asc {L : List Int} {n : Int} (h : L.Pairwise (· < ·)) : (putI L n).Pairwise (· < ·) := by
  induction L with
  | nil => simp [putI]
  | cons y r ih =>
    rw [List.pairwise_cons] at h
    unfold putI
    split
    · rw [List.pairwise_cons]
      refine ⟨fun x hx => ?_, ih h.2⟩
      rcases putI_mem.1 hx with hx | rfl
      · exact h.1 x hx
      · assumption
    · split
      · rw [List.pairwise_cons]; exact h
      · rw [List.pairwise_cons, List.pairwise_cons]
        refine ⟨fun x hx => ?_, h⟩
        rcases List.mem_cons.1 hx with rfl | hx
        · omega
        · have := h.1 x hx; omega
theorem putAll_mem {L M : List Int} {x : Int} : x ∈ putAll L M ↔ x ∈ L ∨ x ∈ M := by
  unfold putAll
  induction M generalizing L with
  | nil => simp
  | cons y s ih => rw [List.foldl_cons, ih, putI_mem, List.mem_cons, or_assoc]
theorem putAll_asc {L M : List Int} (h : L.Pairwise (· < ·)) : (putAll L M).Pairwise (· < ·) := by
  unfold putAll
  induction M generalizing L with
  | nil => exact h
  | cons y s ih => rw [List.foldl_cons]; exact ih (putI_asc h)
theorem sor_or (L M : List Int) : sorL L M = orL L M := by
  unfold sorL orL
  split
  · rename_i h
    rw [Bool.and_eq_true] at h
    exact asc_ext (putAll_asc (upB_iff.1 h.1).2.1) (unionI_asc L M) fun x => by rw [putAll_mem, unionI_mem]
  · rfl
theorem specSetOr_or (A A' : Option Addr) (c c' : Nat) (L M : List Int) (w : World) (h : Src w A c L) (h' : Src w A' c' M) (hn : L.length ≤ 1048576) (hn' : M.length ≤ 1048576) :
    Calls Try.prog 36 #[.slice A L.length c, .slice A' M.length c'] w (Makes w (orL L M)) := by
  rw [← sor_or]; exact specSetOr_any A A' c c' L M w h h' hn hn'
theorem len_orL (L M : List Int) (hn : L.length ≤ 1048576) (hn' : M.length ≤ 1048576) : (orL L M).length ≤ 4194304 := by
  rw [← sor_or]; unfold sorL
  split
  · have := putAll_len L M; omega
  · simp
end Go.Proofs.Ytoifknepebplnaa
