/-
  What is drawn of lists of numbers: contracts of l30Up, l30AnyUp, DrawSetAnd, DrawSetOr, DrawSetLess.
-/
import Derived.Test.YteomiaffdbbpoaaRd2
import Derived.Test.YteomiaffdbbpoaaSrc
import Derived.Laws.AppendOwnNone
namespace Go.Proofs.Yteomiaffdbbpoaa
open Go.RowKit
set_option linter.unusedVariables false

theorem Outer.grown {g : Nat} {w w' : World} (h : Outer w.heap.size g w w') : w.grownBy w' (some g) :=
  ⟨h.1.1, h.1.2.1, h.1.2.2, h.2.1, fun k hk hn => h.2.2 k hk (fun e => hn (by rw [e]))⟩
/-- an owned row whose block is not the reader's stays. -/
theorem own_gen {w w' : World} {base e size n g : Nat} {v : Value} {xs : List Value} (h : w.ownsRow base e size v n xs) (hb : g < base) (ho : Outer w.heap.size g w w') : w'.ownsRow base e size v n xs := by
  refine h.kept (row := some g) ho.grown ?_
  cases hv : v.ownBlock with
  | none => exact .inl rfl
  | some k => exact .inr (by have := (h.lt k hv).1; intro e; injection e; omega)

theorem ints_one (L : List Int) : ∀ u ∈ ints L, u.oneCell' = true := by
  intro u hu; simp only [ints, List.mem_map] at hu; obtain ⟨x, _, rfl⟩ := hu; rfl

theorem l30Up_any (g p most : Nat) (w : World) (hr : Rd w g p) (hp : p + most + 3 < 1000000) (hm : most ≤ 100) :
    Calls Try.prog 87 #[.pointer (some ⟨g, 0, none⟩), .int .i64 most] w fun e w' => ∃ (B : Option Addr) (d : Nat) (L : List Int), (e = .returned (.slice B L.length d) ∧ L.length ≤ most ∧ OwnI w' w.heap.size (.slice B L.length d) L) ∧ Gen w w' g p (most + 2) := by
  obtain ⟨i0, hi, hz0, hz1, hz2⟩ := info_parts infoInt
  have hg := hr.lt
  go_enter Try.func87, Try.ntmps87
  go_wp2_with fail
  have r0 : Rd (w.alloc (.cells #[] 3)) g p := hr.below (by (repeat' (first | exact Below.refl _ _ | apply Below.alloc | apply Below.setCell | apply Below.drew | apply below_draws)) <;> (first | omega | (simp <;> omega)))
  have own0 := ownI_made w w.heap.size (Nat.le_refl _)
  refine (pick_gen g p _ (by omega) (by omega) _ r0 (by omega)).mono ?_
  rintro e w1 ⟨v1, ⟨rfl, h1, h2⟩, p1, hp1, r1, o1⟩
  have own1 := own_gen own0 hg o1
  have O1 : Outer w.heap.size g w w1 := (Outer.of (B := w.heap.size) (by (repeat' (first | exact Below.refl _ _ | apply Below.alloc | apply Below.setCell | apply Below.drew | apply below_draws)) <;> (first | omega | (simp <;> omega)))).trans (o1.mono (by simp))
  clear own0 o1 r0
  go_wp2_with fail
  refine (pick_gen g p1 _ (by omega) (by omega) _ r1 (by omega)).mono ?_
  rintro e w2 ⟨n0, ⟨rfl, h3, h4⟩, p2, hp2, r2, o2⟩
  obtain ⟨n, rfl⟩ := Int.eq_ofNat_of_zero_le h3
  have own2 := own_gen own1 hg o2
  have O2 := O1.trans (o2.mono O1.2.1)
  clear own1 o2 r1 O1
  go_wp2_with fail
  go_loopw [5, 6, 7] (fun v x k wr => ∃ (m q : Nat) (y : Int) (L : List Int), k = .int .i64 (m : Int) ∧ x = .int .i64 y ∧ L.length + m ≤ most ∧ -1 ≤ y ∧ y ≤ 3 + 201 * L.length ∧ q ≤ p + 2 + L.length ∧ OwnI wr w.heap.size v L ∧ Rd wr g q ∧ Outer w.heap.size g w wr) (fun _ _ k _ => (intOf k).toNat)
  case atStart => exact ⟨n, p2, _, [], rfl, rfl, by simp; omega, by omega, by simp; omega, by simp; omega, own2, r2, O2⟩
  case round =>
    obtain ⟨m, q, y, L, rfl, rfl, hlm, hy0, hy1, hq, hown, hr', hO⟩ := hrel
    obtain ⟨A, c, rfl⟩ := own_form hown
    rcases Nat.eq_zero_or_pos m with rfl | hm0
    · go_wp2
      go_ret
      exact ⟨A, c, L, ⟨rfl, by omega, hown⟩, q, by omega, hr', hO⟩
    · obtain ⟨m, rfl⟩ : ∃ k, m = k + 1 := ⟨m - 1, by omega⟩
      have hltr := hr'.lt
      go_wp2_with fail
      refine (one_any g q wr.heap.size 5 [0, 0, 1, 5, 200] _ (hr'.below (by (repeat' (first | exact Below.refl _ _ | apply Below.alloc | apply Below.setCell | apply Below.drew | apply below_draws)) <;> (first | omega | (simp <;> omega)))) (by omega) rfl (by omega) (by omega) (by omega) (fun i hi => ?_)).mono ?_
      · rcases i with _ | _ | _ | _ | _ | i
        all_goals first | omega | simp
      rintro e w4 ⟨t, ⟨rfl, ht⟩, p4, hp4, r4, o4⟩
      have ht0 : 0 ≤ t ∧ t ≤ 200 := by simp at ht; omega
      obtain ⟨ht0, ht1⟩ := ht0
      clear ht
      have own4 := own_gen (hown.alloc _) hg o4
      have hsr := hO.2.1
      have O4 : Outer w.heap.size g w w4 := hO.trans ((Outer.of (B := w.heap.size) (by (repeat' (first | exact Below.refl _ _ | apply Below.alloc | apply Below.setCell | apply Below.drew | apply below_draws)) <;> (first | omega | (simp <;> omega)))).trans (o4.mono (by simp; omega)))
      have hlt4 := r4.lt
      have hsz4 := O4.2.1
      clear o4 hr' hown hO hsr
      go_wp2_with (at_builtin; refine wpList_append_own _ rfl _ _ 31 rfl w.heap.size 3 i0 (.int .i64 0) 1 8 Try.underlying31 hi hz0 hz1 hz2 rfl (by decide) _ _ _ rfl (own4.alloc _) ⟨w4.heap.size, 0, none⟩ 1 1 [.int .i64 (y + 1 + t)] rfl rfl ?c1 ?c2 ?c3 ?c4 ?c5 ?_)
      case c1 => intro j u hu; rcases j with _ | j <;> simp at hu <;> subst hu <;> simp [Addr.add]
      case c2 => intro u hu; simp at hu; subst hu; rfl
      case c3 => unfold maxLen; omega
      case c4 => omega
      case c5 => simp; omega
      intro v' w6 own6 hg6 _
      have hB6 : Below w.heap.size w4 w6 := (Below.alloc (Below.refl _ _) hsz4 _).trans (below_append (own4.alloc _) hg6 (Nat.le_refl _) (by simp; omega))
      have r6 := r4.below (hB6.mono hg)
      have O6 := O4.trans (Outer.of hB6)
      have own6' : OwnI w6 w.heap.size v' (L ++ [y + 1 + t]) := by
        unfold OwnI; rw [List.length_append, ints_append]; exact own6
      clear own6 hg6 own4 r4 O4 hB6
      go_wp2
      go_roundw
      case rel => exact ⟨m, p4, y + 1 + t, L ++ [y + 1 + t], by go_num, by go_num, by simp; omega, by omega, by simp; omega, by simp; omega, own6', r6, O6⟩
      case measure => simp [intOf]

set_option maxRecDepth 4000 in
theorem l30AnyUp_any (g p : Nat) (w : World) (hr : Rd w g p) (hp : p + 100 < 1000000) :
    Calls Try.prog 58 #[.pointer (some ⟨g, 0, none⟩)] w fun e w' => ∃ (B : Option Addr) (d : Nat) (L : List Int), (e = .returned (.slice B L.length d) ∧ L.length ≤ 61 ∧ OwnI w' w.heap.size (.slice B L.length d) L) ∧ Gen w w' g p 90 := by
  obtain ⟨i0, hi, hz0, hz1, hz2⟩ := info_parts infoInt
  have hg := hr.lt
  go_enter Try.func58, Try.ntmps58
  go_wp2_with fail
  refine (l30Up_any g p 8 _ hr (by omega) (by omega)).mono ?_
  rintro e w1 ⟨B, d, L, ⟨rfl, hL, own1⟩, p1, hp1, r1, O1⟩
  go_wp2_with fail
  refine (pick_gen g p1 _ (by omega) (by omega) _ r1 (by omega)).mono ?_
  rintro e w2 ⟨v, ⟨rfl, h3, h4⟩, p2, hp2, r2, o2⟩
  have own2 := own_gen own1 hg o2
  have O2 := O1.trans (o2.mono O1.2.1)
  have hlt2 := r2.lt
  have hsz2 := O2.2.1
  clear own1 o2 r1 O1
  by_cases hv0 : v = 0
  · subst hv0
    go_wp2_with fail
    refine (one_any g p2 w2.heap.size 3 [-1, 0, 1000000000] _ (r2.below (by (repeat' (first | exact Below.refl _ _ | apply Below.alloc | apply Below.setCell | apply Below.drew | apply below_draws)) <;> (first | omega | (simp <;> omega)))) (by omega) rfl (by omega) (by omega) (by omega) (fun i hi => ?_)).mono ?_
    · rcases i with _ | _ | _ | i
      all_goals first | omega | simp
    rintro e w4 ⟨t, ⟨rfl, ht⟩, p4, hp4, r4, o4⟩
    clear ht
    have own4 := own_gen (own2.alloc _) hg o4
    have O4 : Outer w.heap.size g w w4 := O2.trans ((Outer.of (B := w.heap.size) (by (repeat' (first | exact Below.refl _ _ | apply Below.alloc | apply Below.setCell | apply Below.drew | apply below_draws)) <;> (first | omega | (simp <;> omega)))).trans (o4.mono (by simp; omega)))
    have hlt4 := r4.lt
    have hsz4 := O4.2.1
    clear o4 own2 O2 r2
    go_wp2_with (at_builtin; refine wpList_append_own _ rfl _ _ 31 rfl w.heap.size 3 i0 (.int .i64 0) 1 8 Try.underlying31 hi hz0 hz1 hz2 rfl (by decide) _ _ _ rfl (own4.alloc _) ⟨w4.heap.size, 0, none⟩ 1 1 [.int .i64 t] rfl rfl ?c1 ?c2 ?c3 ?c4 ?c5 ?_)
    case c1 => intro j u hu; rcases j with _ | j <;> simp at hu <;> subst hu <;> simp [Addr.add]
    case c2 => intro u hu; simp at hu; subst hu; rfl
    case c3 => unfold maxLen; omega
    case c4 => omega
    case c5 => simp; omega
    intro v' w6 own6 hg6 _
    have hB6 : Below w.heap.size w4 w6 := (Below.alloc (Below.refl _ _) hsz4 _).trans (below_append (own4.alloc _) hg6 (Nat.le_refl _) (by simp; omega))
    have r6 := r4.below (hB6.mono hg)
    have O6 := O4.trans (Outer.of hB6)
    have own6' : OwnI w6 w.heap.size v' (L ++ [t]) := by
      unfold OwnI; rw [List.length_append, ints_append]; exact own6
    obtain ⟨B', d', rfl⟩ := own_form own6'
    go_wp2
    go_ret
    exact ⟨B', d', L ++ [t], ⟨rfl, by simp; omega, own6'⟩, p4, by omega, r6, O6⟩
  · by_cases hv1 : v = 1
    · subst hv1
      have own3 : (w2.alloc (.cells #[.int .i64 (-1)] 3)).ownsRow w.heap.size 3 1 (.slice (some ⟨w2.heap.size, 0, none⟩) 1 1) 1 [.int .i64 (-1)] := World.ownsRow_lit w2 #[.int .i64 (-1)] 1 hsz2 (by unfold maxLen; omega) rfl
      rcases own2.2 with ⟨hv', h0⟩ | ⟨gg, cap, cur, hv', _⟩
      · obtain rfl : L = [] := List.length_eq_zero_iff.1 h0
        simp only [List.length_nil, Value.slice.injEq, true_and] at hv'
        obtain ⟨rfl, rfl⟩ := hv'
        go_wp2_with (at_builtin; refine wpList_append_own_none rfl _ _ 31 rfl w.heap.size 3 i0 1 Try.underlying31 hi _ _ _ rfl own3 rfl ?_)
        go_wp2
        go_ret
        exact ⟨_, _, [-1], ⟨rfl, by simp, own3⟩, p2, by omega, r2.below (by (repeat' (first | exact Below.refl _ _ | apply Below.alloc | apply Below.setCell | apply Below.drew | apply below_draws)) <;> (first | omega | (simp <;> omega))), O2.trans (Outer.of (B := w.heap.size) (by (repeat' (first | exact Below.refl _ _ | apply Below.alloc | apply Below.setCell | apply Below.drew | apply below_draws)) <;> (first | omega | (simp <;> omega))))⟩
      · simp only [Value.slice.injEq, true_and] at hv'
        obtain ⟨rfl, rfl⟩ := hv'
        go_wp2_with (at_builtin; refine wpList_append_own _ rfl _ _ 31 rfl w.heap.size 3 i0 (.int .i64 0) 1 8 Try.underlying31 hi hz0 hz1 hz2 rfl (by decide) _ _ _ rfl own3 ⟨gg, 0, none⟩ L.length _ (ints L) rfl (by rw [ints_len]; omega) ((own2.alloc _).cells rfl) (ints_one L) ?c3 ?c4 ?c5 ?_)
        case c3 => unfold maxLen; omega
        case c4 => omega
        case c5 => simp; omega
        intro v' w6 own6 hg6 _
        have hB6 : Below w.heap.size w2 w6 := (Below.alloc (Below.refl _ _) hsz2 _).trans (below_append own3 hg6 (Nat.le_refl _) (by simp; omega))
        have own6' : OwnI w6 w.heap.size v' (-1 :: L) := by
          unfold OwnI; rw [List.length_cons, Nat.add_comm]; exact own6
        obtain ⟨B', d', rfl⟩ := own_form own6'
        go_wp2
        go_ret
        exact ⟨B', d', -1 :: L, ⟨rfl, by simp; omega, own6'⟩, p2, by omega, r2.below (hB6.mono hg), O2.trans (Outer.of hB6)⟩
    · by_cases hv2 : v = 2
      · subst hv2
        go_wp2_with fail
        refine (l30Up_any g p2 61 _ r2 (by omega) (by omega)).mono ?_
        rintro e w3 ⟨B', d', L', ⟨rfl, hL', own3⟩, p3, hp3, r3, O3⟩
        go_wp2
        go_ret
        exact ⟨B', d', L', ⟨rfl, hL', own_mono own3 hsz2⟩, p3, by omega, r3, O2.trans (O3.mono hsz2)⟩
      · go_wp2
        go_ret
        exact ⟨B, d, L, ⟨rfl, by omega, own2⟩, p2, by omega, r2, O2⟩
end Go.Proofs.Yteomiaffdbbpoaa
