/-
  What is drawn of blocks: contract of DrawBoundAt.
-/
import Derived.Test.YtobdkkbackalhaaBound
import Derived.Test.YtobdkkbackalhaaRd2
import Derived.OwnWalk
namespace Go.Proofs.Ytobdkkbackalhaa
open Go.RowKit
set_option linter.unusedVariables false

theorem Outer.grown {g : Nat} {w w' : World} (h : Outer w.heap.size g w w') : w.grownBy w' (some g) :=
  ⟨h.1.1, h.1.2.1, h.1.2.2, h.2.1, fun k hk hn => h.2.2 k hk (fun e => hn (by rw [e]))⟩
/-- an owned row whose block is not the reader's stays. -/
theorem own_gen {w w' : World} {base e size n g : Nat} {v : Value} {xs : List Value} (h : w.ownsRow base e size v n xs) (hb : g < base) (ho : Outer w.heap.size g w w') : w'.ownsRow base e size v n xs := by
  refine h.kept (row := some g) ho.grown ?_
  cases hv : v.ownBlock with
  | none => exact .inl rfl
  | some k => exact .inr (by have := (h.lt k hv).1; intro e; injection e; omega)
/-- what an append to a row of the call's own turns. -/
theorem below_append {w w' : World} {base e size n B : Nat} {v : Value} {xs : List Value} (h : w.ownsRow base e size v n xs) (hg : w.grownBy w' v.ownBlock) (hB : B ≤ base) (hB2 : B ≤ w.heap.size) : Below B w w' :=
  (Below.refl B w).grown hg hB2 (fun k hk => Nat.le_trans hB (h.lt k hk).1)
theorem own_drawn {w : World} {base e size n q : Nat} {v : Value} {xs : List Value} (h : w.ownsRow base e size v n xs) : (w.drewN q).ownsRow base e size v n xs := h

theorem own_form {w : World} {base e size n : Nat} {v : Value} {xs : List Value} (h : w.ownsRow base e size v n xs) : ∃ A c, v = .slice A n c := by
  rcases h.2 with ⟨h', h0⟩ | ⟨g, cap, cur, hv, _⟩
  · exact ⟨none, 0, by rw [h', h0]⟩
  · exact ⟨_, _, hv⟩

theorem infoBlock : (Try.prog.info? 44).map (fun i => (i.zero, i.size, i.bytes)) = some (some (.agg #[.int .i64 0, .int .i64 0]), 2, 16) := by kernel_rfl
theorem info_parts {P : Program} {t : TypeId} {z : Option Value} {s b : Nat} (h : (P.info? t).map (fun i => (i.zero, i.size, i.bytes)) = some (z, s, b)) : ∃ i, P.info? t = some i ∧ i.zero = z ∧ i.size = s ∧ i.bytes = b := by
  cases hi : P.info? t with
  | none => rw [hi] at h; cases h
  | some i =>
    rw [hi] at h
    simp only [Option.map_some, Option.some.injEq, Prod.mk.injEq] at h
    exact ⟨i, rfl, h.1, h.2.1, h.2.2⟩

theorem drawBoundAt_any (a0 : Option Addr) (len cap : Nat) (zs : List Int) (w : World) (h : IsRow .u8 w a0 len cap zs) :
    Calls Try.prog 22 #[.slice a0 len cap] w fun e w' => ∃ (A : Option Addr) (c : Nat) (L : List (Int × Int)) (id : Int), (e = .returned (.tuple #[.slice A L.length c, .int .i64 id]) ∧ L.length ≤ 5 ∧ Rds w' 2 A L.length (L.flatMap enc2)) ∧ Below w.heap.size w w' := by
  obtain ⟨i0, hi, hz0, hz1, hz2⟩ := info_parts infoBlock
  go_enter Try.func22, Try.ntmps22
  go_wp2_with fail
  refine (open_any a0 len cap zs _ h).mono ?_
  rintro e w1 ⟨⟨rfl, r1⟩, hb1⟩
  obtain ⟨g, hg⟩ : ∃ g, g = w.heap.size := ⟨_, rfl⟩
  have hgw : w.heap.size ≤ g := by omega
  rw [← hg] at r1 ⊢
  have O1 : Outer w.heap.size g w w1 := Outer.of hb1
  have hlt1 := r1.lt
  clear hg hb1
  go_wp2_with fail
  have r2 : Rd (w1.alloc (.cells #[] 44)) g 0 := r1.below (by (repeat' (first | exact Below.refl _ _ | apply Below.alloc | apply Below.setCell | apply Below.drew | apply below_draws)) <;> (first | omega | (simp <;> omega)))
  refine (pick_gen g 0 _ (by omega) (by omega) _ r2 (by omega)).mono ?_
  rintro e w3 ⟨n0, ⟨rfl, h1, h2⟩, p3, hp3, r3, o3⟩
  obtain ⟨n, rfl⟩ := Int.eq_ofNat_of_zero_le h1
  have O3 : Outer w.heap.size g w w3 := O1.trans ((Outer.of (B := w.heap.size) (by (repeat' (first | exact Below.refl _ _ | apply Below.alloc | apply Below.setCell | apply Below.drew | apply below_draws)) <;> (first | omega | (simp <;> omega)))).trans (o3.mono (by have := O1.2.1; simp; omega)))
  have own3 : w3.ownsRow (g + 1) 44 2 (.slice (some ⟨w1.heap.size, 0, none⟩) 0 0) 0 [] :=
    own_gen (World.ownsRow_made w1 #[] 0 (by omega) (by unfold maxLen; omega) rfl) (by omega) o3
  clear O1 o3 r2
  go_wp2_with fail
  go_loopw [5, 6, 7] (fun v k i wr => ∃ (m p : Nat) (x : Int) (L : List (Int × Int)), k = .int .i64 x ∧ i = .int .i64 (m : Int) ∧ 0 ≤ x ∧ x ≤ 1000 ∧ L.length + m ≤ 4 ∧ x ≤ 3 * L.length ∧ p ≤ 1 + 2 * L.length ∧ wr.ownsRow (g + 1) 44 2 v L.length (L.flatMap enc2) ∧ Rd wr g p ∧ Outer w.heap.size g w wr) (fun _ _ i _ => (intOf i).toNat)
  case atStart => exact ⟨n, p3, 0, [], rfl, rfl, by omega, by omega, by simp; omega, by simp, by simp; omega, own3, r3, O3⟩
  case round =>
    obtain ⟨m, p, x, L, rfl, rfl, hx0, hx1, hlm, hx3, hp, hown, hr, hO⟩ := hrel
    obtain ⟨A, c, rfl⟩ := own_form hown
    rcases Nat.eq_zero_or_pos m with rfl | hm
    · go_wp2_with fail
      refine (pick_gen g p _ (by omega) (by omega) _ hr (by omega)).mono ?_
      rintro e w4 ⟨v4, ⟨rfl, h3, h4⟩, p4, hp4, r4, o4⟩
      go_wp2
      go_ret2
      exact ⟨A, c, L, v4, ⟨rfl, by omega, Rds.own (own_gen hown (by omega) o4)⟩, (hO.trans (o4.mono hO.2.1)).under (Nat.le_refl _) hgw⟩
    · obtain ⟨m, rfl⟩ : ∃ k, m = k + 1 := ⟨m - 1, by omega⟩
      go_wp2_with fail
      refine (pick_gen g p _ (by omega) (by omega) _ hr (by omega)).mono ?_
      rintro e w4 ⟨v4, ⟨rfl, h3, h4⟩, p4, hp4, r4, o4⟩
      have own4 := own_gen hown (by omega) o4
      have O4 := hO.trans (o4.mono hO.2.1)
      go_wp2_with fail
      refine (pick_gen g p4 _ (by omega) (by omega) _ r4 (by omega)).mono ?_
      rintro e w5 ⟨v5, ⟨rfl, h5, h6⟩, p5, hp5, r5, o5⟩
      have own5 := own_gen own4 (by omega) o5
      have O5 := O4.trans (o5.mono O4.2.1)
      have hlt5 := r5.lt
      clear own4 hown O4 hO o4 o5 r4 hr
      go_wp2_with (at_builtin; refine wpList_append_own _ rfl _ _ 39 rfl (g + 1) 44 i0 (.agg #[.int .i64 0, .int .i64 0]) 2 16 Try.underlying39 hi hz0 hz1 hz2 rfl (by decide) _ _ _ rfl (own5.alloc _) ⟨w5.heap.size, 0, none⟩ 1 1 [.int .i64 (x + v4), .int .i64 v5] rfl rfl ?c1 ?c2 ?c3 ?c4 ?c5 ?_)
      case c1 => intro j u hu; rcases j with _ | _ | j <;> simp at hu <;> subst hu <;> simp [Addr.add]
      case c2 => intro u hu; simp at hu; rcases hu with rfl | rfl <;> rfl
      case c3 => unfold maxLen; omega
      case c4 => omega
      case c5 => simp; omega
      intro v' w6 own6 hg6 _
      have hB6 : Below (g + 1) w5 w6 := (Below.alloc (Below.refl _ _) hlt5 _).trans (below_append (own5.alloc _) hg6 (Nat.le_refl _) (by simp; omega))
      have r6 := r5.below hB6
      have O6 := O5.trans (Outer.of (hB6.mono (by omega)))
      clear hg6 own5 O5 r5 hB6
      have own6' : w6.ownsRow (g + 1) 44 2 v' (L ++ [(x + v4, v5)]).length ((L ++ [(x + v4, v5)]).flatMap enc2) := by
        rw [List.length_append, List.flatMap_append]; exact own6
      clear own6
      go_wp2
      go_roundw
      case rel => exact ⟨m, p5, x + v4, L ++ [(x + v4, v5)], by go_num, by go_num, by omega, by omega, by simp; omega, by simp; omega, by simp; omega, own6', r6, O6⟩
      case measure => simp [intOf]

theorem walk_FnBoundAt (a0 : Option Addr) (len cap : Nat) (zs : List Int) (w : World) (hrow : IsRow .u8 w a0 len cap zs) :
    Calls Try.prog 7 #[.slice a0 len cap] w fun e w' => e = .returned (.bool true) ∧ Below w.heap.size w w' := by
  obtain ⟨hc1, hc2, _⟩ := code_of_row hrow
  by_cases hbig : (1048576 : Int) < (len : Int)
  · go_enter Try.func7, Try.ntmps7
    go_wp2
    go_ret
    exact ⟨rfl, Below.refl _ _⟩
  · go_enter Try.func7, Try.ntmps7
    go_wp2_with fail
    refine (drawBoundAt_any a0 len cap zs _ hrow).mono ?_
    rintro e w1 ⟨A, c, L, id, ⟨rfl, hL, hR⟩, hB⟩
    clear hrow
    go_wp2_with fail
    refine (boundAt_any A c L id _ hR (by omega)).mono ?_
    rintro e w2 ⟨rfl, hb2⟩
    have hR2 := hR.below hb2
    have hB2 := hB.trans (hb2.mono hB.size)
    clear hb2 hB hR
    by_cases hneg : boundB L id < 0
    · go_wp2_with (go_at_call 24; refine (specBoundAt_any A c L id _ (by first | exact hR2 | exact hR2.drawn _) (by omega)).mono ?_; rintro e w3 ⟨rfl, q, rfl⟩)
      go_ret
      exact ⟨rfl, hB2.trans (by (repeat' (first | exact Below.refl _ _ | apply Below.alloc | apply Below.setCell | apply Below.drew | apply below_draws)) <;> (first | omega | (simp <;> omega)))⟩
    · have hasc : AscP L := by
        by_cases h : AscP L
        · exact h
        · exact absurd (boundB_no (id := id) h) (by omega)
      have hy : Hid (boundB L id = mostB L id) := boundB_yes hasc
      clear hasc
      have hnn : 0 ≤ boundB L id := by omega
      clear hneg
      go_wp2_with (go_at_call 24; refine (specBoundAt_any A c L id _ hR2 (by omega)).mono ?_; rintro e w3 ⟨rfl, q, rfl⟩)
      go_loop [6] (fun i => ∃ k : Nat, k ≤ L.length ∧ i = .int .i64 k ∧ Hid (boundB L id = mostB (L.drop k) id)) (fun i => L.length - (intOf i).toNat)
      case atStart => exact ⟨0, Nat.zero_le _, rfl, hy⟩
      case round =>
        obtain ⟨k, hk, rfl, hm⟩ := hrel
        by_cases hlt : k < L.length
        · obtain ⟨b, off, rfl, hb, x0, x1⟩ := hR2.at2 hlt
          have hd := mostB_drop hlt id
          generalize L[k].1 = p at x0 hd
          generalize L[k].2 = q at x1 hd
          by_cases hle : id ≤ p
          · rw [if_pos hle] at hd
            have HD : Hid (boundB L id = q) := by rw [hm.out]; exact hd
            clear hd
            go_wp2
            go_ret
            exact ⟨ret_bool (by rw [HD.out]; simp), hB2.trans (by (repeat' (first | exact Below.refl _ _ | apply Below.alloc | apply Below.setCell | apply Below.drew | apply below_draws)) <;> (first | omega | (simp <;> omega)))⟩
          · rw [if_neg hle] at hd
            have HD := Lib.hid hd
            clear hd
            go_wp2
            go_round
            case rel => exact ⟨k + 1, by omega, by go_num, by rw [hm.out]; exact HD.out⟩
            case measure => simp [intOf]; omega
        · have hz : Hid (boundB L id = 0) := by rw [hm.out, List.drop_of_length_le (by omega)]; exact rfl
          go_wp2
          go_ret
          exact ⟨ret_bool (by rw [hz.out]; simp), hB2.trans (by (repeat' (first | exact Below.refl _ _ | apply Below.alloc | apply Below.setCell | apply Below.drew | apply below_draws)) <;> (first | omega | (simp <;> omega)))⟩
end Go.Proofs.Ytobdkkbackalhaa
