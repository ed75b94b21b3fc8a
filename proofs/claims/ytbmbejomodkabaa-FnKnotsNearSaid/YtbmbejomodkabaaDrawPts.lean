/-
  What is drawn of points and trees: contracts of l30Point, l30PointsOf, onePoint, l30AnyPoints, DrawKnotsOf, l30Knots, DrawKnotsNear.
-/
import Derived.Test.YtbmbejomodkabaaRd2
import Derived.Test.YtbmbejomodkabaaKnotBuild
import Derived.OwnWalk
namespace Go.Proofs.Ytbmbejomodkabaa
open Go.RowKit Go.Sort
set_option linter.unusedVariables false

theorem Outer.grown {g : Nat} {w w' : World} (h : Outer w.heap.size g w w') : w.grownBy w' (some g) :=
  ⟨h.1.1, h.1.2.1, h.1.2.2, h.2.1, fun k hk hn => h.2.2 k hk (fun e => hn (by rw [e]))⟩
/-- an owned row whose block is not the reader's stays. -/
theorem own_gen {w w' : World} {base e size n g : Nat} {v : Value} {xs : List Value} (h : w.ownsRow base e size v n xs) (hb : g < base) (ho : Outer w.heap.size g w w') : w'.ownsRow base e size v n xs := by
  refine h.kept (row := some g) ho.grown ?_
  cases hv : v.ownBlock with
  | none => exact .inl rfl
  | some k => exact .inr (by have := (h.lt k hv).1; intro e; injection e; omega)
theorem ownEG {α : Type} {enc : α → List Value} {E F : Nat} {w w' : World} {base g g2 c : Nat} {L : List α} (h : OwnE enc E F w base g2 c L) (hb : g < base) (ho : Outer w.heap.size g w w') : OwnE enc E F w' base g2 c L := own_gen h hb ho
theorem ownEM {α : Type} {enc : α → List Value} {E F : Nat} {w : World} {base base' g2 c : Nat} {L : List α} (h : OwnE enc E F w base g2 c L) (hb : base' ≤ base) : OwnE enc E F w base' g2 c L := own_mono h hb
theorem outer_set (W : World) (R j : Nat) (v : Value) : Outer W.heap.size R W (W.setCell ⟨R, j, none⟩ v) := ⟨⟨rfl, rfl, rfl⟩, by simp [World.setCell], fun k _ hne => Below.heap_setCell W _ v k hne⟩
theorem flat_set {α : Type} {enc : α → List Value} {F : Nat} (hF : ∀ a, (enc a).length = F) {j : Nat} (hj : j < F) {v : Value} {q : α} : ∀ {X : List α} {k : Nat} (hk : k < X.length), enc q = (enc X[k]).set j v → (X.flatMap enc).set (k * F + j) v = (X.set k q).flatMap enc
  | x :: r, 0, hk, h => by
    rw [List.getElem_cons_zero] at h
    rw [Nat.zero_mul, Nat.zero_add, List.flatMap_cons, List.set_cons_zero, List.flatMap_cons, h, List.set_append_left _ _ (by rw [hF]; exact hj)]
  | x :: r, k + 1, hk, h => by
    rw [List.getElem_cons_succ] at h
    have ih := flat_set hF hj (X := r) (k := k) (by simpa using hk) h
    rw [List.flatMap_cons, List.set_cons_succ, List.flatMap_cons, ← ih, List.set_append_right _ _ (by rw [hF, Nat.add_mul]; omega), hF]
    congr 2
    rw [Nat.add_mul]; omega
theorem srcE_lit1 {α : Type} {enc : α → List Value} {F : Nat} (he : Enc enc F) {E : TypeId} (cs : Array Value) (L : List α) (hcs : cs.toList = L.flatMap enc) {V V' : World} {b c : Nat} (h2 : V'.heap = (V.alloc (.cells cs E)).heap) (h0 : b = V.heap.size) : SrcE enc F V' (some ⟨b, 0, none⟩) c L := by
  subst h0
  exact SrcE.blk (cs := cs) (E := E) he (by rw [h2]; exact heap_alloc_new _ _) hcs
/-- a block of three cells. -/
def Cell3 (w : World) (R : Nat) (a b c : Int) : Prop := w.heap[R]? = some (.cells #[.int .i64 a, .int .i64 b, .int .i64 c] 29 (0, 0))
theorem Cell3.cells {w : World} {R : Nat} {a b c : Int} (h : Cell3 w R a b c) : (w.cell? ⟨R, 0, none⟩ = some (.int .i64 a) ∧ w.cell? ⟨R, 1, none⟩ = some (.int .i64 b) ∧ w.cell? ⟨R, 2, none⟩ = some (.int .i64 c)) ∧ w.frozen? ⟨R, 0, none⟩ = false ∧ w.frozen? ⟨R, 1, none⟩ = false ∧ w.frozen? ⟨R, 2, none⟩ = false := by
  unfold Cell3 at h
  refine ⟨⟨?_, ?_, ?_⟩, ?_, ?_, ?_⟩
  · simp [World.cell?, h]
  · simp [World.cell?, h]
  · simp [World.cell?, h]
  · simp [World.frozen?, h]
  · simp [World.frozen?, h]
  · simp [World.frozen?, h]
theorem Cell3.lt {w : World} {R : Nat} {a b c : Int} (h : Cell3 w R a b c) : R < w.heap.size := by
  unfold Cell3 at h
  rcases Nat.lt_or_ge R w.heap.size with hl | hl
  · exact hl
  · rw [Array.getElem?_eq_none hl] at h; cases h
theorem Cell3.outer {w w' : World} {R g : Nat} {a b c : Int} (h : Cell3 w R a b c) (ho : Outer w.heap.size g w w') (hne : R ≠ g) : Cell3 w' R a b c := (ho.2.2 R h.lt hne).trans h
theorem Cell3.below {w w' : World} {R : Nat} {a b c : Int} (h : Cell3 w R a b c) (hb : Below w.heap.size w w') : Cell3 w' R a b c := (hb.block R h.lt).trans h
theorem Cell3.made (w : World) (a b c : Int) : Cell3 (w.alloc (.cells #[.int .i64 a, .int .i64 b, .int .i64 c] 29)) w.heap.size a b c := heap_alloc_new w _

set_option maxHeartbeats 1600000 in
theorem l30Point_gen (g p : Nat) (id : Int) (w : World) (hr : Rd w g p) (hp : p + 10 < 1000000) :
    Calls Try.prog 56 #[.pointer (some ⟨g, 0, none⟩), .int .i64 id] w fun e w' => ∃ x y : Int, e = .returned (.agg #[.int .i64 id, .int .i64 x, .int .i64 y]) ∧ Gen w w' g p 6 := by
  have hg := hr.lt
  have hbN : Below w.heap.size w (w.alloc (.cells #[.int .i64 0, .int .i64 0, .int .i64 0] 29)) := by (repeat' (first | exact Below.refl _ _ | apply Below.alloc | apply Below.setCell | apply Below.drew | apply below_draws)) <;> (first | omega | (simp <;> omega))
  have r0 := hr.below (hbN.mono hg)
  have k0 := Cell3.made w 0 0 0
  have O0 : Outer w.heap.size g w (w.alloc (.cells #[.int .i64 0, .int .i64 0, .int .i64 0] 29)) := Outer.of hbN
  go_enter Try.func56, Try.ntmps56
  go_wp2_with fail
  generalize (w.alloc (.cells #[.int .i64 0, .int .i64 0, .int .i64 0] 29)) = w0 at r0 k0 O0 ⊢
  generalize hR : w.heap.size = R at k0 O0 ⊢
  have hgR : R ≠ g := by omega
  clear hbN hr
  refine (pick_gen g p _ (by omega) (by omega) _ r0 (by omega)).mono ?_
  rintro e w1 ⟨v1, ⟨rfl, ha1, hb1⟩, p1, hp1, r1, o1⟩
  have k1 := k0.outer o1 hgR
  have O1 := O0.trans (o1.mono (by have := O0.2.1; omega))
  clear o1 r0 k0 O0 ha1 hb1
  go_wp2_with fail
  refine (pick_gen g p1 _ (by omega) (by omega) _ r1 (by omega)).mono ?_
  rintro e w2 ⟨v2, ⟨rfl, ha2, hb2⟩, p2, hp2, r2, o2⟩
  have k2 := k1.outer o2 hgR
  have O2 := O1.trans (o2.mono (by have := O1.2.1; omega))
  clear o2 r1 k1 O1 ha2 hb2
  go_wp2_with fail
  have hb3 : Below w2.heap.size w2 (w2.alloc (.cells #[.int .i64 v1, .int .i64 v2, .int .i64 999, .int .i64 0] 3)) := by (repeat' (first | exact Below.refl _ _ | apply Below.alloc | apply Below.setCell | apply Below.drew | apply below_draws)) <;> (first | omega | (simp <;> omega))
  have kN := k2.below hb3
  have ON := O2.trans ((Outer.of hb3).mono (by have := O2.2.1; omega))
  refine (one_any g p2 w2.heap.size 4 [v1, v2, 999, 0] _ (r2.below (hb3.mono r2.lt)) (by omega) rfl (by omega) (by omega) (by have := r2.lt; omega) (fun i hi => ?_)).mono ?_
  · rcases i with _ | _ | _ | _ | i
    all_goals first | omega | simp
  rintro e w3 ⟨v3, ⟨rfl, _⟩, p3, hp3, r3, o3⟩
  have k3 := kN.outer o3 hgR
  have O3 := ON.trans (o3.mono (by have := ON.2.1; omega))
  clear o3 kN ON r2 k2 O2 hb3
  go_wp2_with fail
  refine (pick_gen g p3 _ (by omega) (by omega) _ r3 (by omega)).mono ?_
  rintro e w4 ⟨v4, ⟨rfl, ha4, hb4⟩, p4, hp4, r4, o4⟩
  have k4 := k3.outer o4 hgR
  have O4 := O3.trans (o4.mono (by have := O3.2.1; omega))
  clear o4 r3 k3 O3 ha4 hb4
  go_wp2_with fail
  refine (pick_gen g p4 _ (by omega) (by omega) _ r4 (by omega)).mono ?_
  rintro e w5 ⟨v5, ⟨rfl, ha5, hb5⟩, p5, hp5, r5, o5⟩
  have k5 := k4.outer o5 hgR
  have O5 := O4.trans (o5.mono (by have := O4.2.1; omega))
  clear o5 r4 k4 O4 ha5 hb5
  go_wp2_with fail
  have hb6 : Below w5.heap.size w5 (w5.alloc (.cells #[.int .i64 v4, .int .i64 v5, .int .i64 999, .int .i64 0] 3)) := by (repeat' (first | exact Below.refl _ _ | apply Below.alloc | apply Below.setCell | apply Below.drew | apply below_draws)) <;> (first | omega | (simp <;> omega))
  have kN := k5.below hb6
  have ON := O5.trans ((Outer.of hb6).mono (by have := O5.2.1; omega))
  refine (one_any g p5 w5.heap.size 4 [v4, v5, 999, 0] _ (r5.below (hb6.mono r5.lt)) (by omega) rfl (by omega) (by omega) (by have := r5.lt; omega) (fun i hi => ?_)).mono ?_
  · rcases i with _ | _ | _ | _ | i
    all_goals first | omega | simp
  rintro e w6 ⟨v6, ⟨rfl, _⟩, p6, hp6, r6, o6⟩
  have k6 := kN.outer o6 hgR
  have O6 := ON.trans (o6.mono (by have := ON.2.1; omega))
  clear o6 kN ON r5 k5 O5 hb6
  obtain ⟨⟨c0, c1, c2⟩, z0, z1, z2⟩ := k6.cells
  have hlt := k6.lt
  have hB : Below R w6 (((w6.setCell ⟨R, 0, none⟩ (.int .i64 id)).setCell ⟨R, 1, none⟩ (.int .i64 v3)).setCell ⟨R, 2, none⟩ (.int .i64 v6)) := (((Below.refl _ _).setCell (p := ⟨R, 0, none⟩) (Nat.le_refl _) _).setCell (p := ⟨R, 1, none⟩) (Nat.le_refl _) _).setCell (p := ⟨R, 2, none⟩) (Nat.le_refl _) _
  have r7 := r6.below (hB.mono (by omega))
  have O7 := O6.trans (Outer.of hB)
  clear k6 hB r6 O6
  go_wp2
  exact bodyPost_ret (v := .agg #[.int .i64 id, .int .i64 v3, .int .i64 v6]) (by simp [results, Try.results56, go_sem, *]) rfl ⟨v3, v6, rfl, p6, by omega, r7, by rw [hR]; exact O7⟩
set_option maxHeartbeats 1600000 in
theorem l30PointsOf_gen (g p : Nat) (w : World) (hr : Rd w g p) (hp : p + 300 < 1000000) :
    Calls Try.prog 48 #[.pointer (some ⟨g, 0, none⟩)] w fun e w' => ∃ (gO c : Nat) (L : List Pt), (e = .returned (.slice (some ⟨gO, 0, none⟩) L.length c) ∧ OwnE encPt 29 3 w' w.heap.size gO c L ∧ L.length ≤ 20) ∧ Gen w w' g p 141 := by
  have hg := hr.lt
  have hbN : Below w.heap.size w ((w.alloc (.cells #[] 29)).alloc (.cells #[.int .i64 0, .int .i64 3, .int .i64 8, .int .i64 20] 3)) := by (repeat' (first | exact Below.refl _ _ | apply Below.alloc | apply Below.setCell | apply Below.drew | apply below_draws)) <;> (first | omega | (simp <;> omega))
  have own1 : OwnE encPt 29 3 ((w.alloc (.cells #[] 29)).alloc (.cells #[.int .i64 0, .int .i64 3, .int .i64 8, .int .i64 20] 3)) w.heap.size w.heap.size 0 [] := (ownE_made (enc := encPt) (F := 3) 29 w w.heap.size (Nat.le_refl _)).alloc _
  have r0 := hr.below (hbN.mono hg)
  have O1 : Outer w.heap.size g w ((w.alloc (.cells #[] 29)).alloc (.cells #[.int .i64 0, .int .i64 3, .int .i64 8, .int .i64 20] 3)) := Outer.of hbN
  have hcl : ∀ i, i < 4 → ((w.alloc (.cells #[] 29)).alloc (.cells #[.int .i64 0, .int .i64 3, .int .i64 8, .int .i64 20] 3)).cell? ⟨w.heap.size + 1, i, none⟩ = some (.int .i64 (([0, 3, 8, 20] : List Int).getD i 0)) := fun i hi => by
    rcases i with _ | _ | _ | _ | i
    all_goals first | omega | simp [go_sem]
  clear hbN
  go_enter Try.func48, Try.ntmps48
  go_wp2_with fail
  generalize ((w.alloc (.cells #[] 29)).alloc (.cells #[.int .i64 0, .int .i64 3, .int .i64 8, .int .i64 20] 3)) = w1 at r0 own1 O1 hcl ⊢
  refine (one_any g p (w.heap.size + 1) 4 [0, 3, 8, 20] _ r0 (by omega) rfl (by omega) (by omega) (by omega) hcl).mono ?_
  rintro e w2 ⟨v2, ⟨rfl, hv2⟩, p2, hp2, r2, o2⟩
  have hv : 0 ≤ v2 ∧ v2 ≤ 20 := by simp at hv2; omega
  obtain ⟨h1, h2⟩ := hv
  obtain ⟨n, rfl⟩ := Int.eq_ofNat_of_zero_le h1
  have own2 := ownEG own1 hg o2
  have O2 := O1.trans (o2.mono O1.2.1)
  clear hv2 own1 o2 O1 r0 hr hcl
  go_wp2_with fail
  go_loopw [3, 4, 5] (fun v x k wr => ∃ (m q gO c : Nat) (y : Int) (L : List Pt), k = .int .i64 (m : Int) ∧ x = .int .i64 y ∧ 0 ≤ y ∧ y ≤ 3 * L.length ∧ v = .slice (some ⟨gO, 0, none⟩) L.length c ∧ L.length + m ≤ 20 ∧ q + 7 * m ≤ p + 141 ∧ OwnE encPt 29 3 wr w.heap.size gO c L ∧ Rd wr g q ∧ Outer w.heap.size g w wr) (fun _ _ k _ => (intOf k).toNat)
  case atStart => exact ⟨n, p2, _, _, 0, [], rfl, rfl, by omega, by simp, rfl, by show 0 + n ≤ 20; omega, by omega, own2, r2, O2⟩
  case round =>
    clear own2 r2 O2
    obtain ⟨m, q, gO, c, y, L, rfl, rfl, hy0, hy1, rfl, hlm, hq, own, r, hO⟩ := hrel
    rcases Nat.eq_zero_or_pos m with rfl | hm0
    · go_wp2
      go_ret
      exact ⟨gO, c, L, ⟨rfl, own, by omega⟩, q, by omega, r, hO⟩
    · obtain ⟨m, rfl⟩ : ∃ k, m = k + 1 := ⟨m - 1, by omega⟩
      go_wp2_with fail
      refine (pick_gen g q _ (by omega) (by omega) _ r (by omega)).mono ?_
      rintro e w3 ⟨v3, ⟨rfl, h3, h4⟩, p3, hp3, r3, o3⟩
      replace own := ownEG own hg o3
      replace hO := hO.trans (o3.mono hO.2.1)
      clear o3 r
      go_wp2_with fail
      refine (l30Point_gen g p3 _ _ r3 (by omega)).mono ?_
      rintro e w4 ⟨x4, y4, rfl, p4, hp4, r4, o4⟩
      replace own := ownEG own hg o4
      replace hO := hO.trans (o4.mono hO.2.1)
      clear o4 r3
      have hsz := hO.2.1
      have hlt4 := r4.lt
      have hsz4 : w.heap.size ≤ (w4.alloc (.cells #[.int .i64 (y + 1 + v3), .int .i64 x4, .int .i64 y4] 29)).heap.size := by simp; omega
      have hb5 : Below w4.heap.size w4 (w4.alloc (.cells #[.int .i64 (y + 1 + v3), .int .i64 x4, .int .i64 y4] 29)) := by (repeat' (first | exact Below.refl _ _ | apply Below.alloc | apply Below.setCell | apply Below.drew | apply below_draws)) <;> (first | omega | (simp <;> omega))
      go_wp2_with (at_builtin; refine append_rec rowTPoint encPt_ok (by decide) rfl _ _ rfl w.heap.size _ _ L rfl (own.alloc _) _ _ _ [⟨y + 1 + v3, x4, y4⟩] rfl rfl ?_ (by simp; omega) (by omega) (by simp <;> omega) ?_; exact srcE_lit1 encPt_ok #[.int .i64 (y + 1 + v3), .int .i64 x4, .int .i64 y4] [⟨y + 1 + v3, x4, y4⟩] rfl (by rfl) (by first | rfl | (simp; done)))
      intro N hN g7 c7 w7 own7 _ _ hb7
      have hl7 : N.length = L.length + 1 := by rw [hN.out]; simp
      have hO7 := hO.trans (Outer.of ((hb5.mono hsz).trans hb7))
      have r7 := r4.below (((hb5.mono hsz).trans hb7).mono hg)
      clear hN own hO r4 hb5 hb7
      go_wp2
      go_roundw
      case rel => exact ⟨m, p4, g7, c7, y + 1 + v3, N, by go_num, rfl, by omega, by omega, rfl, by omega, by omega, own7, r7, hO7⟩
      case measure => simp [intOf]
set_option maxHeartbeats 1600000 in
theorem onePoint_gen (g p gO c base : Nat) (L : List Pt) (w : World) (hr : Rd w g p) (hp : p + 10 < 1000000) (own : OwnE encPt 29 3 w base gO c L) (hgb : g < base) (h0 : 0 < L.length) (hn : L.length ≤ 1000) :
    Calls Try.prog 49 #[.pointer (some ⟨g, 0, none⟩), .slice (some ⟨gO, 0, none⟩) L.length c] w fun e w' => ∃ i x y : Int, e = .returned (.agg #[.int .i64 i, .int .i64 x, .int .i64 y]) ∧ Gen w w' g p 3 := by
  have hg := hr.lt
  have hbN : Below w.heap.size w (w.alloc (.cells #[.int .i64 0, .int .i64 0, .int .i64 0] 29)) := by (repeat' (first | exact Below.refl _ _ | apply Below.alloc | apply Below.setCell | apply Below.drew | apply below_draws)) <;> (first | omega | (simp <;> omega))
  have r0 := hr.below (hbN.mono hg)
  have k0 := Cell3.made w 0 0 0
  have own0 := ownEB own hbN
  have O0 : Outer w.heap.size g w (w.alloc (.cells #[.int .i64 0, .int .i64 0, .int .i64 0] 29)) := Outer.of hbN
  go_enter Try.func49, Try.ntmps49
  go_wp2_with fail
  generalize (w.alloc (.cells #[.int .i64 0, .int .i64 0, .int .i64 0] 29)) = w0 at r0 k0 own0 O0 ⊢
  generalize hR : w.heap.size = R at k0 O0 ⊢
  have hgR : R ≠ g := by omega
  clear hbN hr own
  have hL9 : 1 ≤ (L.length : Int) ∧ (L.length : Int) ≤ 1000000 := by omega
  refine (pick_gen g p (L.length : Int) hL9.1 hL9.2 _ r0 (by omega)).mono ?_
  rintro e w1 ⟨v1, ⟨rfl, ha1, hb1⟩, p1, hp1, r1, o1⟩
  obtain ⟨k, rfl⟩ := Int.eq_ofNat_of_zero_le ha1
  have hkL : k < L.length := by omega
  have k1 := k0.outer o1 hgR
  have own1 := ownEG own0 hgb o1
  have O1 := O0.trans (o1.mono (by have := O0.2.1; omega))
  obtain ⟨x0, x1, x2⟩ := OwnE.cellsPt own1 hkL
  clear o1 r0 k0 O0 own0 own1
  generalize L[k].i = q0 at x0
  generalize L[k].x = q1 at x1
  generalize L[k].y = q2 at x2
  have hbA : Below w1.heap.size w1 (w1.alloc (.cells #[.int .i64 q0, .int .i64 q1, .int .i64 q2] 29)) := by (repeat' (first | exact Below.refl _ _ | apply Below.alloc | apply Below.setCell | apply Below.drew | apply below_draws)) <;> (first | omega | (simp <;> omega))
  have kA := k1.below hbA
  have kP := Cell3.made w1 q0 q1 q2
  have rA := r1.below (hbA.mono r1.lt)
  have OA := O1.trans ((Outer.of hbA).mono (by have := O1.2.1; omega))
  have hRS : R < w1.heap.size := k1.lt
  have hgS : g < w1.heap.size := r1.lt
  clear k1 r1 O1 hbA
  go_wp2_with fail
  clear x0 x1 x2
  generalize (w1.alloc (.cells #[.int .i64 q0, .int .i64 q1, .int .i64 q2] 29)) = W5 at kA kP rA OA ⊢
  generalize hS : w1.heap.size = S at kP hRS hgS ⊢
  have hne : R ≠ S := by omega
  have hne' : S ≠ R := by omega
  have hSg : S ≠ g := by omega
  refine (pick_gen g p1 2 (by omega) (by omega) _ rA (by omega)).mono ?_
  rintro e w6 ⟨v6, ⟨rfl, h7, h8⟩, p6, hp6, r6, o6⟩
  have kR := kA.outer o6 hgR
  have kS := kP.outer o6 hSg
  have O6 := OA.trans (o6.mono (by have := OA.2.1; omega))
  clear o6 rA kA kP OA
  by_cases hv : v6 = 0
  · subst hv
    have hbL : Below w6.heap.size w6 (w6.alloc (.cells #[.int .i64 (-1), .int .i64 1000] 3)) := by (repeat' (first | exact Below.refl _ _ | apply Below.alloc | apply Below.setCell | apply Below.drew | apply below_draws)) <;> (first | omega | (simp <;> omega))
    have kRb := kR.below hbL
    have kSb := kS.below hbL
    have OL := O6.trans ((Outer.of hbL).mono (by have := O6.2.1; omega))
    have rL := r6.below (hbL.mono r6.lt)
    have hgl := r6.lt
    clear hbL kR kS O6 r6
    go_wp2_with fail
    refine (one_any g p6 w6.heap.size 2 [-1, 1000] _ rL (by omega) rfl (by omega) (by omega) (by omega) (fun i hi => ?_)).mono ?_
    · rcases i with _ | _ | i
      all_goals first | omega | simp
    rintro e w7 ⟨v7, ⟨rfl, _⟩, p7, hp7, r7, o7⟩
    have kR := kRb.outer o7 hgR
    have kS := kSb.outer o7 hSg
    have O7 := OL.trans (o7.mono (by have := OL.2.1; omega))
    clear o7 rL kRb kSb OL
    obtain ⟨⟨c0, c1, c2⟩, z0, z1, z2⟩ := kR.cells
    obtain ⟨⟨d0, d1, d2⟩, y0, y1, y2⟩ := kS.cells
    have hB : Below R w7 (((((w7.setCell ⟨S, 1, none⟩ (.int .i64 v7)).setCell ⟨S, 0, none⟩ (.int .i64 99)).setCell ⟨R, 0, none⟩ (.int .i64 99)).setCell ⟨R, 1, none⟩ (.int .i64 v7)).setCell ⟨R, 2, none⟩ (.int .i64 q2)) := (((((Below.refl _ _).setCell (p := ⟨S, 1, none⟩) (by show R ≤ S; omega) _).setCell (p := ⟨S, 0, none⟩) (by show R ≤ S; omega) _).setCell (p := ⟨R, 0, none⟩) (Nat.le_refl _) _).setCell (p := ⟨R, 1, none⟩) (Nat.le_refl _) _).setCell (p := ⟨R, 2, none⟩) (Nat.le_refl _) _
    have r8 := r7.below (hB.mono (by omega))
    have O8 := O7.trans (Outer.of hB)
    clear kR kS hB r7 O7
    go_wp2
    exact bodyPost_ret (v := .agg #[.int .i64 99, .int .i64 v7, .int .i64 q2]) (by simp [results, Try.results49, go_sem, *]) rfl ⟨99, v7, q2, rfl, p7, by omega, r8, by rw [hR]; exact O8⟩
  · obtain ⟨⟨c0, c1, c2⟩, z0, z1, z2⟩ := kR.cells
    obtain ⟨⟨d0, d1, d2⟩, y0, y1, y2⟩ := kS.cells
    have hB : Below R w6 (((w6.setCell ⟨R, 0, none⟩ (.int .i64 q0)).setCell ⟨R, 1, none⟩ (.int .i64 q1)).setCell ⟨R, 2, none⟩ (.int .i64 q2)) := (((Below.refl _ _).setCell (p := ⟨R, 0, none⟩) (Nat.le_refl _) _).setCell (p := ⟨R, 1, none⟩) (Nat.le_refl _) _).setCell (p := ⟨R, 2, none⟩) (Nat.le_refl _) _
    have r8 := r6.below (hB.mono (by omega))
    have O8 := O6.trans (Outer.of hB)
    clear kR kS hB r6 O6
    go_wp2
    exact bodyPost_ret (v := .agg #[.int .i64 q0, .int .i64 q1, .int .i64 q2]) (by simp [results, Try.results49, go_sem, *]) rfl ⟨q0, q1, q2, rfl, p6, by omega, r8, by rw [hR]; exact O8⟩
set_option maxHeartbeats 1600000 in
theorem l30AnyPoints_gen (g p : Nat) (w : World) (hr : Rd w g p) (hp : p + 400 < 1000000) :
    Calls Try.prog 30 #[.pointer (some ⟨g, 0, none⟩)] w fun e w' => ∃ (gO c : Nat) (L : List Pt), (e = .returned (.slice (some ⟨gO, 0, none⟩) L.length c) ∧ OwnE encPt 29 3 w' w.heap.size gO c L ∧ L.length ≤ 21) ∧ Gen w w' g p 150 := by
  have hg := hr.lt
  go_enter Try.func30, Try.ntmps30
  go_wp2_with fail
  refine (l30PointsOf_gen g p _ hr (by omega)).mono ?_
  rintro e w1 ⟨gO, c, L, ⟨rfl, own, hl⟩, p1, hp1, r1, o1⟩
  clear hr
  rcases Nat.eq_zero_or_pos L.length with hL0 | hL0
  · obtain rfl : L = [] := List.eq_nil_of_length_eq_zero hL0
    go_wp2
    go_ret
    exact ⟨gO, c, [], ⟨rfl, own, by simp⟩, p1, by omega, r1, o1⟩
  · have hLi : 0 < (L.length : Int) := by omega
    go_wp2_with fail
    refine (pick_gen g p1 _ (by omega) (by omega) _ r1 (by omega)).mono ?_
    rintro e w2 ⟨v2, ⟨rfl, h1, h2⟩, p2, hp2, r2, o2⟩
    replace own := ownEG own hg o2
    have O2 := o1.trans (o2.mono o1.2.1)
    clear o1 o2 r1
    by_cases hv : v2 = 0
    · subst hv
      go_wp2_with fail
      refine (onePoint_gen g p2 gO c w.heap.size L _ r2 (by omega) own hg hL0 (by omega)).mono ?_
      rintro e w3 ⟨i3, x3, y3, rfl, p3, hp3, r3, o3⟩
      replace own := ownEG own hg o3
      have O3 := O2.trans (o3.mono O2.2.1)
      have hsz := O3.2.1
      clear o3 r2 O2
      have hb5 : Below w3.heap.size w3 (w3.alloc (.cells #[.int .i64 i3, .int .i64 x3, .int .i64 y3] 29)) := by (repeat' (first | exact Below.refl _ _ | apply Below.alloc | apply Below.setCell | apply Below.drew | apply below_draws)) <;> (first | omega | (simp <;> omega))
      go_wp2_with (at_builtin; refine append_rec rowTPoint encPt_ok (by decide) rfl _ _ rfl w.heap.size _ _ L rfl (own.alloc _) _ _ _ [⟨i3, x3, y3⟩] rfl rfl ?_ (by simp; omega) (by omega) (by simp <;> omega) ?_; exact srcE_lit1 encPt_ok #[.int .i64 i3, .int .i64 x3, .int .i64 y3] [⟨i3, x3, y3⟩] rfl (by rfl) (by first | rfl | (simp; done)))
      intro N hN g7 c7 w7 own7 _ _ hb7
      have hl7 : N.length = L.length + 1 := by rw [hN.out]; simp
      have hO7 := O3.trans (Outer.of ((hb5.mono hsz).trans hb7))
      have r7 := r3.below (((hb5.mono hsz).trans hb7).mono hg)
      clear hN own O3 r3 hb5 hb7
      go_wp2
      go_ret
      exact ⟨g7, c7, N, ⟨rfl, own7, by omega⟩, p3, by omega, r7, hO7⟩
    · go_wp2
      go_ret
      exact ⟨gO, c, L, ⟨rfl, own, by omega⟩, p2, by omega, r2, O2⟩
theorem drawKnotsOf_any (a0 : Option Addr) (len cap : Nat) (zs : List Int) (w : World) (h : IsRow .u8 w a0 len cap zs) :
    Calls Try.prog 9 #[.slice a0 len cap] w fun e w' => ∃ (gO c : Nat) (L : List Pt), (e = .returned (.slice (some ⟨gO, 0, none⟩) L.length c) ∧ OwnE encPt 29 3 w' w.heap.size gO c L ∧ L.length ≤ 21) ∧ Below w.heap.size w w' := by
  go_enter Try.func9, Try.ntmps9
  go_wp2_with fail
  refine (open_any a0 len cap zs _ h).mono ?_
  rintro e w1 ⟨⟨rfl, r1⟩, hb1⟩
  go_wp2_with fail
  refine (l30AnyPoints_gen _ 0 _ r1 (by omega)).mono ?_
  rintro e w2 ⟨gO, c, L, ⟨rfl, own, hl⟩, p1, hp1, r2, o2⟩
  have hB := hb1.trans ((o2.mono hb1.size).under (Nat.le_refl _) (Nat.le_refl _))
  go_wp2
  go_ret
  exact ⟨gO, c, L, ⟨rfl, ownEM own hb1.size, hl⟩, hB⟩
theorem OwnE.cellsKn {w : World} {base g c : Nat} {L : List Kn} (h : OwnE encKn 33 8 w base g c L) {k : Nat} (hk : k < L.length) :
    w.cell? ⟨g, k * 8, none⟩ = some (.int .i64 L[k].i) ∧ w.cell? ⟨g, k * 8 + 1, none⟩ = some (.int .i64 L[k].x) ∧ w.cell? ⟨g, k * 8 + 2, none⟩ = some (.int .i64 L[k].y) ∧ w.cell? ⟨g, k * 8 + 3, none⟩ = some (.int .i64 L[k].l) ∧ w.cell? ⟨g, k * 8 + 4, none⟩ = some (.int .i64 L[k].a) ∧ w.cell? ⟨g, k * 8 + 5, none⟩ = some (.int .i64 L[k].b) ∧ w.cell? ⟨g, k * 8 + 6, none⟩ = some (.int .i64 L[k].c) ∧ w.cell? ⟨g, k * 8 + 7, none⟩ = some (.int .i64 L[k].d) := by
  obtain ⟨b, off, e, hb, h0, h1, h2, h3, h4, h5, h6, h7⟩ := (Rds.own h).atKn hk
  simp only [Option.some.injEq, Addr.mk.injEq, and_true] at e
  obtain ⟨rfl, rfl⟩ := e
  rw [Nat.zero_add] at h0 h1 h2 h3 h4 h5 h6 h7
  exact ⟨h0, h1, h2, h3, h4, h5, h6, h7⟩
theorem ownKn_set {w : World} {base g c B gR : Nat} {X : List Kn} {k : Nat} (h : OwnE encKn 33 8 w base g c X) (hk : k < X.length) (hB : B ≤ base) (hgR : gR < base) (j : Nat) (hj : j < 8) (v : Int) (q : Kn) (hq : encKn q = (encKn X[k]).set j (.int .i64 v)) :
    OwnE encKn 33 8 (w.setCell ⟨g, k * 8 + j, none⟩ (.int .i64 v)) base g c (X.set k q) ∧ Below base w (w.setCell ⟨g, k * 8 + j, none⟩ (.int .i64 v)) := by
  have h1 := (World.ownsRow.stored h (k * 8 + j) (.int .i64 v)).1
  rw [flat_set (enc := encKn) (fun _ => rfl) hj hk hq] at h1
  have hb : base ≤ g := h.capOk.2.2.1
  refine ⟨?_, (Below.refl _ _).setCell (p := ⟨g, k * 8 + j, none⟩) hb _⟩
  unfold OwnE
  rw [List.length_set]
  exact h1
set_option maxHeartbeats 4000000 in
set_option maxRecDepth 4000 in
theorem l30Knots_gen (g p : Nat) (w : World) (hr : Rd w g p) (hp : p + 400 < 1000000) :
    Calls Try.prog 41 #[.pointer (some ⟨g, 0, none⟩)] w fun e w' => ∃ (A : Option Addr) (c : Nat) (X : List Kn), (e = .returned (.slice A X.length c) ∧ (∀ w'', Outer w'.heap.size g w' w'' → SrcE encKn 8 w'' A c X) ∧ X.length ≤ 20) ∧ Gen w w' g p 150 := by
  have hg := hr.lt
  go_enter Try.func41, Try.ntmps41
  go_wp2_with fail
  refine (l30PointsOf_gen g p _ hr (by omega)).mono ?_
  rintro e w1 ⟨gO, c, L, ⟨rfl, own, hl⟩, p1, hp1, r1, o1⟩
  clear hr
  go_wp2_with fail
  refine (l15Build_own L.length _ _ false L _ own.src (Nat.le_refl _) (by omega)).mono ?_
  have hkl : (knF L.length false L).length ≤ 20 := by rw [knF_len L.length false L (Nat.le_refl _)]; exact hl
  generalize knF L.length false L = X at hkl ⊢
  rintro e w2 ⟨A, cX, ⟨rfl, sX, ownX⟩, hb2⟩
  have O2 := o1.trans ((Outer.of hb2).mono o1.2.1)
  have r2 := r1.below (hb2.mono r1.lt)
  have hs1 := o1.2.1
  have hgw1 := r1.lt
  clear own o1 r1 hb2
  rcases Nat.eq_zero_or_pos X.length with hX0 | hX0
  · obtain rfl : X = [] := List.eq_nil_of_length_eq_zero hX0
    go_wp2
    go_ret
    exact ⟨A, cX, [], ⟨rfl, fun w'' _ => ⟨⟨by simp, fun h => absurd h (by simp)⟩, sX.2⟩, by simp⟩, p1, by omega, r2, O2⟩
  · obtain ⟨gX, rfl, own⟩ := ownX hX0
    have hXi : 0 < (X.length : Int) := by omega
    clear ownX sX
    go_wp2_with fail
    refine (pick_gen g p1 _ (by omega) (by omega) _ r2 (by omega)).mono ?_
    rintro e w3 ⟨v3, ⟨rfl, h1, h2⟩, p3, hp3, r3, o3⟩
    replace own := ownEG own hgw1 o3
    have O3 := O2.trans (o3.mono O2.2.1)
    clear o3 r2 O2
    by_cases hv : v3 = 0
    · subst hv
      go_wp2_with fail
      refine (pick_gen g p3 _ (by omega) (by omega) _ r3 (by omega)).mono ?_
      rintro e w4 ⟨v4, ⟨rfl, h3, h4⟩, p4, hp4, r4, o4⟩
      obtain ⟨k, rfl⟩ := Int.eq_ofNat_of_zero_le h3
      have hkX : k < X.length := by omega
      replace own := ownEG own hgw1 o4
      have O4 := O3.trans (o4.mono O3.2.1)
      clear o4 r3 O3
      go_wp2_with fail
      refine (pick_gen g p4 _ (by omega) (by omega) _ r4 (by omega)).mono ?_
      rintro e w5 ⟨v5, ⟨rfl, h5, h6⟩, p5, hp5, r5, o5⟩
      replace own := ownEG own hgw1 o5
      have O5 := O4.trans (o5.mono O4.2.1)
      clear o5 r4 O4
      obtain ⟨e0, e1, e2, e3, e4, e5, e6, e7⟩ := OwnE.cellsKn own hkX
      by_cases hv0 : v5 = 0
      · subst hv0
        have hbL : Below w5.heap.size w5 (w5.alloc (.cells #[.int .i64 (-1), .int .i64 0, .int .i64 9] 3)) := by (repeat' (first | exact Below.refl _ _ | apply Below.alloc | apply Below.setCell | apply Below.drew | apply below_draws)) <;> (first | omega | (simp <;> omega))
        have OL := O5.trans ((Outer.of hbL).mono O5.2.1)
        have rL := r5.below (hbL.mono r5.lt)
        have hgl := r5.lt
        replace own := ownEB own hbL
        clear hbL O5 r5 e0 e1 e2 e3 e4 e5 e6 e7
        go_wp2_with fail
        refine (one_any g p5 w5.heap.size 3 [-1, 0, 9] _ rL (by omega) rfl (by omega) (by omega) (by omega) (fun i hi => ?_)).mono ?_
        · rcases i with _ | _ | _ | i
          all_goals first | omega | simp
        rintro e w6 ⟨v6, ⟨rfl, _⟩, p6, hp6, r6, o6⟩
        replace own := ownEG own hgw1 o6
        have O6 := OL.trans (o6.mono OL.2.1)
        clear o6 rL OL
        obtain ⟨e0, e1, e2, e3, e4, e5, e6, e7⟩ := OwnE.cellsKn own hkX
        obtain ⟨own7, hB7⟩ := ownKn_set own hkX hs1 hgw1 3 (by omega) v6 ⟨X[k].i, X[k].x, X[k].y, v6, X[k].a, X[k].b, X[k].c, X[k].d⟩ rfl
        have z := own.frozenAt (k * 8 + 3)
        have r7 := r6.below (hB7.mono hgw1)
        have O7 := O6.trans (Outer.of (hB7.mono hs1))
        have S7 : Hid (∀ w'', Outer _ g _ w'' → SrcE encKn 8 w'' _ cX _) := fun w'' o => (ownEG own7 hgw1 o).src
        clear own own7 hB7 O6 r6 e0 e1 e2 e4 e5 e6 e7
        go_wp2
        go_ret
        exact ⟨_, cX, _, ⟨by rw [List.length_set]; rfl, S7.out, by rw [List.length_set]; exact hkl⟩, p6, by omega, r7, O7⟩
      · by_cases hv1 : v5 = 1
        · subst hv1
          obtain ⟨own7, hB7⟩ := ownKn_set own hkX hs1 hgw1 5 (by omega) (IntKind.i64.wrap (X[k].b + 1)) ⟨X[k].i, X[k].x, X[k].y, X[k].l, X[k].a, IntKind.i64.wrap (X[k].b + 1), X[k].c, X[k].d⟩ rfl
          have z := own.frozenAt (k * 8 + 5)
          have r7 := r5.below (hB7.mono hgw1)
          have O7 := O5.trans (Outer.of (hB7.mono hs1))
          have S7 : Hid (∀ w'', Outer _ g _ w'' → SrcE encKn 8 w'' _ cX _) := fun w'' o => (ownEG own7 hgw1 o).src
          clear own own7 hB7 O5 r5 e0 e1 e2 e3 e4 e6 e7
          generalize X[k].b = xb at e5 r7 O7 S7
          generalize hwm : IntKind.i64.wrap (xb + 1) = xn at r7 O7 S7
          go_wp2
          go_ret
          exact ⟨_, cX, _, ⟨by rw [List.length_set]; rfl, S7.out, by rw [List.length_set]; exact hkl⟩, p5, by omega, r7, O7⟩
        · have hv2 : v5 = 2 := by omega
          subst hv2
          obtain ⟨own7, hB7⟩ := ownKn_set own hkX hs1 hgw1 1 (by omega) (IntKind.i64.wrap (X[k].x + 1)) ⟨X[k].i, IntKind.i64.wrap (X[k].x + 1), X[k].y, X[k].l, X[k].a, X[k].b, X[k].c, X[k].d⟩ rfl
          have z := own.frozenAt (k * 8 + 1)
          have r7 := r5.below (hB7.mono hgw1)
          have O7 := O5.trans (Outer.of (hB7.mono hs1))
          have S7 : Hid (∀ w'', Outer _ g _ w'' → SrcE encKn 8 w'' _ cX _) := fun w'' o => (ownEG own7 hgw1 o).src
          clear own own7 hB7 O5 r5 e0 e2 e3 e4 e5 e6 e7
          generalize X[k].x = xb at e1 r7 O7 S7
          generalize hwm : IntKind.i64.wrap (xb + 1) = xn at r7 O7 S7
          go_wp2
          go_ret
          exact ⟨_, cX, _, ⟨by rw [List.length_set]; rfl, S7.out, by rw [List.length_set]; exact hkl⟩, p5, by omega, r7, O7⟩
    · have hs : Hid (∀ w'', Outer w3.heap.size g w3 w'' → SrcE encKn 8 w'' (some ⟨gX, 0, none⟩) cX X) := fun w'' o => (ownEG own hgw1 o).src
      go_wp2
      go_ret
      exact ⟨_, cX, X, ⟨rfl, hs.out, by omega⟩, p3, by omega, r3, O3⟩
set_option maxHeartbeats 1600000 in
theorem drawKnotsNear_any (a0 : Option Addr) (len cap : Nat) (zs : List Int) (w : World) (h : IsRow .u8 w a0 len cap zs) :
    Calls Try.prog 20 #[.slice a0 len cap] w fun e w' => ∃ (A : Option Addr) (c : Nat) (X : List Kn) (px py : Int), (e = .returned (.tuple #[.slice A X.length c, .int .i64 px, .int .i64 py]) ∧ SrcE encKn 8 w' A c X ∧ X.length ≤ 20) ∧ Below w.heap.size w w' := by
  go_enter Try.func20, Try.ntmps20
  go_wp2_with fail
  refine (open_any a0 len cap zs _ h).mono ?_
  rintro e w1 ⟨⟨rfl, r1⟩, hb1⟩
  generalize hG : w.heap.size = g at r1 hb1 ⊢
  have hgw := r1.lt
  go_wp2_with fail
  refine (l30Knots_gen g 0 _ r1 (by omega)).mono ?_
  rintro e w2 ⟨A, c, X, ⟨rfl, s2, hl⟩, p2, hp2, r2, o2⟩
  have S2 := Lib.hid s2
  have O2 : Outer g g w w2 := (Outer.of hb1).trans (o2.mono (by omega))
  clear s2 o2 r1 hb1 h
  go_wp2_with fail
  refine (pick_gen g p2 _ (by omega) (by omega) _ r2 (by omega)).mono ?_
  rintro e w3 ⟨v3, ⟨rfl, h1, h2⟩, p3, hp3, r3, o3⟩
  have hs2 := o3.2.1
  have O3 := O2.trans (o3.mono (by have := r2.lt; omega))
  have hbL : Below w3.heap.size w3 (w3.alloc (.cells #[.int .i64 v3, .int .i64 0, .int .i64 999, .int .i64 (-1)] 3)) := by (repeat' (first | exact Below.refl _ _ | apply Below.alloc | apply Below.setCell | apply Below.drew | apply below_draws)) <;> (first | omega | (simp <;> omega))
  have hgl := r3.lt
  have hg2 := r2.lt
  have rL := r3.below (hbL.mono r3.lt)
  have OL := O3.trans ((Outer.of hbL).mono (by omega))
  have o3L : Outer w2.heap.size g w2 _ := o3.trans ((Outer.of hbL).mono hs2)
  clear O2 O3 o3 r2 r3
  go_wp2_with fail
  refine (one_any g p3 w3.heap.size 4 [v3, 0, 999, -1] _ rL (by omega) rfl (by omega) (by omega) (by omega) (fun i hi => ?_)).mono ?_
  · rcases i with _ | _ | _ | _ | i
    all_goals first | omega | simp
  rintro e w4 ⟨v4, ⟨rfl, _⟩, p4, hp4, r4, o4⟩
  have hsL := hbL.size
  have O4 := OL.trans (o4.mono (by omega))
  have o24 := o3L.trans (o4.mono (by omega))
  have hs4 := o24.2.1
  clear OL o3L o4 rL hbL
  go_wp2_with fail
  refine (pick_gen g p4 _ (by omega) (by omega) _ r4 (by omega)).mono ?_
  rintro e w5 ⟨v5, ⟨rfl, h3, h4⟩, p5, hp5, r5, o5⟩
  have O5 := O4.trans (o5.mono (by omega))
  have o25 := o24.trans (o5.mono hs4)
  have s5 := S2.out _ o25
  have hBf : Below w.heap.size w w5 := by rw [hG]; exact O5.under (Nat.le_refl _) (Nat.le_refl _)
  clear O4 o5 o24 r4
  go_wp2
  exact bodyPost_ret (v := .tuple #[.slice A X.length c, .int .i64 v4, .int .i64 v5]) (by simp [results, Try.results20, go_sem, *]) rfl ⟨A, c, X, v4, v5, ⟨rfl, s5, hl⟩, hBf⟩
end Go.Proofs.Ytbmbejomodkabaa
