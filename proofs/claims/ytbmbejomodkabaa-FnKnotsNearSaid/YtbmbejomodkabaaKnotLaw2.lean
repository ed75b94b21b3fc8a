/-
  Plain law: the nearest of a tree's points; the shape of a tree.
-/
import Derived.Test.YtbmbejomodkabaaKnotLaw
namespace Go.Proofs.Ytbmbejomodkabaa
open Go.Sort
set_option linter.unusedVariables false

/-- how far a knot's point is from a place. -/
def way (px py : Int) (k : Kn) : Int := (if k.x < px then px - k.x else k.x - px) + (if k.y < py then py - k.y else k.y - py)
theorem way_nn (px py : Int) (k : Kn) : 0 ≤ way px py k := by unfold way; split <;> split <;> omega
theorem way_max (px py : Int) (k : Kn) : max (k.x - px) (px - k.x) + max (k.y - py) (py - k.y) = way px py k := by unfold way; split <;> split <;> omega
def nearStep (px py : Int) (s : Int × Int) (k : Kn) : Int × Int := if s.1 < 0 ∨ way px py k < s.2 ∨ way px py k = s.2 ∧ k.i < s.1 then (k.i, way px py k) else s
def nearS (px py : Int) (X : List Kn) : Int × Int := X.foldl (nearStep px py) (-1, 0)
theorem nearS_succ (px py : Int) {X : List Kn} {k : Nat} (hk : k < X.length) : nearS px py (X.take (k + 1)) = nearStep px py (nearS px py (X.take k)) X[k] := by
  unfold nearS; rw [← List.take_append_getElem hk, List.foldl_append]; rfl
def nearL (X : List Kn) (px py : Int) : Int := if (knotsOkL X && (wi px 0 999 && wi py 0 999)) = true then (nearS px py X).1 else -1
theorem near_inv {px py : Int} {X : List Kn} (hX : ∀ j (hj : j < X.length), 1 ≤ X[j].i) : ∀ n, n < X.length →
    (∃ j, ∃ hj : j < X.length, j ≤ n ∧ X[j].i = (nearS px py (X.take (n + 1))).1 ∧ way px py X[j] = (nearS px py (X.take (n + 1))).2) ∧ ∀ j (hj : j < X.length), j ≤ n → (nearS px py (X.take (n + 1))).2 ≤ way px py X[j] ∧ (way px py X[j] = (nearS px py (X.take (n + 1))).2 → (nearS px py (X.take (n + 1))).1 ≤ X[j].i)
  | 0, h => by
    have e : nearS px py (X.take (0 + 1)) = (X[0].i, way px py X[0]) := by
      rw [nearS_succ px py h]; unfold nearStep; rw [if_pos (.inl (by simp [nearS]))]
    rw [e]
    refine ⟨⟨0, h, Nat.le_refl _, rfl, rfl⟩, fun j hj h0 => ?_⟩
    obtain rfl : j = 0 := by omega
    exact ⟨Int.le_refl _, fun _ => Int.le_refl _⟩
  | n + 1, h => by
    obtain ⟨⟨j, hj, hjn, e1, e2⟩, hall⟩ := near_inv hX n (by omega)
    rw [nearS_succ px py h]
    generalize nearS px py (X.take (n + 1)) = s at e1 e2 hall
    have hs := hX j hj
    unfold nearStep
    split
    · rename_i hc
      refine ⟨⟨n + 1, h, Nat.le_refl _, rfl, rfl⟩, fun i hi hin => ?_⟩
      show way px py X[n + 1] ≤ _ ∧ (_ → X[n + 1].i ≤ _)
      rcases Nat.lt_or_ge n i with hlt | hge
      · obtain rfl : i = n + 1 := by omega
        exact ⟨Int.le_refl _, fun _ => Int.le_refl _⟩
      · obtain ⟨h1, h2⟩ := hall i hi hge
        rcases hc with hc | hc | ⟨hc, hc2⟩
        · omega
        · exact ⟨by omega, fun e => by omega⟩
        · refine ⟨by omega, fun e => ?_⟩
          have := h2 (by omega)
          omega
    · rename_i hc
      refine ⟨⟨j, hj, by omega, e1, e2⟩, fun i hi hin => ?_⟩
      rcases Nat.lt_or_ge n i with hlt | hge
      · obtain rfl : i = n + 1 := by omega
        have h1 : ¬ way px py X[n + 1] < s.2 := fun h => hc (.inr (.inl h))
        exact ⟨by omega, fun e => by
          have h2 : ¬ X[n + 1].i < s.1 := fun h => hc (.inr (.inr ⟨e, h⟩))
          omega⟩
      · exact hall i hi hge
def farL (px py id : Int) (L : List Kn) : Int := L.foldl (fun a k => if k.i = id then way px py k else a) (-1)
theorem farL_succ (px py id : Int) {X : List Kn} {k : Nat} (hk : k < X.length) : farL px py id (X.take (k + 1)) = if X[k].i = id then way px py X[k] else farL px py id (X.take k) := by
  unfold farL; rw [← List.take_append_getElem hk, List.foldl_append]; rfl
theorem farL_eq {px py id v : Int} {X : List Kn} (h1 : ∃ k ∈ X, k.i = id) (h2 : ∀ k ∈ X, k.i = id → way px py k = v) : farL px py id X = v := by
  have h : ∀ (L : List Kn) (a : Int), (a = v ∨ ∃ k ∈ L, k.i = id) → (∀ k ∈ L, k.i = id → way px py k = v) → L.foldl (fun a k => if k.i = id then way px py k else a) a = v := by
    intro L
    induction L with
    | nil =>
      intro a h _
      rcases h with h | ⟨k, hk, _⟩
      · exact h
      · simp at hk
    | cons x r ih =>
      intro a h h2
      refine ih _ ?_ (fun k hk => h2 k (List.mem_cons_of_mem _ hk))
      show (if x.i = id then way px py x else a) = v ∨ _
      by_cases hx : x.i = id
      · rw [if_pos hx]; exact .inl (h2 x (by simp) hx)
      · rw [if_neg hx]
        rcases h with h | ⟨k, hk, e⟩
        · exact .inl h
        · rcases List.mem_cons.1 hk with rfl | hk
          · exact absurd e hx
          · exact .inr ⟨k, hk, e⟩
  exact h X (-1) (.inr h1) h2
theorem knotsOkL_good {X : List Kn} (h : knotsOkL X = true) : okB (ptsL X) = true := by
  cases h2 : okB (ptsL X) with
  | true => rfl
  | false => rw [knotsOkL_bad h2] at h; cases h
/-- what is known of a tree that is ok. -/
theorem okX {X : List Kn} (h : knotsOkL X = true) : X.length ≤ 24 ∧ (∀ j (hj : j < X.length), (1 ≤ X[j].i ∧ X[j].i ≤ 9999) ∧ (0 ≤ X[j].x ∧ X[j].x ≤ 999) ∧ (0 ≤ X[j].y ∧ X[j].y ≤ 999)) ∧ ∀ i j (hi : i < X.length) (hj : j < X.length), X[i].i = X[j].i → i = j := by
  obtain ⟨h1, h2, h3⟩ := okB_iff.1 (knotsOkL_good h)
  refine ⟨by unfold ptsL at h3; simpa using h3, fun j hj => ?_, fun i j hi hj e => ?_⟩
  · have := h1 X[j].p (List.mem_map.2 ⟨_, List.getElem_mem hj, rfl⟩)
    unfold pOk at this
    rw [Bool.and_eq_true, Bool.and_eq_true] at this
    exact ⟨wi_true.1 this.1.1, wi_true.1 this.1.2, wi_true.1 this.2⟩
  · have hn : (X.map (·.i)).Nodup := by
      unfold ptsL at h2; rw [List.map_map] at h2; exact h2
    exact (List.getElem_inj (xs := X.map (·.i)) (h₀ := by simpa using hi) (h₁ := by simpa using hj) hn).1 (by simpa using e)
/-- the nearest is one of the points; none is nearer. -/
theorem near_law {X : List Kn} {px py : Int} (h : knotsOkL X = true) (hx : wi px 0 999 = true) (hy : wi py 0 999 = true) (h0 : 0 < X.length) :
    0 ≤ farL px py (nearL X px py) X ∧ ∀ j (hj : j < X.length), farL px py (nearL X px py) X ≤ way px py X[j] ∧ (way px py X[j] = farL px py (nearL X px py) X → nearL X px py ≤ X[j].i) := by
  obtain ⟨_, hk, hu⟩ := okX h
  have e : nearL X px py = (nearS px py X).1 := by unfold nearL; rw [h, hx, hy]; rfl
  obtain ⟨⟨j, hj, _, e1, e2⟩, hall⟩ := near_inv (px := px) (py := py) (fun j hj => (hk j hj).1.1) (X.length - 1) (by omega)
  rw [show X.length - 1 + 1 = X.length by omega, List.take_length] at e1 e2 hall
  rw [e]
  have hf : farL px py (nearS px py X).1 X = way px py X[j] := by
    refine farL_eq ⟨X[j], List.getElem_mem hj, e1⟩ (fun k hk2 e3 => ?_)
    obtain ⟨i, hi, rfl⟩ := List.mem_iff_getElem.1 hk2
    obtain rfl : i = j := hu i j hi hj (by rw [e3, e1])
    rfl
  rw [hf, e2]
  exact ⟨by rw [← e2]; exact way_nn _ _ _, fun i hi => hall i hi (by omega)⟩

/-! the shape -/
theorem node_lo {P : List Pt} {k : Nat} {p : Pt} (hp : p ∈ P) :
    (∀ m, (∀ u ∈ P, m ≤ u.x) → m ≤ (node P k p p).a) ∧ (∀ m, (∀ u ∈ P, u.x ≤ m) → (node P k p p).b ≤ m) ∧ (∀ m, (∀ u ∈ P, m ≤ u.y) → m ≤ (node P k p p).c) ∧ (∀ m, (∀ u ∈ P, u.y ≤ m) → (node P k p p).d ≤ m) := by
  refine ⟨fun m h => ?_, fun m h => ?_, fun m h => ?_, fun m h => ?_⟩
  · show m ≤ minL p.x _
    rcases minL_mem (P.map (·.x)) p.x with e | e
    · rw [e]; exact h p hp
    · obtain ⟨u, hu, e⟩ := List.mem_map.1 e; rw [← e]; exact h u hu
  · show maxL p.x _ ≤ m
    rcases maxL_mem (P.map (·.x)) p.x with e | e
    · rw [e]; exact h p hp
    · obtain ⟨u, hu, e⟩ := List.mem_map.1 e; rw [← e]; exact h u hu
  · show m ≤ minL p.y _
    rcases minL_mem (P.map (·.y)) p.y with e | e
    · rw [e]; exact h p hp
    · obtain ⟨u, hu, e⟩ := List.mem_map.1 e; rw [← e]; exact h u hu
  · show maxL p.y _ ≤ m
    rcases maxL_mem (P.map (·.y)) p.y with e | e
    · rw [e]; exact h p hp
    · obtain ⟨u, hu, e⟩ := List.mem_map.1 e; rw [← e]; exact h u hu
/-- each knot is of one of the points, its box no wider than all of them. -/
theorem knF_in : ∀ (n : Nat) (c : Bool) (L : List Pt), ∀ q ∈ knF n c L, q.p ∈ L ∧
    (∀ m, (∀ u ∈ L, m ≤ u.x) → m ≤ q.a) ∧ (∀ m, (∀ u ∈ L, u.x ≤ m) → q.b ≤ m) ∧ (∀ m, (∀ u ∈ L, m ≤ u.y) → m ≤ q.c) ∧ (∀ m, (∀ u ∈ L, u.y ≤ m) → q.d ≤ m)
  | 0, c, L, q, hq => by simp [knF] at hq
  | n + 1, c, L, q, hq => by
    have hs : ∀ u, u ∈ sortP c L ↔ u ∈ L := fun u => (sortP_perm c L).mem_iff
    rw [knF_succ] at hq
    cases hp : (sortP c L)[L.length / 2]? with
    | none => rw [hp] at hq; simp at hq
    | some p =>
      rw [hp] at hq
      have hpm : p ∈ sortP c L := List.mem_of_getElem? hp
      rcases List.mem_cons.1 hq with rfl | hq
      · obtain ⟨h1, h2, h3, h4⟩ := node_lo (k := L.length / 2) hpm
        exact ⟨(hs p).1 hpm, fun m h => h1 m fun u hu => h u ((hs u).1 hu), fun m h => h2 m fun u hu => h u ((hs u).1 hu), fun m h => h3 m fun u hu => h u ((hs u).1 hu), fun m h => h4 m fun u hu => h u ((hs u).1 hu)⟩
      · have key : ∃ M : List Pt, (∀ u ∈ M, u ∈ L) ∧ q ∈ knF n (!c) M := by
          rcases List.mem_append.1 hq with hq | hq
          · exact ⟨_, fun u hu => (hs u).1 (List.mem_of_mem_take hu), hq⟩
          · exact ⟨_, fun u hu => (hs u).1 (List.mem_of_mem_drop hu), hq⟩
        obtain ⟨M, hM, hq⟩ := key
        obtain ⟨h0, h1, h2, h3, h4⟩ := knF_in n (!c) M q hq
        exact ⟨hM _ h0, fun m h => h1 m fun u hu => h u (hM u hu), fun m h => h2 m fun u hu => h u (hM u hu), fun m h => h3 m fun u hu => h u (hM u hu), fun m h => h4 m fun u hu => h u (hM u hu)⟩
/-- the first knot of a tree. -/
structure Shape (L : List Pt) (X : List Kn) (h0 : 0 < X.length) : Prop where
  left : X[0].l = ((X.length / 2 : Nat) : Int)
  box : (0 ≤ X[0].a ∧ X[0].a ≤ X[0].b ∧ X[0].b ≤ 999) ∧ (0 ≤ X[0].c ∧ X[0].c ≤ X[0].d ∧ X[0].d ≤ 999)
  has : ∀ p ∈ L, (X[0].a ≤ p.x ∧ p.x ≤ X[0].b) ∧ (X[0].c ≤ p.y ∧ p.y ≤ X[0].d)
  kids : ∀ j (hj : j < X.length), 1 ≤ j → (X[0].a ≤ X[j].a ∧ X[j].b ≤ X[0].b ∧ X[0].c ≤ X[j].c ∧ X[j].d ≤ X[0].d) ∧ (j ≤ X.length / 2 → X[j].x ≤ X[0].x) ∧ (X.length / 2 < j → X[0].x ≤ X[j].x)
theorem sorted_x {L : List Pt} {i j : Nat} (hj : j < (sortP false L).length) (hij : i < j) : ((sortP false L)[i]).x ≤ ((sortP false L)[j]).x := by
  have h := List.pairwise_iff_getElem.1 (sortP_pw false L) i j (by omega) hj hij
  rw [← Bool.not_eq_true, lessP_iff] at h
  simp at h
  omega
theorem shape_aux {L P : List Pt} {A B : List Kn} (hk : P.length / 2 < P.length) (hsm : ∀ u, u ∈ P ↔ u ∈ L) (hsx : ∀ i j (hj : j < P.length) (hij : i < j), P[i].x ≤ P[j].x)
    (hpb : ∀ p ∈ P, (0 ≤ p.x ∧ p.x ≤ 999) ∧ (0 ≤ p.y ∧ p.y ≤ 999)) (hlA : A.length = min (P.length / 2) P.length) (hlB : B.length = P.length - (P.length / 2 + 1))
    (hiA : ∀ q ∈ A, q.p ∈ P.take (P.length / 2) ∧ (∀ m, (∀ u ∈ P.take (P.length / 2), m ≤ u.x) → m ≤ q.a) ∧ (∀ m, (∀ u ∈ P.take (P.length / 2), u.x ≤ m) → q.b ≤ m) ∧ (∀ m, (∀ u ∈ P.take (P.length / 2), m ≤ u.y) → m ≤ q.c) ∧ (∀ m, (∀ u ∈ P.take (P.length / 2), u.y ≤ m) → q.d ≤ m))
    (hiB : ∀ q ∈ B, q.p ∈ P.drop (P.length / 2 + 1) ∧ (∀ m, (∀ u ∈ P.drop (P.length / 2 + 1), m ≤ u.x) → m ≤ q.a) ∧ (∀ m, (∀ u ∈ P.drop (P.length / 2 + 1), u.x ≤ m) → q.b ≤ m) ∧ (∀ m, (∀ u ∈ P.drop (P.length / 2 + 1), m ≤ u.y) → m ≤ q.c) ∧ (∀ m, (∀ u ∈ P.drop (P.length / 2 + 1), u.y ≤ m) → q.d ≤ m)) :
    Shape L (node P (P.length / 2) P[P.length / 2] P[P.length / 2] :: (A ++ B)) (by simp) := by
  have hm : P[P.length / 2] ∈ P := List.getElem_mem hk
  obtain ⟨n1, n2, n3, n4⟩ := node_lo (k := P.length / 2) hm
  have m1 := minL_le (P.map (·.x)) P[P.length / 2].x
  have m2 := maxL_ge (P.map (·.x)) P[P.length / 2].x
  have m3 := minL_le (P.map (·.y)) P[P.length / 2].y
  have m4 := maxL_ge (P.map (·.y)) P[P.length / 2].y
  have l1 := fun u (hu : u ∈ P) => m1.2 _ (List.mem_map.2 ⟨u, hu, rfl⟩)
  have l2 := fun u (hu : u ∈ P) => m2.2 _ (List.mem_map.2 ⟨u, hu, rfl⟩)
  have l3 := fun u (hu : u ∈ P) => m3.2 _ (List.mem_map.2 ⟨u, hu, rfl⟩)
  have l4 := fun u (hu : u ∈ P) => m4.2 _ (List.mem_map.2 ⟨u, hu, rfl⟩)
  have q1 := n1 0 fun u hu => (hpb u hu).1.1
  have q2 := n2 999 fun u hu => (hpb u hu).1.2
  have q3 := n3 0 fun u hu => (hpb u hu).2.1
  have q4 := n4 999 fun u hu => (hpb u hu).2.2
  have hx0 : (node P (P.length / 2) P[P.length / 2] P[P.length / 2]).x = P[P.length / 2].x := rfl
  have ha0 : (node P (P.length / 2) P[P.length / 2] P[P.length / 2]).a = minL P[P.length / 2].x (P.map (·.x)) := rfl
  have hb0 : (node P (P.length / 2) P[P.length / 2] P[P.length / 2]).b = maxL P[P.length / 2].x (P.map (·.x)) := rfl
  have hc0 : (node P (P.length / 2) P[P.length / 2] P[P.length / 2]).c = minL P[P.length / 2].y (P.map (·.y)) := rfl
  have hd0 : (node P (P.length / 2) P[P.length / 2] P[P.length / 2]).d = maxL P[P.length / 2].y (P.map (·.y)) := rfl
  have hl0 : (node P (P.length / 2) P[P.length / 2] P[P.length / 2]).l = ((P.length / 2 : Nat) : Int) := rfl
  rw [← ha0] at m1 l1
  rw [← hb0] at m2 l2
  rw [← hc0] at m3 l3
  rw [← hd0] at m4 l4
  generalize node P (P.length / 2) P[P.length / 2] P[P.length / 2] = N at *
  have hXl : (N :: (A ++ B)).length = P.length := by rw [List.length_cons, List.length_append]; omega
  refine ⟨?_, ⟨⟨q1, Int.le_trans m1.1 m2.1, q2⟩, ⟨q3, Int.le_trans m3.1 m4.1, q4⟩⟩, fun p hp => ?_, fun j hj h1 => ?_⟩
  · show N.l = _; rw [hl0, hXl]
  · have hu := (hsm p).2 hp
    exact ⟨⟨l1 p hu, l2 p hu⟩, ⟨l3 p hu, l4 p hu⟩⟩
  · obtain ⟨i, rfl⟩ : ∃ i, j = i + 1 := ⟨j - 1, by omega⟩
    obtain ⟨H, hH⟩ : ∃ H, H = (N :: (A ++ B)).length / 2 := ⟨_, rfl⟩
    rw [← hH]
    rw [hXl] at hj hH
    rw [List.getElem_cons_succ, List.getElem_cons_zero, hx0]
    by_cases hi : i < A.length
    · rw [List.getElem_append_left hi]
      obtain ⟨k0, k1, k2, k3, k4⟩ := hiA A[i] (List.getElem_mem hi)
      refine ⟨⟨k1 _ fun u hu => l1 u (List.mem_of_mem_take hu), k2 _ fun u hu => l2 u (List.mem_of_mem_take hu), k3 _ fun u hu => l3 u (List.mem_of_mem_take hu), k4 _ fun u hu => l4 u (List.mem_of_mem_take hu)⟩, fun _ => ?_, fun h => by omega⟩
      obtain ⟨m, hm2, e⟩ := List.mem_iff_getElem.1 k0
      rw [List.length_take] at hm2
      rw [List.getElem_take] at e
      have e2 : A[i].x = P[m].x := by rw [e]; rfl
      rw [e2]
      exact hsx m (P.length / 2) hk (by omega)
    · rw [List.getElem_append_right (by omega)]
      have hi2 : i - A.length < B.length := by omega
      obtain ⟨k0, k1, k2, k3, k4⟩ := hiB B[i - A.length] (List.getElem_mem hi2)
      refine ⟨⟨k1 _ fun u hu => l1 u (List.mem_of_mem_drop hu), k2 _ fun u hu => l2 u (List.mem_of_mem_drop hu), k3 _ fun u hu => l3 u (List.mem_of_mem_drop hu), k4 _ fun u hu => l4 u (List.mem_of_mem_drop hu)⟩, fun h => by omega, fun _ => ?_⟩
      obtain ⟨m, hm2, e⟩ := List.mem_iff_getElem.1 k0
      rw [List.length_drop] at hm2
      rw [List.getElem_drop] at e
      have e2 : B[i - A.length].x = P[P.length / 2 + 1 + m].x := by rw [e]; rfl
      rw [e2]
      exact hsx (P.length / 2) (P.length / 2 + 1 + m) (by omega) (by omega)
theorem shape_of {L : List Pt} (hok : okB L = true) (h0 : 0 < (knotsL L).length) : Shape L (knotsL L) h0 := by
  obtain ⟨hp, _, _⟩ := okB_iff.1 hok
  have hlen : (knotsL L).length = L.length := by unfold knotsL; rw [if_pos hok, knF_len _ _ _ (Nat.le_refl _)]
  obtain ⟨n, hn⟩ : ∃ n, L.length = n + 1 := ⟨L.length - 1, by omega⟩
  have es := sortP_len false L
  have hk : (sortP false L).length / 2 < (sortP false L).length := by omega
  have e : knotsL L = node (sortP false L) ((sortP false L).length / 2) (sortP false L)[(sortP false L).length / 2] (sortP false L)[(sortP false L).length / 2] :: (knF n true ((sortP false L).take ((sortP false L).length / 2)) ++ knF n true ((sortP false L).drop ((sortP false L).length / 2 + 1))) := by
    unfold knotsL; rw [if_pos hok, hn]; exact knF_cons rfl hk
  have hsm : ∀ u, u ∈ sortP false L ↔ u ∈ L := fun u => (sortP_perm false L).mem_iff
  have hpb : ∀ p ∈ sortP false L, (0 ≤ p.x ∧ p.x ≤ 999) ∧ (0 ≤ p.y ∧ p.y ≤ 999) := fun p h => by
    have := hp p ((hsm p).1 h)
    unfold pOk at this
    rw [Bool.and_eq_true, Bool.and_eq_true] at this
    exact ⟨wi_true.1 this.1.2, wi_true.1 this.2⟩
  have hlA := knF_len n true ((sortP false L).take ((sortP false L).length / 2)) (by rw [List.length_take]; omega)
  have hlB := knF_len n true ((sortP false L).drop ((sortP false L).length / 2 + 1)) (by rw [List.length_drop]; omega)
  rw [List.length_take] at hlA
  rw [List.length_drop] at hlB
  have key : ∀ (X : List Kn) (h0 : 0 < X.length), X = node (sortP false L) ((sortP false L).length / 2) (sortP false L)[(sortP false L).length / 2] (sortP false L)[(sortP false L).length / 2] :: (knF n true ((sortP false L).take ((sortP false L).length / 2)) ++ knF n true ((sortP false L).drop ((sortP false L).length / 2 + 1))) → Shape L X h0 := by
    rintro X h0 rfl
    exact shape_aux hk hsm (fun i j hj hij => sorted_x hj hij) hpb hlA hlB (knF_in n true _) (knF_in n true _)
  exact key _ h0 e
end Go.Proofs.Ytbmbejomodkabaa
