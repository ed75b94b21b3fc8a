/-
  Plain law: points in order; the tree of points.
-/
import Derived.Test.YtbmbejomodkabaaPtKn
import Derived.Sort.LotA
namespace Go.Proofs.Ytbmbejomodkabaa
open Go.Sort
set_option linter.unusedVariables false

theorem Pt.ext' {a b : Pt} (h1 : a.i = b.i) (h2 : a.x = b.x) (h3 : a.y = b.y) : a = b := by cases a; cases b; simp_all
instance : DecidableEq Pt := fun a b => decidable_of_iff (a.i = b.i ∧ a.x = b.x ∧ a.y = b.y) ⟨fun h => Pt.ext' h.1 h.2.1 h.2.2, fun h => by subst h; exact ⟨rfl, rfl, rfl⟩⟩
theorem Kn.ext' {a b : Kn} (h1 : a.i = b.i) (h2 : a.x = b.x) (h3 : a.y = b.y) (h4 : a.l = b.l) (h5 : a.a = b.a) (h6 : a.b = b.b) (h7 : a.c = b.c) (h8 : a.d = b.d) : a = b := by cases a; cases b; simp_all
instance : DecidableEq Kn := fun a b => decidable_of_iff (a.i = b.i ∧ a.x = b.x ∧ a.y = b.y ∧ a.l = b.l ∧ a.a = b.a ∧ a.b = b.b ∧ a.c = b.c ∧ a.d = b.d) ⟨fun h => Kn.ext' h.1 h.2.1 h.2.2.1 h.2.2.2.1 h.2.2.2.2.1 h.2.2.2.2.2.1 h.2.2.2.2.2.2.1 h.2.2.2.2.2.2.2, fun h => by subst h; exact ⟨rfl, rfl, rfl, rfl, rfl, rfl, rfl, rfl⟩⟩
instance : Inhabited Pt := ⟨⟨0, 0, 0⟩⟩
instance : Inhabited Kn := ⟨⟨0, 0, 0, 0, 0, 0, 0, 0⟩⟩

/-- whether a point is ahead of another one. -/
def lessP (byY : Bool) (a b : Pt) : Bool := if byY then decide (a.y < b.y ∨ a.y = b.y ∧ (a.x < b.x ∨ a.x = b.x ∧ a.i < b.i)) else decide (a.x < b.x ∨ a.x = b.x ∧ (a.y < b.y ∨ a.y = b.y ∧ a.i < b.i))
theorem lessP_iff {byY : Bool} {a b : Pt} : lessP byY a b = true ↔ (byY = true ∧ (a.y < b.y ∨ a.y = b.y ∧ (a.x < b.x ∨ a.x = b.x ∧ a.i < b.i))) ∨ (byY = false ∧ (a.x < b.x ∨ a.x = b.x ∧ (a.y < b.y ∨ a.y = b.y ∧ a.i < b.i))) := by
  unfold lessP; cases byY <;> simp
theorem lessP_irr (c : Bool) (a : Pt) : lessP c a a = false := by rw [← Bool.not_eq_true, lessP_iff]; omega
theorem lessP_trans {c : Bool} {x y z : Pt} (h1 : lessP c x y = true) (h2 : lessP c y z = true) : lessP c x z = true := by
  rw [lessP_iff] at *; cases c <;> simp at * <;> omega
theorem lessP_ntrans {c : Bool} {x y z : Pt} (h1 : lessP c x y = false) (h2 : lessP c y z = false) : lessP c x z = false := by
  rw [← Bool.not_eq_true, lessP_iff] at *; cases c <;> simp at * <;> omega
theorem lessP_total {c : Bool} {x y : Pt} (h1 : lessP c x y = false) (h2 : lessP c y x = false) : x = y := by
  rw [← Bool.not_eq_true, lessP_iff] at h1 h2
  cases c <;> simp at h1 h2 <;> exact Pt.ext' (by omega) (by omega) (by omega)
theorem lessP_asym {c : Bool} {x y : Pt} (h : lessP c x y = true) : lessP c y x = false := by
  cases h2 : lessP c y x
  · rfl
  · have := lessP_trans h h2; rw [lessP_irr] at this; cases this
theorem swoP (c : Bool) : SWO (lessP c) where
  irrefl := lessP_irr c
  trans _ _ _ := lessP_trans
  ntrans _ _ _ := lessP_ntrans
def PwP (c : Bool) (L : List Pt) : Prop := L.Pairwise fun x y => lessP c y x = false
def sortP (c : Bool) (L : List Pt) : List Pt := L.mergeSort fun x y => !(lessP c y x)
theorem sortP_perm (c : Bool) (L : List Pt) : (sortP c L).Perm L := List.mergeSort_perm _ _
theorem sortP_len (c : Bool) (L : List Pt) : (sortP c L).length = L.length := (sortP_perm c L).length_eq
theorem sortP_pw (c : Bool) (L : List Pt) : PwP c (sortP c L) := by
  have h := List.pairwise_mergeSort (le := fun x y => !(lessP c y x)) (fun a b d h1 h2 => by
    simp only [Bool.not_eq_true'] at *
    exact lessP_ntrans h2 h1) (fun a b => by
    cases h : lessP c b a with
    | false => simp
    | true => simp [lessP_asym h]) L
  exact h.imp fun h => by simpa using h
theorem sortP_uniq {c : Bool} {L M : List Pt} (hp : M.Perm L) (hs : PwP c M) : M = sortP c L :=
  List.Perm.eq_of_pairwise (le := fun x y => lessP c y x = false) (fun a b _ _ h1 h2 => lessP_total h2 h1) hs (sortP_pw c L) (hp.trans (sortP_perm c L).symm)
theorem sortP_congr {c : Bool} {L M : List Pt} (h : L.Perm M) : sortP c L = sortP c M := sortP_uniq ((sortP_perm c L).trans h) (sortP_pw c L)
/-- a point put among others. -/
def insP (c : Bool) (L : List Pt) (p : Pt) : List Pt := L.takeWhile (lessP c · p) ++ [p] ++ L.dropWhile (lessP c · p)
def insAllP (c : Bool) (L : List Pt) : List Pt := L.foldl (insP c) []
theorem insP_perm (c : Bool) (L : List Pt) (p : Pt) : (insP c L p).Perm (p :: L) := by
  unfold insP
  rw [List.append_assoc]
  have h := List.perm_middle (l₁ := L.takeWhile (lessP c · p)) (l₂ := L.dropWhile (lessP c · p)) (a := p)
  rw [List.takeWhile_append_dropWhile] at h
  exact h
theorem insP_len (c : Bool) (L : List Pt) (p : Pt) : (insP c L p).length = L.length + 1 := by rw [(insP_perm c L p).length_eq]; rfl
theorem insP_cons (c : Bool) (x : Pt) (r : List Pt) (p : Pt) : insP c (x :: r) p = if lessP c x p = true then x :: insP c r p else p :: x :: r := by
  unfold insP
  by_cases hx : lessP c x p = true
  · simp [hx]
  · simp [hx]
theorem insP_pw {c : Bool} {p : Pt} : ∀ {L : List Pt}, PwP c L → PwP c (insP c L p)
  | [], _ => by simp [insP, PwP]
  | x :: r, h => by
    unfold PwP at h
    rw [List.pairwise_cons] at h
    rw [insP_cons]
    by_cases hx : lessP c x p = true
    · rw [if_pos hx]
      refine List.pairwise_cons.2 ⟨fun y hy => ?_, insP_pw h.2⟩
      rcases List.mem_cons.1 ((insP_perm c r p).mem_iff.1 hy) with rfl | hy
      · exact lessP_asym hx
      · exact h.1 y hy
    · rw [if_neg hx]
      rw [Bool.not_eq_true] at hx
      refine List.pairwise_cons.2 ⟨fun y hy => ?_, List.pairwise_cons.2 h⟩
      rcases List.mem_cons.1 hy with rfl | hy
      · exact hx
      · exact lessP_ntrans (h.1 y hy) hx
theorem insAllP_eq (c : Bool) (L : List Pt) : insAllP c L = sortP c L := by
  have h : ∀ (L acc : List Pt), PwP c acc → PwP c (L.foldl (insP c) acc) ∧ (L.foldl (insP c) acc).Perm (acc ++ L) := by
    intro L
    induction L with
    | nil => intro acc h; simpa using h
    | cons x r ih =>
      intro acc h
      obtain ⟨h1, h2⟩ := ih (insP c acc x) (insP_pw h)
      refine ⟨h1, h2.trans ?_⟩
      refine (List.Perm.append_right r (insP_perm c acc x)).trans ?_
      exact (List.perm_middle (l₁ := acc) (l₂ := r) (a := x)).symm
  obtain ⟨h1, h2⟩ := h L [] (by simp [PwP])
  exact sortP_uniq (by rw [List.nil_append] at h2; exact h2) h1
theorem insAllP_succ {c : Bool} {L : List Pt} {k : Nat} (hk : k < L.length) : insAllP c (L.take (k + 1)) = insP c (insAllP c (L.take k)) L[k] := by
  unfold insAllP; rw [← List.take_append_getElem hk, List.foldl_append]; rfl
theorem insAllP_len (c : Bool) (L : List Pt) : (insAllP c L).length = L.length := by rw [insAllP_eq, sortP_len]

/-! the least and the greatest -/
def minL (v : Int) (L : List Int) : Int := L.foldl (fun a b => if b < a then b else a) v
def maxL (v : Int) (L : List Int) : Int := L.foldl (fun a b => if a < b then b else a) v
theorem minL_le : ∀ (L : List Int) (v : Int), minL v L ≤ v ∧ ∀ x ∈ L, minL v L ≤ x
  | [], v => by simp [minL]
  | a :: r, v => by
    have h := minL_le r (if a < v then a else v)
    have e : minL v (a :: r) = minL (if a < v then a else v) r := rfl
    rw [e]
    refine ⟨?_, fun x hx => ?_⟩
    · have := h.1; split at this <;> split <;> omega
    · rcases List.mem_cons.1 hx with rfl | hx
      · have := h.1; split at this <;> split <;> omega
      · exact h.2 x hx
theorem minL_mem : ∀ (L : List Int) (v : Int), minL v L = v ∨ minL v L ∈ L
  | [], v => .inl rfl
  | a :: r, v => by
    have h := minL_mem r (if a < v then a else v)
    have e : minL v (a :: r) = minL (if a < v then a else v) r := rfl
    rw [e]
    rcases h with h | h
    · by_cases hc : a < v
      · rw [if_pos hc] at h ⊢; exact .inr (by rw [h]; simp)
      · rw [if_neg hc] at h ⊢; exact .inl h
    · exact .inr (List.mem_cons_of_mem _ h)
theorem minL_eq {L : List Int} {u v : Int} (hu : u ∈ L) (hv : v ∈ L) : minL u L = minL v L := by
  have a1 := (minL_le L u).2; have a2 := (minL_le L v).2
  have b1 : minL u L ∈ L := by rcases minL_mem L u with h | h; · rw [h]; exact hu
                               exact h
  have b2 : minL v L ∈ L := by rcases minL_mem L v with h | h; · rw [h]; exact hv
                               exact h
  have := a1 _ b2; have := a2 _ b1; omega
theorem maxL_ge : ∀ (L : List Int) (v : Int), v ≤ maxL v L ∧ ∀ x ∈ L, x ≤ maxL v L
  | [], v => by simp [maxL]
  | a :: r, v => by
    have h := maxL_ge r (if v < a then a else v)
    have e : maxL v (a :: r) = maxL (if v < a then a else v) r := rfl
    rw [e]
    refine ⟨?_, fun x hx => ?_⟩
    · have := h.1; split at this <;> split <;> omega
    · rcases List.mem_cons.1 hx with rfl | hx
      · have := h.1; split at this <;> split <;> omega
      · exact h.2 x hx
theorem maxL_mem : ∀ (L : List Int) (v : Int), maxL v L = v ∨ maxL v L ∈ L
  | [], v => .inl rfl
  | a :: r, v => by
    have h := maxL_mem r (if v < a then a else v)
    have e : maxL v (a :: r) = maxL (if v < a then a else v) r := rfl
    rw [e]
    rcases h with h | h
    · by_cases hc : v < a
      · rw [if_pos hc] at h ⊢; exact .inr (by rw [h]; simp)
      · rw [if_neg hc] at h ⊢; exact .inl h
    · exact .inr (List.mem_cons_of_mem _ h)
theorem maxL_eq {L : List Int} {u v : Int} (hu : u ∈ L) (hv : v ∈ L) : maxL u L = maxL v L := by
  have a1 := (maxL_ge L u).2; have a2 := (maxL_ge L v).2
  have b1 : maxL u L ∈ L := by rcases maxL_mem L u with h | h; · rw [h]; exact hu
                               exact h
  have b2 : maxL v L ∈ L := by rcases maxL_mem L v with h | h; · rw [h]; exact hv
                               exact h
  have := a1 _ b2; have := a2 _ b1; omega
theorem minL_succ {α : Type} (f : α → Int) (v : Int) {L : List α} {k : Nat} (hk : k < L.length) : minL v ((L.take (k + 1)).map f) = if f L[k] < minL v ((L.take k).map f) then f L[k] else minL v ((L.take k).map f) := by
  unfold minL; rw [← List.take_append_getElem hk, List.map_append, List.foldl_append]; rfl
theorem maxL_succ {α : Type} (f : α → Int) (v : Int) {L : List α} {k : Nat} (hk : k < L.length) : maxL v ((L.take (k + 1)).map f) = if maxL v ((L.take k).map f) < f L[k] then f L[k] else maxL v ((L.take k).map f) := by
  unfold maxL; rw [← List.take_append_getElem hk, List.map_append, List.foldl_append]; rfl

/-! the tree -/
def Kn.p (k : Kn) : Pt := ⟨k.i, k.x, k.y⟩
/-- the knot of a point in the middle of a list, its box begun with v. -/
def node (P : List Pt) (k : Nat) (p v : Pt) : Kn := ⟨p.i, p.x, p.y, (k : Int), minL v.x (P.map (·.x)), maxL v.x (P.map (·.x)), minL v.y (P.map (·.y)), maxL v.y (P.map (·.y))⟩
theorem node_eq {P : List Pt} {k : Nat} {p u v : Pt} (hu : u ∈ P) (hv : v ∈ P) : node P k p u = node P k p v := by
  unfold node
  rw [minL_eq (List.mem_map.2 ⟨u, hu, rfl⟩) (List.mem_map.2 ⟨v, hv, rfl⟩), maxL_eq (List.mem_map.2 ⟨u, hu, rfl⟩) (List.mem_map.2 ⟨v, hv, rfl⟩), minL_eq (List.mem_map.2 ⟨u, hu, rfl⟩ : u.y ∈ P.map (·.y)) (List.mem_map.2 ⟨v, hv, rfl⟩), maxL_eq (List.mem_map.2 ⟨u, hu, rfl⟩ : u.y ∈ P.map (·.y)) (List.mem_map.2 ⟨v, hv, rfl⟩)]
def knF : Nat → Bool → List Pt → List Kn
  | 0, _, _ => []
  | n + 1, c, L => match (sortP c L)[L.length / 2]? with
    | none => []
    | some p => node (sortP c L) (L.length / 2) p p :: (knF n (!c) ((sortP c L).take (L.length / 2)) ++ knF n (!c) ((sortP c L).drop (L.length / 2 + 1)))
theorem knF_nil (n : Nat) (c : Bool) : knF n c [] = [] := by
  cases n with
  | zero => rfl
  | succ n => simp [knF, sortP]
theorem knF_succ (n : Nat) (c : Bool) (L : List Pt) : knF (n + 1) c L = match (sortP c L)[L.length / 2]? with
    | none => []
    | some p => node (sortP c L) (L.length / 2) p p :: (knF n (!c) ((sortP c L).take (L.length / 2)) ++ knF n (!c) ((sortP c L).drop (L.length / 2 + 1))) := rfl
theorem knF_cons {n : Nat} {c : Bool} {L P : List Pt} (hP : P = sortP c L) (hk : P.length / 2 < P.length) : knF (n + 1) c L = node P (P.length / 2) P[P.length / 2] P[P.length / 2] :: (knF n (!c) (P.take (P.length / 2)) ++ knF n (!c) (P.drop (P.length / 2 + 1))) := by
  subst hP
  have e := sortP_len c L
  have h2 : (sortP c L)[(sortP c L).length / 2]? = some ((sortP c L)[(sortP c L).length / 2]) := List.getElem?_eq_getElem _
  rw [knF_succ, ← e, h2]
theorem half_lt {n : Nat} (h : 0 < n) : n / 2 < n := by omega
theorem knF_len : ∀ (n : Nat) (c : Bool) (L : List Pt), L.length ≤ n → (knF n c L).length = L.length
  | 0, c, L, h => by have : L = [] := List.length_eq_zero_iff.1 (by omega); subst this; rfl
  | n + 1, c, L, h => by
    rcases Nat.eq_zero_or_pos L.length with h0 | h0
    · have : L = [] := List.length_eq_zero_iff.1 h0
      subst this; rw [knF_nil]; rfl
    · have e := sortP_len c L
      rw [knF_cons rfl (by rw [e]; omega)]
      rw [List.length_cons, List.length_append, knF_len n _ _ (by rw [List.length_take]; omega), knF_len n _ _ (by rw [List.length_drop]; omega), List.length_take, List.length_drop]
      omega
theorem knF_fuel : ∀ (n m : Nat) (c : Bool) (L : List Pt), L.length ≤ n → L.length ≤ m → knF n c L = knF m c L
  | 0, m, c, L, h, _ => by have : L = [] := List.length_eq_zero_iff.1 (by omega); subst this; rw [knF_nil, knF_nil]
  | n + 1, 0, c, L, _, h => by have : L = [] := List.length_eq_zero_iff.1 (by omega); subst this; rw [knF_nil, knF_nil]
  | n + 1, m + 1, c, L, h1, h2 => by
    rcases Nat.eq_zero_or_pos L.length with h0 | h0
    · have : L = [] := List.length_eq_zero_iff.1 h0
      subst this; rw [knF_nil, knF_nil]
    · have e := sortP_len c L
      rw [knF_cons rfl (by rw [e]; omega), knF_cons rfl (by rw [e]; omega), knF_fuel n m _ _ (by rw [List.length_take]; omega) (by rw [List.length_take]; omega), knF_fuel n m _ _ (by rw [List.length_drop]; omega) (by rw [List.length_drop]; omega)]
theorem knF_congr {n : Nat} {c : Bool} {L M : List Pt} (h : L.Perm M) : knF n c L = knF n c M := by
  cases n with
  | zero => rfl
  | succ n => unfold knF; rw [sortP_congr h, h.length_eq]
theorem knF_pts : ∀ (n : Nat) (c : Bool) (L : List Pt), L.length ≤ n → ((knF n c L).map Kn.p).Perm L
  | 0, c, L, h => by have : L = [] := List.length_eq_zero_iff.1 (by omega); subst this; exact List.Perm.refl _
  | n + 1, c, L, h => by
    rcases Nat.eq_zero_or_pos L.length with h0 | h0
    · have : L = [] := List.length_eq_zero_iff.1 h0
      subst this; rw [knF_nil]; exact List.Perm.refl _
    · have e := sortP_len c L
      have hk : (sortP c L).length / 2 < (sortP c L).length := by rw [e]; omega
      rw [knF_cons rfl hk, List.map_cons, List.map_append]
      have h1 := knF_pts n (!c) ((sortP c L).take ((sortP c L).length / 2)) (by rw [List.length_take]; omega)
      have h2 := knF_pts n (!c) ((sortP c L).drop ((sortP c L).length / 2 + 1)) (by rw [List.length_drop]; omega)
      refine ((h1.append h2).cons _).trans ?_
      refine List.Perm.trans ?_ (sortP_perm c L)
      generalize sortP c L = P at hk
      have e1 : (node P (P.length / 2) P[P.length / 2] P[P.length / 2]).p = P[P.length / 2] := rfl
      rw [e1]
      refine (List.perm_middle (l₁ := P.take (P.length / 2)) (l₂ := P.drop (P.length / 2 + 1)) (a := P[P.length / 2])).symm.trans ?_
      rw [← List.drop_eq_getElem_cons hk, List.take_append_drop]

/-! points that are ok -/
def pOk (p : Pt) : Bool := wi p.i 1 9999 && wi p.x 0 999 && wi p.y 0 999
def idIn (L : List Pt) (n : Int) : Bool := L.any fun q => decide (q.i = n)
/-- all are ok, none has a number of one ahead. -/
def okFrom (acc : List Pt) : List Pt → Bool
  | [] => true
  | p :: r => pOk p && !(idIn acc p.i) && okFrom (acc ++ [p]) r
def okB (L : List Pt) : Bool := okFrom [] L && decide (L.length ≤ 24)
theorem okFrom_iff : ∀ (L acc : List Pt), (acc.map (·.i)).Nodup → (okFrom acc L = true ↔ (∀ p ∈ L, pOk p = true) ∧ ((acc ++ L).map (·.i)).Nodup)
  | [], acc, h => by simp [okFrom, h]
  | p :: r, acc, h => by
    have hid : idIn acc p.i = true ↔ p.i ∈ acc.map (·.i) := by unfold idIn; simp
    by_cases hp : p.i ∈ acc.map (·.i)
    · have : okFrom acc (p :: r) = false := by unfold okFrom; rw [hid.2 hp]; simp
      rw [this]
      constructor
      · intro h; cases h
      · rintro ⟨_, h2⟩
        rw [List.map_append, List.map_cons, List.nodup_append] at h2
        exact absurd rfl (h2.2.2 _ hp p.i (by simp))
    · have hi : idIn acc p.i = false := by rw [← Bool.not_eq_true, hid]; exact hp
      have h' : ((acc ++ [p]).map (·.i)).Nodup := by
        rw [List.map_append, List.nodup_append]
        refine ⟨h, by simp, fun a ha b hb => ?_⟩
        simp at hb
        subst hb
        intro e; subst e; exact hp ha
      have ih := okFrom_iff r (acc ++ [p]) h'
      unfold okFrom
      rw [hi, Bool.and_eq_true, ih, List.append_assoc, List.singleton_append]
      simp only [Bool.not_false, Bool.and_true, List.mem_cons, forall_eq_or_imp, and_assoc]
theorem okB_iff {L : List Pt} : okB L = true ↔ (∀ p ∈ L, pOk p = true) ∧ (L.map (·.i)).Nodup ∧ L.length ≤ 24 := by
  unfold okB
  rw [Bool.and_eq_true, okFrom_iff L [] (by simp), decide_eq_true_eq, List.nil_append, and_assoc]
theorem okB_perm {L M : List Pt} (h : L.Perm M) : okB L = okB M := by
  rw [Bool.eq_iff_iff, okB_iff, okB_iff, (h.map (·.i)).nodup_iff, h.length_eq]
  exact and_congr (forall_congr' fun p => by rw [h.mem_iff]) Iff.rfl
def knotsL (L : List Pt) : List Kn := if okB L then knF L.length false L else []
theorem knotsL_len_le (L : List Pt) : (knotsL L).length ≤ 24 := by
  unfold knotsL
  split
  · rename_i h; rw [knF_len _ _ _ (Nat.le_refl _)]; exact (okB_iff.1 h).2.2
  · simp
theorem knotsL_perm {L M : List Pt} (h : L.Perm M) : knotsL L = knotsL M := by
  unfold knotsL; rw [okB_perm h, h.length_eq, knF_congr h]
def ptsL (X : List Kn) : List Pt := X.map Kn.p
def knotsOkL (X : List Kn) : Bool := decide (knotsL (ptsL X) = X)
theorem knotsOkL_self (L : List Pt) : knotsOkL (knotsL L) = true := by
  unfold knotsOkL
  rw [decide_eq_true_eq]
  by_cases h : okB L
  · have e : knotsL L = knF L.length false L := by unfold knotsL; rw [if_pos h]
    rw [e]
    refine (knotsL_perm ?_).trans e
    exact knF_pts _ _ _ (Nat.le_refl _)
  · have e : knotsL L = [] := by unfold knotsL; rw [if_neg h]
    rw [e]; rfl
theorem knotsOkL_bad {X : List Kn} (h : okB (ptsL X) = false) : knotsOkL X = false := by
  unfold knotsOkL knotsL
  rw [if_neg (by rw [h]; simp), decide_eq_false_iff_not]
  intro e
  subst e
  revert h; decide
end Go.Proofs.Ytbmbejomodkabaa
