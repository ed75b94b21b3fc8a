/-
  FacetOf: plain; contract of impl.FacetOf.
-/
import Derived.Test.YteomiaffdbbpoaaMapI
import Derived.Test.YteomiaffdbbpoaaSpecBands
import Derived.Test.YteomiaffdbbpoaaSortFacet
import Derived.Maps.RangeWalk
namespace Go.Proofs.Yteomiaffdbbpoaa
open Go.RowKit Go.Maps
set_option linter.unusedVariables false

abbrev FacL := List (Int × Int)
def nubI : List Int → List Int
  | [] => []
  | x :: r => if x ∈ r then nubI r else x :: nubI r
theorem nubI_mem {x : Int} : ∀ {L : List Int}, x ∈ nubI L ↔ x ∈ L
  | [] => Iff.rfl
  | y :: r => by
    unfold nubI
    split
    · rename_i h
      rw [nubI_mem (L := r), List.mem_cons]
      constructor
      · exact .inr
      · rintro (rfl | h2)
        · exact h
        · exact h2
    · rw [List.mem_cons, nubI_mem (L := r), List.mem_cons]
theorem nubI_nodup : ∀ L : List Int, (nubI L).Nodup
  | [] => List.nodup_nil
  | y :: r => by
    unfold nubI
    split
    · exact nubI_nodup r
    · rename_i h; exact List.nodup_cons.2 ⟨fun h2 => h (nubI_mem.1 h2), nubI_nodup r⟩
theorem nubI_len : ∀ L : List Int, (nubI L).length ≤ L.length
  | [] => Nat.le_refl _
  | y :: r => by
    have := nubI_len r
    unfold nubI
    split <;> simp <;> omega
theorem numR_range9 {name : ByteArray} : ∀ {L : List AttD}, (∀ a ∈ L, 0 ≤ a.2 ∧ a.2 ≤ 999999999) → numR name L = -1 ∨ (0 ≤ numR name L ∧ numR name L ≤ 999999999)
  | [], _ => .inl rfl
  | a :: r, h => by
    unfold numR
    split
    · exact .inr (h a (List.mem_cons_self ..))
    · exact numR_range9 (fun b hb => h b (List.mem_cons_of_mem _ hb))
theorem docB_nums9 {d : DocD} (h : docB d = true) : ∀ a ∈ d.ns, 0 ≤ a.2 ∧ a.2 ≤ 999999999 := fun a ha => by
  unfold docB at h
  rw [Bool.and_eq_true] at h
  have h2 := h.2
  unfold toA at h2
  rw [List.all_eq_true] at h2
  obtain ⟨k, hk, rfl⟩ := List.getElem_of_mem ha
  have := h2 k (List.mem_range.2 hk)
  rw [okA_at hk] at this
  simp only [Bool.and_eq_true] at this
  exact wi_true.1 this.1.2
theorem docNum_range9 {d : DocD} (name : ByteArray) : docNum d name = -1 ∨ (0 ≤ docNum d name ∧ docNum d name ≤ 999999999) := by
  unfold docNum
  split
  · rename_i h; exact numR_range9 (docB_nums9 h)
  · exact .inl rfl
/-- each number with how often it stands there: those of more first, then by number. -/
def facetL (S : List Int) : FacL := sortH ((nubI S).map fun x => (x, cntI S x))
theorem facetL_len (S : List Int) : (facetL S).length ≤ S.length := by unfold facetL; rw [sortH_len, List.length_map]; exact nubI_len S
def OfS (L : FacL) (S : List Int) : Prop := ∀ p : Int × Int, p ∈ L ↔ p.1 ∈ S ∧ p.2 = cntI S p.1
theorem facetL_of (S : List Int) : OfS (facetL S) S := fun p => by
  unfold facetL
  rw [sortH_mem, List.mem_map]
  constructor
  · rintro ⟨x, hx, rfl⟩; exact ⟨nubI_mem.1 hx, rfl⟩
  · rintro ⟨h1, h2⟩; exact ⟨p.1, nubI_mem.2 h1, by rw [← h2]⟩
theorem facetL_pw (S : List Int) : PwH (facetL S) := by
  unfold facetL
  refine sortH_pw ?_
  unfold List.Nodup
  rw [List.pairwise_map]
  exact (nubI_nodup S).imp fun h e => h (by injection e)
theorem facetL_eq {L : FacL} {S : List Int} (h1 : PwH L) (h2 : OfS L S) : L = facetL S := pw_ext h1 (facetL_pw S) fun p => (h2 p).trans (facetL_of S p).symm
theorem inB_mem {L : List Int} {x : Int} : inB L x = true ↔ x ∈ L := by unfold inB; simp
def facetF (Ds : List DocD) (ids : List Int) (name : ByteArray) : FacL := if docsB Ds = true ∧ upB ids = true then facetL (selL ids name Ds) else []
theorem facetF_len (Ds : List DocD) (ids : List Int) (name : ByteArray) : (facetF Ds ids name).length ≤ Ds.length := by
  unfold facetF; split
  · exact Nat.le_trans (facetL_len _) (selL_len _ _ _)
  · simp
theorem selL_range {ids : List Int} {name : ByteArray} {Ds : List DocD} (hr : ∀ d : DocD, docNum d name = -1 ∨ (0 ≤ docNum d name ∧ docNum d name ≤ 999999999)) : ∀ x ∈ selL ids name Ds, -1 ≤ x ∧ x ≤ 999999999 := fun x hx => by
  unfold selL at hx
  obtain ⟨d, _, rfl⟩ := List.mem_map.1 hx
  rcases hr d with h | h <;> omega
theorem sameI (y x : Int) : (Lit.int .i64 y).sameKey (.int .i64 x) = decide (y = x) := by
  by_cases h : y = x
  · subst h; rw [WideAt.sameKey_self (keyLit y)]; simp
  · rw [sameKey_ne (lit_ne h)]; simp [h]
theorem nodup_len : ∀ (L M : List Int), L.Nodup → (∀ x ∈ L, x ∈ M) → L.length ≤ M.length
  | [], M, _, _ => Nat.zero_le _
  | x :: r, M, h, hs => by
    have hx := hs x (List.mem_cons_self ..)
    have hn := List.nodup_cons.1 h
    have h1 := nodup_len r (M.erase x) hn.2 (fun y hy => by
      have hne : y ≠ x := fun e => hn.1 (by rw [← e]; exact hy)
      exact (List.mem_erase_of_ne hne).2 (hs y (List.mem_cons_of_mem _ hy)))
    rw [List.length_erase_of_mem hx] at h1
    have := List.length_pos_of_mem hx
    simp; omega
/-- the facets that a loop over the map has come to. -/
def RanS (L : FacL) (S : List Int) (left : Lit → Bool) : Prop :=
  (∀ y : Int, left (.int .i64 y) = (inB S y && !inB (L.map Prod.fst) y)) ∧ (∀ p ∈ L, p.1 ∈ S ∧ p.2 = cntI S p.1) ∧ (L.map Prod.fst).Nodup
theorem RanS.step {L : FacL} {S : List Int} {left : Lit → Bool} (h : RanS L S left) {x c : Int} (hl : left (.int .i64 x) = true) (hc : c = cntI S x) : RanS (L ++ [(x, c)]) S (fun z => left z && !z.sameKey (.int .i64 x)) := by
  obtain ⟨h1, h2, h3⟩ := h
  have h4 := h1 x
  rw [hl] at h4
  have h5 := (Bool.and_eq_true _ _ ▸ h4.symm : inB S x = true ∧ (!inB (L.map Prod.fst) x) = true)
  refine ⟨fun y => ?_, fun p hp => ?_, ?_⟩
  · show (left (.int .i64 y) && !(Lit.int .i64 y).sameKey (.int .i64 x)) = _
    rw [h1 y, sameI, List.map_append]
    have e9 : List.map Prod.fst [(x, c)] = [x] := rfl
    rw [e9]
    unfold inB
    by_cases e : y = x
    · simp [e]
    · have e8 : (List.map Prod.fst L ++ [x]).contains y = (List.map Prod.fst L).contains y := by rw [List.contains_eq_mem, List.contains_eq_mem]; simp [e]
      rw [e8]; simp [e]
  · rcases List.mem_append.1 hp with hp | hp
    · exact h2 p hp
    · simp at hp; rw [hp]; exact ⟨inB_mem.1 h5.1, hc⟩
  · rw [List.map_append, List.nodup_append]
    refine ⟨h3, by simp, fun a ha b hb e => ?_⟩
    simp at hb
    have h6 : ¬ x ∈ L.map Prod.fst := fun hh => by have := inB_mem.2 hh; rw [this] at h5; simp at h5
    exact h6 (by rw [← hb, ← e]; exact ha)
theorem RanS.done {L : FacL} {S : List Int} {left : Lit → Bool} (h : RanS L S left) (hl : ∀ kl, left kl = false) : sortH L = facetL S := by
  obtain ⟨h1, h2, h3⟩ := h
  refine facetL_eq (sortH_pw (List.Pairwise.imp (fun h e => h (by rw [e])) (List.pairwise_map.1 h3))) fun p => ?_
  rw [sortH_mem]
  refine ⟨h2 p, fun ⟨h4, h5⟩ => ?_⟩
  have h6 := h1 p.1
  rw [hl, inB_mem.2 h4] at h6
  have h7 : inB (L.map Prod.fst) p.1 = true := by simpa using h6.symm
  obtain ⟨q, hq, e⟩ := List.mem_map.1 (inB_mem.1 h7)
  have h8 := h2 q hq
  have : q = p := Prod.ext e (by rw [h8.2, h5, e])
  rw [← this]; exact hq
theorem RanS.len {L : FacL} {S : List Int} {left : Lit → Bool} (h : RanS L S left) : L.length ≤ S.length := by
  obtain ⟨h1, h2, h3⟩ := h
  have h4 : (L.map Prod.fst).length ≤ (nubI S).length := nodup_len _ _ h3 fun x hx => by
    obtain ⟨p, hp, rfl⟩ := List.mem_map.1 hx
    exact nubI_mem.2 (h2 p hp).1
  rw [List.length_map] at h4
  exact Nat.le_trans h4 (nubI_len S)
def MakesF (L : FacL) (w : World) (e : Ending) (w' : World) : Prop :=
  ∃ g c, (e = .returned (.slice (some ⟨g, 0, none⟩) L.length c) ∧ OwnE enc2 73 2 w' w.heap.size g c L) ∧ Below w.heap.size w w'
end Go.Proofs.Yteomiaffdbbpoaa
