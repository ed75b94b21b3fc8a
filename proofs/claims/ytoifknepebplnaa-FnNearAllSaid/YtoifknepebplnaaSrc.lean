/-
  Slices of integers as sources of an append, nil or not; the append to a row of the call's own; slices.Sort and slices.Compact on such a row.
-/
import Derived.Test.YtoifknepebplnaaOwn
import Derived.Test.YtoifknepebplnaaOrLaw
import Derived.Laws.AppendOwnNone
import Derived.Sort.OwnSortedInts
namespace Go.Proofs.Ytoifknepebplnaa
open Go.RowKit
set_option linter.unusedVariables false

/-- a slice of integers that an append can take: it reads as L; nil has no cells. -/
def Src (w : World) (A : Option Addr) (c : Nat) (L : List Int) : Prop := RdI w A L ∧ ((A = none ∧ c = 0) ∨ ∃ ad, A = some ad)
theorem Src.below {w w' : World} {A : Option Addr} {c : Nat} {L : List Int} (h : Src w A c L) (hb : Below w.heap.size w w') : Src w' A c L := ⟨h.1.below hb, h.2⟩
theorem OwnI.src {w : World} {base c : Nat} {A : Option Addr} {L : List Int} (h : OwnI w base (.slice A L.length c) L) : Src w A c L := by
  refine ⟨Rds.own h, ?_⟩
  rcases h.2 with ⟨h', h0⟩ | ⟨g, cap, cur, hv, _⟩
  · simp only [Value.slice.injEq] at h'
    exact .inl ⟨h'.1, h'.2.2⟩
  · simp only [Value.slice.injEq] at hv
    exact .inr ⟨_, hv.1⟩
theorem add_at (b off j : Nat) : (Addr.add ⟨b, off, none⟩ j) = ⟨b, off + j, none⟩ := by
  unfold Addr.add; split
  · rename_i h; subst h; rfl
  · rfl
theorem ints_cells (L : List Int) : ∀ u ∈ ints L, u.oneCell' = true := by
  intro u hu; simp only [ints, List.mem_map] at hu; obtain ⟨x, _, rfl⟩ := hu; rfl

section
variable {w : World} {ops : Array Oper} {rest : List Oper} {o : Oper} {a : Act} {Q : Exit → Act → World → Prop}
/-- 'append(v, x...)': v a row of the call's own, x a slice of integers, nil or not. -/
theorem append_src (hgd : o.guard = none) (s x : Operand) (ho : o.op = .call { callee := .builtin .append, args := #[s, x], argTypes := #[22, 22] })
    (base : Nat) (g c0 : Nat) (L : List Int) (hs : a.eval s = .slice (some ⟨g, 0, none⟩) L.length c0) (hown : OwnI w base (.slice (some ⟨g, 0, none⟩) L.length c0) L)
    (A : Option Addr) (c : Nat) (M : List Int) (hx : a.eval x = .slice A M.length c) (hM : Src w A c M) (hn : L.length + M.length ≤ 16777216) (hbase : base ≤ w.heap.size)
    (h : ∀ N, Hid (N = L ++ M) → ∀ g' c' w', OwnI w' base (.slice (some ⟨g', 0, none⟩) N.length c') N → Below base w w' → wpList Try.prog ops Q rest (a.put o.dst (.slice (some ⟨g', 0, none⟩) N.length c')) w') : wpList Try.prog ops Q (o :: rest) a w := by
  obtain ⟨i0, hi, hz0, hz1, hz2⟩ := info_parts infoInt
  rcases hM.2 with ⟨rfl, rfl⟩ | ⟨ad, rfl⟩
  · have h0 : M = [] := by
      cases M with
      | nil => rfl
      | cons y r => obtain ⟨b, off, e, _⟩ := hM.1.2 (by simp); cases e
    subst h0
    refine wpList_append_own_none hgd s x 22 ho base 3 i0 1 Try.underlying22 hi _ _ _ hs hown hx ?_
    exact h L (by rw [List.append_nil]; exact rfl) g c0 w hown (Below.refl _ _)
  · refine wpList_append_own _ hgd s x 22 ho base 3 i0 (.int .i64 0) 1 8 Try.underlying22 hi hz0 hz1 hz2 rfl (by decide) _ _ _ hs hown ad M.length c (ints M) hx (by rw [ints_len]; omega) ?_ (ints_cells M) (by unfold maxLen; omega) (by omega) hbase ?_
    · intro j u hu
      have hj : 0 < M.length := by
        have := (List.getElem?_eq_some_iff.1 hu).1
        rw [ints_len] at this; omega
      obtain ⟨b, off, e, _, hc⟩ := hM.1.2 hj
      simp only [Option.some.injEq] at e
      subst e
      rw [add_at]; exact hc j u hu
    · intro v' w' h1 h2 h3
      have h1' : OwnI w' base v' (L ++ M) := by unfold OwnI; rw [List.length_append, ints_append]; exact h1
      rcases h1'.2 with ⟨hv, _⟩ | ⟨g', cap, cur, hv, _⟩
      · have := (h3.1 hv).1; simp at this
      · subst hv
        exact h _ rfl g' cap w' h1' (below_append hown h2 (Nat.le_refl _) hbase)
end

theorem sort_own (g c base : Nat) (L : List Int) (w : World) (h : OwnI w base (.slice (some ⟨g, 0, none⟩) L.length c) L) (hn : L.length ≤ 16777216) :
    Calls Try.prog 69 #[.slice (some ⟨g, 0, none⟩) L.length c] w fun e w' => ∃ N, (e = .returned (.tuple #[]) ∧ Hid (N = sortI L) ∧ N.length = L.length ∧ OwnI w' base (.slice (some ⟨g, 0, none⟩) N.length c) N ∧ w.grownBy w' (some g)) ∧ Below base w w' := by
  rcases h.2 with ⟨h', _⟩ | ⟨g', cap, cur, hv, hb, hh, hnc, hcm, hcs, htake⟩
  · simp at h'
  · simp only [Value.slice.injEq, Option.some.injEq, Addr.mk.injEq, and_true, true_and] at hv
    obtain ⟨rfl, rfl⟩ := hv
    rw [Nat.mul_one] at htake
    have hlt := (h.lt g rfl).2
    refine (Try.slices_Sort_int g 0 c L w (holds_of_blockI hh htake) hlt (by omega)).mono ?_
    rintro e w' ⟨rfl, n, os, rfl⟩
    refine ⟨sortI L, ⟨rfl, rfl, sortI_len L, ?_, grownBy_sortedI _⟩, (Below.refl _ _).grown (grownBy_sortedI _) (by omega) (fun k hk => by cases hk; exact hb)⟩
    have := ownsRow_sortedI (n := n) (os := os) (ss := L) (ts := sortI L) (sortI_len L) hb hh hnc hcm hcs
    unfold OwnI
    rw [sortI_len]
    exact this
theorem compact_own (g c base n : Nat) (L : List Int) (w : World) (hnl : n = L.length) (h : OwnI w base (.slice (some ⟨g, 0, none⟩) L.length c) L) (hn : L.length ≤ 16777216) :
    Calls Try.prog 70 #[.slice (some ⟨g, 0, none⟩) n c] w fun e w' => ∃ N, (e = .returned (.slice (some ⟨g, 0, none⟩) N.length c) ∧ Hid (N = Lib.compact L) ∧ N.length ≤ L.length ∧ OwnI w' base (.slice (some ⟨g, 0, none⟩) N.length c) N ∧ w.grownBy w' (some g)) ∧ Below base w w' := by
  subst hnl
  rcases h.2 with ⟨h', _⟩ | ⟨g', cap, cur, hv, hb, hh, hnc, hcm, hcs, htake⟩
  · simp at h'
  · simp only [Value.slice.injEq, Option.some.injEq, Addr.mk.injEq, and_true, true_and] at hv
    obtain ⟨rfl, rfl⟩ := hv
    rw [Nat.mul_one] at htake
    refine (Try.slices_Compact_int g 0 c L w (holds_of_blockI hh htake) (by omega) hnc).mono ?_
    rintro e w' ⟨rfl, q, rfl⟩
    have hg := grownBy_sortedI (w := w) (g := g) (n := q) (os := #[]) (Lib.compact L ++ List.replicate (L.length - (Lib.compact L).length) 0).toArray
    have hb' := heap_sortedI (w := w) (g := g) (n := q) (os := #[]) (Lib.compact L ++ List.replicate (L.length - (Lib.compact L).length) 0).toArray hh
    rw [Sort.grow_empty] at hg hb'
    have hle := Lib.compact_length_le L
    refine ⟨Lib.compact L, ⟨rfl, rfl, hle, ⟨by rw [ints_len, Nat.mul_one], .inr ⟨g, c, _, rfl, hb, hb', by omega, hcm, by simp [Sort.putCells, hcs], ?_⟩⟩, hg⟩, (Below.refl _ _).grown hg (by have := (h.lt g rfl).2; omega) (fun k hk => by cases hk; exact hb)⟩
    have h1 := take_putCellsI cur (Lib.compact L ++ List.replicate (L.length - (Lib.compact L).length) 0) (by simp; omega)
    have h2 := congrArg (List.take (Lib.compact L).length) h1
    rw [List.take_take, Nat.min_eq_left (by simp)] at h2
    rw [Nat.mul_one, h2, List.map_append, List.take_left' (by simp)]
    rfl
end Go.Proofs.Ytoifknepebplnaa
