/-
  Slices of integers as sources of an append, nil or not; the append to a row of the call's own; slices.Sort and slices.Compact on such a row.
-/
import Derived.Test.YtbmbejomodkabaaOwn
import Derived.Test.YtbmbejomodkabaaOrLaw
import Derived.Laws.AppendOwnNone
import Derived.Sort.OwnSortedInts
namespace Go.Proofs.Ytbmbejomodkabaa
open Go.RowKit
set_option linter.unusedVariables false

/-- a slice of integers that an append can take: it reads as L; nil has no cells. -/
def Src (w : World) (A : Option Addr) (c : Nat) (L : List Int) : Prop := RdI w A L ∧ ((A = none ∧ c = 0) ∨ ∃ ad, A = some ad)
theorem Src.below {w w' : World} {A : Option Addr} {c : Nat} {L : List Int} (h : Src w A c L) (hb : Below w.heap.size w w') : Src w' A c L := ⟨h.1.below hb, h.2⟩
theorem OwnI.src {w : World} {base c : Nat} {A : Option Addr} {L : List Int} (h : OwnI w base (.slice A L.length c) L) : Src w A c L := by
  refine ⟨Rds.own h, ?_⟩
  rcases h.2 with ⟨h', h0⟩ | ⟨g, cap, cur, hv, _⟩
  · simp only [Value.slice.injEq] at h'
    exact .inl ⟨h'.1, h'.2.2⟩
  · simp only [Value.slice.injEq] at hv
    exact .inr ⟨_, hv.1⟩
theorem add_at (b off j : Nat) : (Addr.add ⟨b, off, none⟩ j) = ⟨b, off + j, none⟩ := by
  unfold Addr.add; split
  · rename_i h; subst h; rfl
  · rfl
theorem ints_cells (L : List Int) : ∀ u ∈ ints L, u.oneCell' = true := by
  intro u hu; simp only [ints, List.mem_map] at hu; obtain ⟨x, _, rfl⟩ := hu; rfl

section
variable {w : World} {ops : Array Oper} {rest : List Oper} {o : Oper} {a : Act} {Q : Exit → Act → World → Prop}
/-- 'append(v, x...)': v a row of the call's own, x a slice of integers, nil or not. -/
theorem append_src (hgd : o.guard = none) (s x : Operand) (ho : o.op = .call { callee := .builtin .append, args := #[s, x], argTypes := #[72, 72] })
    (base : Nat) (g c0 : Nat) (L : List Int) (hs : a.eval s = .slice (some ⟨g, 0, none⟩) L.length c0) (hown : OwnI w base (.slice (some ⟨g, 0, none⟩) L.length c0) L)
    (A : Option Addr) (c : Nat) (M : List Int) (hx : a.eval x = .slice A M.length c) (hM : Src w A c M) (hn : L.length + M.length ≤ 16777216) (hbase : base ≤ w.heap.size)
    (h : ∀ N, Hid (N = L ++ M) → ∀ g' c' w', OwnI w' base (.slice (some ⟨g', 0, none⟩) N.length c') N → Below base w w' → wpList Try.prog ops Q rest (a.put o.dst (.slice (some ⟨g', 0, none⟩) N.length c')) w') : wpList Try.prog ops Q (o :: rest) a w := by
  obtain ⟨i0, hi, hz0, hz1, hz2⟩ := info_parts infoInt
  rcases hM.2 with ⟨rfl, rfl⟩ | ⟨ad, rfl⟩
  · have h0 : M = [] := by
      cases M with
      | nil => rfl
      | cons y r => obtain ⟨b, off, e, _⟩ := hM.1.2 (by simp); cases e
    subst h0
    refine wpList_append_own_none hgd s x 72 ho base 3 i0 1 Try.underlying72 hi _ _ _ hs hown hx ?_
    exact h L (by rw [List.append_nil]; exact rfl) g c0 w hown (Below.refl _ _)
  · refine wpList_append_own _ hgd s x 72 ho base 3 i0 (.int .i64 0) 1 8 Try.underlying72 hi hz0 hz1 hz2 rfl (by decide) _ _ _ hs hown ad M.length c (ints M) hx (by rw [ints_len]; omega) ?_ (ints_cells M) (by unfold maxLen; omega) (by omega) hbase ?_
    · intro j u hu
      have hj : 0 < M.length := by
        have := (List.getElem?_eq_some_iff.1 hu).1
        rw [ints_len] at this; omega
      obtain ⟨b, off, e, _, hc⟩ := hM.1.2 hj
      simp only [Option.some.injEq] at e
      subst e
      rw [add_at]; exact hc j u hu
    · intro v' w' h1 h2 h3
      have h1' : OwnI w' base v' (L ++ M) := by unfold OwnI; rw [List.length_append, ints_append]; exact h1
      rcases h1'.2 with ⟨hv, _⟩ | ⟨g', cap, cur, hv, _⟩
      · have := (h3.1 hv).1; simp at this
      · subst hv
        exact h _ rfl g' cap w' h1' (below_append hown h2 (Nat.le_refl _) hbase)
end

end Go.Proofs.Ytbmbejomodkabaa
