/-
  Rows of records: literals, appends, stores; what is told of a tree.
-/
import Derived.Test.YtbmbejomodkabaaSortPt
import Derived.Deep.RegionHeld3
import Derived.Laws.AppendOwnNone
namespace Go.Proofs.Ytbmbejomodkabaa
open Go.RowKit Go.Sort
set_option linter.unusedVariables false

theorem ownE_lit {α : Type} {enc : α → List Value} {F : Nat} (he : Enc enc F) (w : World) (E : TypeId) (cs : Array Value) (L : List α) (hcs : cs.toList = L.flatMap enc) (base : Nat) (hb : base ≤ w.heap.size) (hm : L.length ≤ maxLen) : OwnE enc E F (w.alloc (.cells cs E)) base w.heap.size L.length L :=
  ⟨he.flat _, .inr ⟨w.heap.size, L.length, cs, rfl, hb, heap_alloc_new w _, Nat.le_refl _, hm, by have := he.flat L; rw [← hcs] at this; simpa using this, by rw [hcs, List.take_of_length_le (by rw [he.flat]; omega)]⟩⟩
theorem srcE_nilA {α : Type} {enc : α → List Value} {F : Nat} (w : World) (ad : Addr) (c : Nat) : SrcE enc F w (some ad) c ([] : List α) := ⟨⟨by simp, fun h => by simp at h⟩, .inr ⟨_, rfl⟩⟩
theorem OwnE.cellsPt {w : World} {base g c : Nat} {L : List Pt} (h : OwnE encPt 29 3 w base g c L) {k : Nat} (hk : k < L.length) :
    w.cell? ⟨g, k * 3, none⟩ = some (.int .i64 L[k].i) ∧ w.cell? ⟨g, k * 3 + 1, none⟩ = some (.int .i64 L[k].x) ∧ w.cell? ⟨g, k * 3 + 2, none⟩ = some (.int .i64 L[k].y) := by
  obtain ⟨b, off, e, hb, h0, h1, h2⟩ := (Rds.own h).atPt hk
  simp only [Option.some.injEq, Addr.mk.injEq, and_true] at e
  obtain ⟨rfl, rfl⟩ := e
  rw [Nat.zero_add] at h0 h1 h2
  exact ⟨h0, h1, h2⟩
theorem ownEB {α : Type} {enc : α → List Value} {E F : Nat} {w w' : World} {base g c : Nat} {L : List α} (h : OwnE enc E F w base g c L) (hb : Below w.heap.size w w') : OwnE enc E F w' base g c L := own_below h hb
theorem step_append_any {α : Type} {enc : α → List Value} {F : Nat} {P : Program} {w : World} {ops : Array Oper} {o : Oper} {a : Act} {Q : Exit → Act → World → Prop} {ST E : TypeId} {B : Nat} {K : Act → World → Prop} {EE : Prop} (T : RowT P ST E F B) (he : Enc enc F) (hF : 0 < F) (hgd : o.guard = none) (s x : Operand) (ho : o.op = .call { callee := .builtin .append, args := #[s, x], argTypes := #[ST, ST] })
    (base : Nat) (g c0 : Nat) (L : List α) (hs : a.eval s = .slice (some ⟨g, 0, none⟩) L.length c0) (hown : OwnE enc E F w base g c0 L)
    (A : Option Addr) (m c : Nat) (M : List α) (hm : m = M.length) (hx : a.eval x = .slice A m c) (hM : SrcE enc F w A c M) (hn : L.length + M.length ≤ 16777216) (hB : B ≤ 4096) (hbase : base ≤ w.heap.size)
    (h : ∀ N, Hid (N = L ++ M) → ∀ g' c' w', OwnE enc E F w' base g' c' N → w.grownBy w' (some g) → (g' = g ∨ g' = w.heap.size) → Below base w w' → K (a.put o.dst (.slice (some ⟨g', 0, none⟩) N.length c')) w') :
    if Region.wanted o (yielded ops a.tmps) = true then Oper.wp P o a w K Q else EE := by
  rcases hM.2 with ⟨rfl, rfl⟩ | ⟨ad, rfl⟩
  · have h0 : M = [] := by
      cases M with
      | nil => rfl
      | cons y r => obtain ⟨b, off, e, _⟩ := hM.1.2 (by simp); cases e
    subst h0
    subst hm
    obtain ⟨i0, z, hi, hz0, hz1, hz2, hzs⟩ := T.info
    have hrun := run_append_owned_none (P := P) (w := w) base ST o.type E i0 F T.und hi _ _ _ hown
    have hw : Region.wanted o (yielded ops a.tmps) = true := by simp [Region.wanted, hgd]
    rw [if_pos hw]
    unfold Oper.wp execOp
    have hx' : a.eval x = .slice none 0 0 := hx
    simp only [ho, resolve, invoke, builtin, Sem.run_bind, Sem.run_pure, Result.andThen_ok, List.map_toArray, List.map_cons, List.map_nil, hs, hx', hrun]
    exact h L (by rw [List.append_nil]; exact rfl) g c0 w hown (World.grownBy.refl w _) (.inl rfl) (Below.refl _ _)
  · exact step_append_rec T he hF hgd s x ho base g c0 L hs hown ad m c M hm hx hM hn hB hbase h
/-- the box of the first j. -/
def bx (P : List Pt) (v : Pt) (j : Nat) : Int × Int × Int × Int := (minL v.x ((P.take j).map (·.x)), maxL v.x ((P.take j).map (·.x)), minL v.y ((P.take j).map (·.y)), maxL v.y ((P.take j).map (·.y)))
theorem own_litAt {α : Type} {enc : α → List Value} {F : Nat} (he : Enc enc F) {E : TypeId} (cs : Array Value) (L : List α) (hcs : cs.toList = L.flatMap enc) {V V' : World} {b base : Nat} (h2 : V'.heap = (V.alloc (.cells cs E)).heap) (h0 : b = V.heap.size) (h1 : base ≤ V.heap.size) (hm : L.length ≤ maxLen) : OwnE enc E F V' base b L.length L := by
  subst h0
  have := ownE_lit he V E cs L hcs base h1 hm
  unfold OwnE World.ownsRow at this ⊢
  rw [h2]; exact this
theorem ownEB2 {α : Type} {enc : α → List Value} {E F : Nat} {w w' : World} {base g c : Nat} {L : List α} (hb : Below w.heap.size w w') (h : OwnE enc E F w base g c L) : OwnE enc E F w' base g c L := own_below h hb
theorem setCell_grown (w : World) (g j : Nat) (v : Value) : w.grownBy (w.setCell ⟨g, j, none⟩ v) (some g) :=
  ⟨rfl, rfl, rfl, by simp [World.setCell], fun k hk hne => Below.heap_setCell w _ v k (by show k ≠ g; intro e; exact hne (by rw [e]))⟩
theorem ownE_set {α : Type} {enc : α → List Value} {E F : Nat} {w : World} {base g c : Nat} {L : List α} (h : OwnE enc E F w base g c L) {g2 : Nat} (hne : g2 ≠ g) (j : Nat) (v : Value) : OwnE enc E F (w.setCell ⟨g2, j, none⟩ v) base g c L :=
  own_other h (setCell_grown w g2 j v) (fun e => hne e.symm)
theorem bx_succ {P : List Pt} {v : Pt} {j : Nat} (hj : j < P.length) {a b e f : Int} (h : (a, b, e, f) = bx P v j) : (min a P[j].x, max b P[j].x, min e P[j].y, max f P[j].y) = bx P v (j + 1) := by
  unfold bx at h ⊢
  simp only [Prod.mk.injEq] at h
  obtain ⟨rfl, rfl, rfl, rfl⟩ := h
  rw [minL_succ _ _ hj, maxL_succ _ _ hj, minL_succ _ _ hj, maxL_succ _ _ hj]
  simp only [Prod.mk.injEq]
  refine ⟨?_, ?_, ?_, ?_⟩ <;> (split <;> omega)
def MakesK (N : List Kn) (w : World) (e : Ending) (w' : World) : Prop := ∃ g c : Nat, (e = .returned (.slice (some ⟨g, 0, none⟩) N.length c) ∧ OwnE encKn 33 8 w' w.heap.size g c N) ∧ Below w.heap.size w w'
end Go.Proofs.Ytbmbejomodkabaa
