/-
  Slices of integers in memory, and what the small readers answer of them: UpOk, l3Up, l8Has, foIn, foInts, slices.Contains.
-/
import Derived.Test.YtbmbejomodkabaaSl
import Derived.Test.YtbmbejomodkabaaShelf
namespace Go.Proofs.Ytbmbejomodkabaa
open Go.RowKit
set_option linter.unusedVariables false

def ints (L : List Int) : List Value := L.map (Value.int .i64)
theorem ints_len (L : List Int) : (ints L).length = L.length := by simp [ints]
theorem ints_get {L : List Int} {k : Nat} (hk : k < L.length) : (ints L)[k]? = some (.int .i64 L[k]) := by simp [ints, hk]
theorem ints_append (L M : List Int) : ints (L ++ M) = ints L ++ ints M := by simp [ints]
abbrev RdI (w : World) (A : Option Addr) (L : List Int) : Prop := Rds w 1 A L.length (ints L)
theorem Rds.at1 {w : World} {A : Option Addr} {L : List Int} (h : RdI w A L) {k : Nat} (hk : k < L.length) :
    ∃ b off, A = some ⟨b, off, none⟩ ∧ b < w.heap.size ∧ w.cell? ⟨b, off + k, none⟩ = some (.int .i64 L[k]) := by
  obtain ⟨b, off, e, hlt, hc⟩ := h.2 (by omega)
  exact ⟨b, off, e, hlt, hc k _ (ints_get hk)⟩
theorem Rds.all1 {w : World} {b off : Nat} {L : List Int} (h : RdI w (some ⟨b, off, none⟩) L) {k : Nat} (hk : k < L.length) :
    b < w.heap.size ∧ w.cell? ⟨b, off + k, none⟩ = some (.int .i64 L[k]) := by
  obtain ⟨b', off', e, h1, h2⟩ := h.at1 hk
  simp only [Option.some.injEq, Addr.mk.injEq, and_true] at e
  obtain ⟨rfl, rfl⟩ := e
  exact ⟨h1, h2⟩

/-! a call inside a region that only reads: a callee that hands the world back as it was; one that draws. -/
section
variable {P : Program} {f : FuncId} {args : Array Value} {w : World} {v : Value}
theorem qsame {n : Nat} (h : Calls P f args (w.drewN n) fun e w' => e = .returned v ∧ w.drewN n = w') : Calls P f args (w.drewN n) fun e w'' => e = .returned v ∧ ∃ m, w'' = w.drewN m :=
  h.mono fun _ _ ⟨he, hm⟩ => ⟨he, n, hm.symm⟩
theorem qsame2 {a n : Nat} (h : Calls P f args (w.drewN (a + n)) fun e w' => e = .returned v ∧ w.drewN (a + n) = w') : Calls P f args (w.drewN (a + n)) fun e w'' => e = .returned v ∧ ∃ m, w'' = w.drewN (a + m) :=
  h.mono fun _ _ ⟨he, hm⟩ => ⟨he, n, hm.symm⟩
theorem qdrew {n : Nat} (h : Calls P f args (w.drewN n) fun e w' => e = .returned v ∧ ∃ m, w' = (w.drewN n).drewN m) : Calls P f args (w.drewN n) fun e w'' => e = .returned v ∧ ∃ m, w'' = w.drewN m :=
  h.mono fun _ _ ⟨he, m, hm⟩ => ⟨he, n + m, by rw [hm, World.drewN_drewN]⟩
theorem qdrew2 {a n : Nat} (h : Calls P f args (w.drewN (a + n)) fun e w' => e = .returned v ∧ ∃ m, w' = (w.drewN (a + n)).drewN m) : Calls P f args (w.drewN (a + n)) fun e w'' => e = .returned v ∧ ∃ m, w'' = w.drewN (a + m) :=
  h.mono fun _ _ ⟨he, m, hm⟩ => ⟨he, n + m, by rw [hm, World.drewN_drewN, Nat.add_assoc]⟩
end

/-- numbers that ascend from behind p, each in its bounds. -/
def upR : Int → List Int → Bool
  | _, [] => true
  | p, x :: r => decide (p < x) && wi x 0 999999999 && upR x r
def upB (L : List Int) : Bool := upR (-1) L && decide (L.length ≤ 60)
def prevI (L : List Int) (k : Nat) : Int := if k = 0 then -1 else L.getD (k - 1) 0
theorem prevI_zero (L : List Int) : prevI L 0 = -1 := rfl
theorem prevI_succ {L : List Int} {k : Nat} (hk : k < L.length) : prevI L (k + 1) = L[k] := by simp [prevI, List.getD_eq_getElem?_getD, hk]
theorem upR_drop {L : List Int} {k : Nat} (hk : k < L.length) (p : Int) : upR p (L.drop k) = (decide (p < L[k]) && wi L[k] 0 999999999 && upR L[k] (L.drop (k + 1))) := by
  rw [List.drop_eq_getElem_cons hk]; rfl
/-- x is one of L (a name, so that the walk leaves it alone). -/
def inB (L : List Int) (x : Int) : Bool := L.contains x
theorem has_drop {L : List Int} {k : Nat} (hk : k < L.length) (x : Int) : inB (L.drop k) x = (x == L[k] || inB (L.drop (k + 1)) x) := by
  unfold inB
  rw [List.drop_eq_getElem_cons hk, List.contains_cons]
theorem eq_drop {L M : List Int} {k : Nat} (hk : k < L.length) (hk' : k < M.length) : decide (L.drop k = M.drop k) = (decide (L[k] = M[k]) && decide (L.drop (k + 1) = M.drop (k + 1))) := by
  rw [List.drop_eq_getElem_cons hk, List.drop_eq_getElem_cons hk']
  rw [decide_eq_decide.2 (by rw [List.cons.injEq] : (L[k] :: List.drop (k + 1) L = M[k] :: List.drop (k + 1) M) ↔ (L[k] = M[k] ∧ List.drop (k + 1) L = List.drop (k + 1) M)), Bool.decide_and]



end Go.Proofs.Ytbmbejomodkabaa
