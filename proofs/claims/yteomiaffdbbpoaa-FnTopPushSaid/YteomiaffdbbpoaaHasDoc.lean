/-
  Contract of hasDoc.
-/
import Derived.Test.YteomiaffdbbpoaaHitOrder
import Derived.Test.YteomiaffdbbpoaaSpecHits
import Derived.Shelf.SlicesQ.IndexFunc
namespace Go.Proofs.Yteomiaffdbbpoaa
open Go.RowKit Go.Shelf
set_option linter.unusedVariables false

theorem pred_doc (d : Int) (B : Nat) (w : World) (hB : B < w.heap.size) (hcell : w.cell? ⟨B, 0, none⟩ = some (.int .i64 d)) :
    PredBelow Try.prog 86 #[.pointer (some ⟨B, 0, none⟩)] (fun x : Int × Int => .agg (enc2 x).toArray) (fun x => decide (x.1 = d)) w := fun W x hb => by
  have hc : W.cell? ⟨B, 0, none⟩ = some (.int .i64 d) := (hb.cell (p := ⟨B, 0, none⟩) hB).trans hcell
  have hBW : B < W.heap.size := Nat.lt_of_lt_of_le hB hb.size
  have hne : B ≠ W.heap.size := by omega
  show Calls Try.prog 86 #[.agg #[.int .i64 x.1, .int .i64 x.2], .pointer (some ⟨B, 0, none⟩)] W _
  go_enter Try.func86, Try.ntmps86
  go_wp2
  all_goals (go_ret; exact ⟨by simp_all <;> rfl, hb.alloc hb.size _⟩)
theorem indexNil_any (A : Option Addr) (c : Nat) (fv : Value) (w : World) :
    Calls Try.prog 109 #[.slice A 0 c, fv] w fun e w' => e = .returned (.int .i64 (-1)) ∧ w' = w := by
  go_enter Try.func109, Try.ntmps109
  go_wp2
  refine wp_loop_rounds 1 ?_
  rw [rounds_succ]
  go_wp2
  go_ret
  exact ⟨rfl, rfl⟩
theorem containsNil_any (A : Option Addr) (c : Nat) (fv : Value) (w : World) :
    Calls Try.prog 85 #[.slice A 0 c, fv] w fun e w' => e = .returned (.bool false) ∧ w' = w := by
  go_enter Try.func85, Try.ntmps85
  go_wp2_with fail
  refine (indexNil_any A c fv _).mono ?_
  rintro e w1 ⟨rfl, rfl⟩
  go_wp2
  go_ret
  exact ⟨rfl, rfl⟩
theorem containsHit_any (A : Option Addr) (c B : Nat) (L : List (Int × Int)) (d : Int) (w : World) (h : Rds w 2 A L.length (L.flatMap enc2)) (hn : L.length ≤ 1048576)
    (hB : B < w.heap.size) (hcell : w.cell? ⟨B, 0, none⟩ = some (.int .i64 d)) :
    Calls Try.prog 85 #[.slice A L.length c, .func (.func 86) #[] #[.pointer (some ⟨B, 0, none⟩)]] w fun e w' => e = .returned (.bool (anyDoc L d)) ∧ Below w.heap.size w w' := by
  rcases Nat.eq_zero_or_pos L.length with h0 | h0
  · have e0 : L = [] := List.length_eq_zero_iff.1 h0
    subst e0
    exact (containsNil_any A c _ w).mono fun _ _ ⟨h1, h2⟩ => ⟨h1, by rw [h2]; exact Below.refl _ _⟩
  · obtain ⟨b, off, rfl, hb, _⟩ := h.2 h0
    have eg : ∀ args w, (callFunc 86 args).run Try.prog w = .ok (.enter 86 args) w := enters_of Try.func86 (by kernel_rfl) rfl
    have hcon := AnyQ.slices_ContainsFunc Try.hasHit 2 Try.isAgg49 Try.sizeOf49 enc2 (fun _ => rfl) (fun x => decide (x.1 = d)) 86 #[.pointer (some ⟨B, 0, none⟩)] eg b off L.length c L w
      (pred_doc d B w hB hcell) (Nat.le_refl _) (by omega) hb (fun j hj i v hi => by
        obtain ⟨_, x0, x1⟩ := Rds.all2 h hj
        rw [getElem!_pos L j hj] at hi
        match i, hi with
        | 0, hi => simp [enc2] at hi; rw [← hi]; exact x0
        | 1, hi => simp [enc2] at hi; rw [← hi]; exact x1
        | i + 2, hi => simp [enc2] at hi)
    rw [List.take_of_length_le (Nat.le_refl _)] at hcon
    exact hcon
theorem hasDoc_any (A : Option Addr) (c : Nat) (L : List (Int × Int)) (d : Int) (w : World) (h : Rds w 2 A L.length (L.flatMap enc2)) (hn : L.length ≤ 1048576) :
    Calls Try.prog 54 #[.slice A L.length c, .int .i64 d] w fun e w' => e = .returned (.bool (anyDoc L d)) ∧ Below w.heap.size w w' := by
  obtain ⟨r, hr⟩ : ∃ r, r = anyDoc L d := ⟨_, rfl⟩
  have hcon := containsHit_any A c w.heap.size L d (w.alloc (.cells #[.int .i64 d] 3)) (h.below ((Below.refl _ w).alloc (Nat.le_refl _) _)) hn (by simp) (by simp)
  rw [← hr] at hcon ⊢
  clear hr h
  go_enter Try.func54, Try.ntmps54
  go_wp2_with fail
  refine hcon.mono ?_
  rintro e w1 ⟨rfl, hb⟩
  go_wp2
  go_ret
  exact ⟨rfl, ((Below.refl _ w).alloc (Nat.le_refl _) _).trans (hb.mono (by simp))⟩
end Go.Proofs.Yteomiaffdbbpoaa
