/-
  impl.nodeOk joined; impl.QueryOk.
-/
import Derived.Test.YtaobgliimbmemaaDoorNodeOk
namespace Go.Proofs.YtaobgliimbmemaaDoor
open Go.RowKit Go.Sort
set_option linter.unusedVariables false

theorem LmQ.parts {M n : Nat} {q : QD} (h : LmQ M (n + 1) q) : q.fd.size ≤ M ∧ q.ws.length ≤ M ∧ (∀ s ∈ q.ws, s.size ≤ M) ∧ q.ks.length ≤ M ∧ ∀ k ∈ q.ks, LmQ M n k := h
set_option maxRecDepth 20000 in
theorem nodeOk_flat (bm n : Nat) (q : QD) (A : Option Addr) (c : Nat) (B : Option Addr) (d : Nat) (m : Nat) (w : World) (hl : LaidSh bm w) (hwf : (Lit.int .i64 q.kd).wf = true) (hm : shp q.kd = none ∨ m = 0) :
    Calls Tryd.prog 42 #[.agg #[.int .i64 q.kd, .string q.fd, .slice A q.ws.length c, .int .i64 q.fr, .int .i64 q.tgt, .slice B q.ks.length d], .int .i64 m] w fun e w' => e = .returned (.bool (okQ m q)) ∧ Below w.heap.size w w' := by
  have hV : okQ m q = false := by
    rcases hm with h | h
    · exact okQ_none m h
    · subst h; rfl
  rw [hV]
  have hBx : ∀ x y, Below w.heap.size w ((w.alloc x).alloc y) := fun x y => ((Below.refl _ w).alloc (Nat.le_refl _) x).alloc (by simp) y
  have HB := Lib.hid hBx
  have hB0 : Below w.heap.size w (w.alloc (.cells #[.int .i64 q.kd, .string q.fd, .slice A q.ws.length c, .int .i64 q.fr, .int .i64 q.tgt, .slice B q.ks.length d] 26)) := (Below.refl _ w).alloc (Nat.le_refl _) _
  have hc := (hl.below hB0).cell
  have hrun := (hl.below hB0).run q.kd hwf
  clear hl hBx hV hwf
  go_enter Tryd.func42, Tryd.ntmps42
  cases hx : shp q.kd with
  | none =>
    rw [hx] at hrun
    simp only [Option.getD_none, Option.isSome_none, zShp] at hrun
    clear hm hx
    go_wp2
    go_ret
    exact ⟨rfl, HB.out _ _⟩
  | some x =>
    have hm0 : m = 0 := by
      rcases hm with h | h
      · rw [hx] at h; cases h
      · exact h
    rw [hx] at hrun
    simp only [Option.getD_some, Option.isSome_some] at hrun
    subst hm0
    clear hm hx
    go_wp2
    go_ret
    exact ⟨rfl, HB.out _ _⟩
theorem nodeOk_any (bm n : Nat) : NdC bm n := by
  induction n with
  | zero => exact fun q A c B d m w _ h _ _ _ => h.elim
  | succ n ih =>
    intro q A c B d m w hl h hs hwq hm
    obtain ⟨hwf, hwk⟩ : (Lit.int .i64 q.kd).wf = true ∧ ∀ k ∈ q.ks, WfQ n k := hwq
    cases hx : shp q.kd with
    | none => exact nodeOk_flat bm n q A c B d m w hl hwf (.inl hx)
    | some x =>
      rcases Nat.eq_zero_or_pos m with hm0 | hm0
      · exact nodeOk_flat bm n q A c B d m w hl hwf (.inr hm0)
      · obtain ⟨p, rfl⟩ : ∃ p, m = p + 1 := ⟨m - 1, by omega⟩
        obtain ⟨h1, h2, h3, h4, h5⟩ := LmQ.parts hs
        rw [okQ_some p hx]
        obtain ⟨f, lw, mw, lo, hi, rg, lk, tk⟩ := x
        obtain ⟨kd, fd, ws, fr, tq, ks⟩ := q
        exact nodeOk_core bm n ih kd fd ws fr tq ks A c B d p w f rg lw mw lo hi lk tk hx hl ⟨h.1.1, h.2⟩ h1 h2 h3 h4 h5 hwf hwk (by omega)
theorem queryOk_any (bm n : Nat) (q : QD) (A : Option Addr) (c : Nat) (B : Option Addr) (d : Nat) (w : World) (hl : LaidSh bm w) (h : HasQ n w q A c B) (hs : LmQ 1048576 n q) (hwq : Hid (WfQ n q)) :
    Calls Tryd.prog 13 #[.agg #[.int .i64 q.kd, .string q.fd, .slice A q.ws.length c, .int .i64 q.fr, .int .i64 q.tgt, .slice B q.ks.length d]] w fun e w' => e = .returned (.bool (okQ 4 q)) ∧ Below w.heap.size w w' := by
  have HH := Lib.hid h
  have HS := Lib.hid hs
  have HL := Lib.hid hl
  clear h hs hl
  have hB : Below w.heap.size w (w.alloc (.cells #[.int .i64 q.kd, .string q.fd, .slice A q.ws.length c, .int .i64 q.fr, .int .i64 q.tgt, .slice B q.ks.length d] 26)) := by (repeat' (first | exact Below.refl _ _ | apply Below.alloc | apply Below.setCell | apply Below.drew | apply below_draws)) <;> (first | omega | (simp <;> omega))
  go_enter Tryd.func13, Tryd.ntmps13
  go_wp2_with fail
  refine (nodeOk_any bm n q A c B d 4 _ (HL.out.below hB) (HH.out.below hB) HS.out hwq.out (Nat.le_refl _)).mono ?_
  rintro e w1 ⟨rfl, hb⟩
  have hB1 := hB.trans (hb.mono hB.size)
  go_wp2
  go_ret
  exact ⟨rfl, hB1⟩
end Go.Proofs.YtaobgliimbmemaaDoor
