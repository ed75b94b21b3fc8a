/-
  Contract of l18CopyConf.
-/
import Derived.Test.YtaobgliimbmemaaDoorClone
namespace Go.Proofs.YtaobgliimbmemaaDoor
open Go.RowKit Go.Sort
set_option linter.unusedVariables false

section
variable {α : Type} {enc : α → List Value} {F : Nat} {P : Program} {w : World} {ops : Array Oper} {o : Oper} {a : Act} {Q : Exit → Act → World → Prop}
theorem step_append_v {ST E : TypeId} {B : Nat} {K : Act → World → Prop} {EE : Prop} (T : RowT P ST E F B) (he : Enc enc F) (hF : 0 < F) (hgd : o.guard = none) (s x : Operand) (ho : o.op = .call { callee := .builtin .append, args := #[s, x], argTypes := #[ST, ST] })
    (base : Nat) (v : Value) (L : List α) (hs : a.eval s = v) (hown : w.ownsRow base E F v L.length (L.flatMap enc))
    (ad : Addr) (m c : Nat) (M : List α) (hm : m = M.length) (hx : a.eval x = .slice (some ad) m c) (hM : SrcE enc F w (some ad) c M) (hn : L.length + M.length ≤ 16777216) (hB : B ≤ 4096) (hbase : base ≤ w.heap.size)
    (h : ∀ N, Hid (N = L ++ M) → ∀ v' w', w'.ownsRow base E F v' N.length (N.flatMap enc) → w.grownBy w' v.ownBlock → Below base w w' → K (a.put o.dst v') w') :
    if Region.wanted o (yielded ops a.tmps) = true then Oper.wp P o a w K Q else EE := by
  subst hm
  obtain ⟨i0, z, hi, hz0, hz1, hz2, hzs⟩ := T.info
  have hnews : ∀ j u, (M.flatMap enc)[j]? = some u → w.cell? (ad.add j) = some u := by
    intro j u hu
    have hj : 0 < M.length := by
      have := (List.getElem?_eq_some_iff.1 hu).1
      rw [he.flat] at this
      rcases Nat.eq_zero_or_pos M.length with h0 | h0
      · rw [h0] at this; omega
      · exact h0
    obtain ⟨b, off, e, _, hc⟩ := hM.1.2 hj
    simp only [Option.some.injEq] at e
    subst e
    have e2 : (Addr.add ⟨b, off, none⟩ j) = ⟨b, off + j, none⟩ := by
      unfold Addr.add; split
      · rename_i h; subst h; rfl
      · rfl
    rw [e2]; exact hc j u hu
  obtain ⟨v', w', hrun, h1, h2, h3, h4⟩ := run_append_own_at (P := P) w base ST o.type E i0 z F B T.und hi hz0 hz1 hz2 hzs hF v _ _ hown ad M.length c (M.flatMap enc) (he.flat M) hnews (he.flat_one M) (by unfold maxLen; omega) (Nat.le_trans (Nat.mul_le_mul hn hB) (by omega)) hbase
  have h1' : w'.ownsRow base E F v' (L ++ M).length ((L ++ M).flatMap enc) := by rw [List.length_append, List.flatMap_append]; exact h1
  have hw : Region.wanted o (yielded ops a.tmps) = true := by simp [Region.wanted, hgd]
  rw [if_pos hw]
  unfold Oper.wp execOp
  simp only [ho, resolve, invoke, builtin, Sem.run_bind, Sem.run_pure, Result.andThen_ok, List.map_toArray, List.map_cons, List.map_nil, hs, hx, hrun]
  exact h (L ++ M) rfl v' w' h1' h2 ((Below.refl base w).grown h2 hbase (fun k hk => (hown.lt k hk).1))
end
theorem own_kept {w w' : World} {base e size n : Nat} {v v2 : Value} {xs : List Value} (h : w.ownsRow base e size v n xs) (hg : w.grownBy w' v2.ownBlock)
    (hne : ∀ k k2, v.ownBlock = some k → v2.ownBlock = some k2 → k ≠ k2) : w'.ownsRow base e size v n xs := by
  refine h.kept hg ?_
  cases h1 : v.ownBlock with
  | none => exact .inl rfl
  | some k =>
    refine .inr fun e2 => ?_
    exact hne k k h1 e2.symm rfl
theorem own_form {w : World} {base e size n : Nat} {v : Value} {xs : List Value} (h : w.ownsRow base e size v n xs) : ∃ A c, v = .slice A n c := by
  rcases h.2 with ⟨h', h0⟩ | ⟨g, cap, cur, hv, _⟩
  · exact ⟨none, 0, by rw [h', h0]⟩
  · exact ⟨_, _, hv⟩
theorem row_rd {w : World} {base : Nat} {v : Value} {hv : List HdY} (h : w.ownsRow base 82 2 v hv.length (hv.flatMap encH)) (fr : OwnH w base hv) : ∃ A c, v = .slice A hv.length c ∧ RdY w A (hv.map (·.y)) := by
  rcases h.2 with ⟨h1, h2⟩ | ⟨g, cap, cur, hv', h3⟩
  · have h0 : hv = [] := List.eq_nil_of_length_eq_zero (by simpa using h2)
    subst h0
    exact ⟨none, 0, h1, fun k hk => absurd hk (by simp)⟩
  · subst hv'
    exact ⟨_, _, rfl, OwnY.rd (g := g) (c := cap) ⟨h, fr⟩⟩
/-- a record is put behind the others; the variable is told. -/
theorem copy_step {w7 WX w9 w10 : World} {Rg g9 c9 B1 : Nat} {hv H9 : List HdY} {F9 : List ByteArray} {tgt : ByteArray} {v0 v v10 : Value} {ob : Obj}
    (hBr : Below Rg w7 WX) (ohd : WX.ownsRow (Rg + 1) 82 2 v hv.length (hv.flatMap encH)) (ohf : OwnH WX (Rg + 1) hv) (hlt : ∀ m ∈ hv, m.g < B1) (hB1 : Rg + 1 ≤ B1) (hbs : B1 ≤ WX.heap.size)
    (hRo : WX.heap[Rg]? = some (.cells #[v0, v] 44 (0, 0))) (own0 : OwnT WX B1 B1 0 [])
    (own9 : OwnT w9 B1 g9 c9 F9) (hg9 : WX.grownBy w9 (some B1)) (hb9 : Below B1 WX w9)
    (own10 : w10.ownsRow (Rg + 1) 82 2 v10 H9.length (H9.flatMap encH)) (hH9 : H9 = hv ++ [⟨g9, c9, ⟨F9, tgt⟩⟩]) (hg10 : (w9.alloc ob).grownBy w10 v.ownBlock) (hb10 : Below (Rg + 1) (w9.alloc ob) w10) :
    (w10.setCell ⟨Rg, 1, none⟩ v10).ownsRow (Rg + 1) 82 2 v10 H9.length (H9.flatMap encH) ∧ OwnH (w10.setCell ⟨Rg, 1, none⟩ v10) (Rg + 1) H9 ∧
    (w10.setCell ⟨Rg, 1, none⟩ v10).heap[Rg]? = some (.cells #[v0, v10] 44 (0, 0)) ∧
    Below Rg w7 (w10.setCell ⟨Rg, 1, none⟩ v10) ∧ Rg + 1 ≤ (w10.setCell ⟨Rg, 1, none⟩ v10).heap.size := by
  have hs9 := hb9.size
  have hba : Below w9.heap.size w9 (w9.alloc ob) := (Below.refl _ _).alloc (Nat.le_refl _) _
  have hsa := hba.size
  have hs10 := hb10.size
  have hge9 := (OwnE.capOk own9).2.2.1
  have a1 : OwnH w9 (Rg + 1) hv := ⟨fun m hm => own_other (ohf.own m hm) hg9 (by have := hlt m hm; omega), ohf.dif⟩
  have a2 : OwnH w9 (Rg + 1) H9 := by rw [hH9]; exact a1.snoc (m := ⟨g9, c9, ⟨F9, tgt⟩⟩) (own_monoZ own9 (by omega)) (fun x hx => by have := hlt x hx; show x.g ≠ g9; omega)
  have o9 : w9.ownsRow (Rg + 1) 82 2 v hv.length (hv.flatMap encH) := own_kept (v2 := .slice (some ⟨B1, 0, none⟩) 0 0) ohd hg9 (own_ne ohd own0 (by decide))
  have ohd9 := own_belowZ o9 hba
  have a2' := a2.below hba
  have a3 : OwnH w10 (Rg + 1) H9 := ⟨fun m hm => own_kept (a2'.own m hm) hg10 (own_ne (a2'.own m hm) ohd9 (by decide)), a2'.dif⟩
  have hst := set_grown w10 Rg 1 v10
  have hr10 : w10.heap[Rg]? = some (.cells #[v0, v] 44 (0, 0)) := (hb10.block Rg (by omega)).trans ((hba.block Rg (by omega)).trans ((hb9.block Rg (by omega)).trans hRo))
  have hk : ∀ k, k ≥ Rg + 1 → k ≠ Rg := fun k h => by omega
  refine ⟨own10.kept hst ?_, ⟨fun m hm => own_other (a3.own m hm) hst (hk _ (OwnE.capOk (a3.own m hm)).2.2.1), a3.dif⟩, ?_, ?_, ?_⟩
  · rcases own10.2 with ⟨h1, _⟩ | ⟨g, cap, cur, h1, h2, _⟩
    · exact .inl (by rw [h1]; rfl)
    · exact .inr (by rw [h1]; show some g ≠ some Rg; intro e; cases e; omega)
  · simp [World.setCell, Array.getElem?_modify, hr10]
  · exact (((hBr.trans (hb9.mono (by omega))).trans (hba.mono (by omega))).trans (hb10.mono (by omega))).setCell (p := ⟨Rg, 1, none⟩) (by show Rg ≤ Rg; omega) _
  · have : (w10.setCell ⟨Rg, 1, none⟩ v10).heap.size = w10.heap.size := by simp [World.setCell]
    omega
end Go.Proofs.YtaobgliimbmemaaDoor
