/-
  Contracts of cloneConf, l18CopyConf.
-/
import Derived.Test.YtaobgliimbmemaaDoorMark2
import Derived.Deep.RegionHeld3
import Derived.Deep.RegionLaw
namespace Go.Proofs.YtaobgliimbmemaaDoor
open Go.RowKit Go.Sort
set_option linter.unusedVariables false

theorem step_append_any {α : Type} {enc : α → List Value} {F : Nat} {P : Program} {w : World} {ops : Array Oper} {o : Oper} {a : Act} {Q : Exit → Act → World → Prop} {ST E : TypeId} {B : Nat} {K : Act → World → Prop} {EE : Prop} (T : RowT P ST E F B) (he : Enc enc F) (hF : 0 < F) (hgd : o.guard = none) (s x : Operand) (ho : o.op = .call { callee := .builtin .append, args := #[s, x], argTypes := #[ST, ST] })
    (base : Nat) (g c0 : Nat) (L : List α) (hs : a.eval s = .slice (some ⟨g, 0, none⟩) L.length c0) (hown : OwnE enc E F w base g c0 L)
    (A : Option Addr) (m c : Nat) (M : List α) (hm : m = M.length) (hx : a.eval x = .slice A m c) (hM : SrcE enc F w A c M) (hn : L.length + M.length ≤ 16777216) (hB : B ≤ 4096) (hbase : base ≤ w.heap.size)
    (h : ∀ N, Hid (N = L ++ M) → ∀ g' c' w', OwnE enc E F w' base g' c' N → w.grownBy w' (some g) → (g' = g ∨ g' = w.heap.size) → Below base w w' → K (a.put o.dst (.slice (some ⟨g', 0, none⟩) N.length c')) w') :
    if Region.wanted o (yielded ops a.tmps) = true then Oper.wp P o a w K Q else EE := by
  rcases hM.2 with ⟨rfl, rfl⟩ | ⟨ad, rfl⟩
  · have h0 : M = [] := by
      cases M with
      | nil => rfl
      | cons y r => obtain ⟨b, off, e, _⟩ := hM.1.2 (by simp); cases e
    subst h0
    subst hm
    obtain ⟨i0, z, hi, hz0, hz1, hz2, hzs⟩ := T.info
    have hrun := run_append_owned_none (P := P) (w := w) base ST o.type E i0 F T.und hi _ _ _ hown
    have hw : Region.wanted o (yielded ops a.tmps) = true := by simp [Region.wanted, hgd]
    rw [if_pos hw]
    unfold Oper.wp execOp
    have hx' : a.eval x = .slice none 0 0 := hx
    simp only [ho, resolve, invoke, builtin, Sem.run_bind, Sem.run_pure, Result.andThen_ok, List.map_toArray, List.map_cons, List.map_nil, hs, hx', hrun]
    exact h L (by rw [List.append_nil]; exact rfl) g c0 w hown (World.grownBy.refl w _) (.inl rfl) (Below.refl _ _)
  · exact step_append_rec T he hF hgd s x ho base g c0 L hs hown ad m c M hm hx hM hn hB hbase h
theorem own_type {w : World} {base e F n g c : Nat} {xs : List Value} (h : w.ownsRow base e F (.slice (some ⟨g, 0, none⟩) n c) n xs) : ∃ cur, w.heap[g]? = some (.cells cur e (0, 0)) := by
  rcases h.2 with ⟨hbad, _⟩ | ⟨g', cap, cur, hv, _, hh, _⟩
  · simp at hbad
  · simp only [Value.slice.injEq, Option.some.injEq, Addr.mk.injEq, and_true, true_and] at hv
    obtain ⟨rfl, rfl⟩ := hv
    exact ⟨cur, hh⟩
theorem own_not {w : World} {base e F n g c b T : Nat} {xs : List Value} {cur : Array Value} (h : w.ownsRow base e F (.slice (some ⟨g, 0, none⟩) n c) n xs) (hb : w.heap[b]? = some (.cells cur T (0, 0))) (hne : e ≠ T) : b ≠ g := by
  intro e1
  subst e1
  obtain ⟨cur', h'⟩ := own_type h
  rw [h'] at hb
  injection hb with hb
  injection hb with _ hb
  exact hne hb
theorem set_grown (w : World) (g j : Nat) (v : Value) : w.grownBy (w.setCell ⟨g, j, none⟩ v) (some g) :=
  ⟨rfl, rfl, rfl, by simp [World.setCell], fun k hk hne => Below.heap_setCell w _ v k (by show k ≠ g; intro e; exact hne (by rw [e]))⟩
/-- a record is put behind the others; the variable is told. -/
theorem clone_step {w7 WS w9 w10 : World} {Rg g2 c4 g9 c9 g10 c10 B1 : Nat} {hv H9 : List HdY} {F9 : List ByteArray} {tgt : ByteArray} {v0 v1 : Value} {ob : Obj}
    (hBr : Below Rg w7 WS) (ohd : OwnE encH 82 2 WS Rg g2 c4 hv) (ohf : OwnH WS Rg hv) (hlt : ∀ m ∈ hv, m.g < B1) (hB1 : Rg + 2 ≤ B1) (hbs : B1 ≤ WS.heap.size) (hg2 : g2 < B1)
    (own9 : OwnT w9 B1 g9 c9 F9) (hg9 : WS.grownBy w9 (some B1)) (hb9 : Below B1 WS w9)
    (own10 : OwnE encH 82 2 w10 Rg g10 c10 H9) (hH9 : H9 = hv ++ [⟨g9, c9, ⟨F9, tgt⟩⟩]) (hg10 : (w9.alloc ob).grownBy w10 (some g2)) (hb10 : Below Rg (w9.alloc ob) w10)
    (ho10 : w10.heap[Rg + 1]? = some (.cells #[v0, v1] 44 (0, 0))) :
    OwnE encH 82 2 (w10.setCell ⟨Rg + 1, 1, none⟩ (.slice (some ⟨g10, 0, none⟩) H9.length c10)) Rg g10 c10 H9 ∧ OwnH (w10.setCell ⟨Rg + 1, 1, none⟩ (.slice (some ⟨g10, 0, none⟩) H9.length c10)) Rg H9 ∧
    (w10.setCell ⟨Rg + 1, 1, none⟩ (.slice (some ⟨g10, 0, none⟩) H9.length c10)).heap[Rg + 1]? = some (.cells #[v0, .slice (some ⟨g10, 0, none⟩) H9.length c10] 44 (0, 0)) ∧
    Below Rg w7 (w10.setCell ⟨Rg + 1, 1, none⟩ (.slice (some ⟨g10, 0, none⟩) H9.length c10)) ∧ Rg + 2 ≤ (w10.setCell ⟨Rg + 1, 1, none⟩ (.slice (some ⟨g10, 0, none⟩) H9.length c10)).heap.size := by
  have hs9 := hb9.size
  have hba : Below w9.heap.size w9 (w9.alloc ob) := (Below.refl _ _).alloc (Nat.le_refl _) _
  have hsa := hba.size
  have hs10 := hb10.size
  have a1 : OwnH w9 Rg hv := ⟨fun m hm => own_other (ohf.own m hm) hg9 (by have := hlt m hm; omega), ohf.dif⟩
  have hge9 := (OwnE.capOk own9).2.2.1
  have a2 : OwnH w9 Rg H9 := by rw [hH9]; exact a1.snoc (m := ⟨g9, c9, ⟨F9, tgt⟩⟩) (own_monoZ own9 (by omega)) (fun x hx => by have := hlt x hx; show x.g ≠ g9; omega)
  have ohd9 : OwnE encH 82 2 (w9.alloc ob) Rg g2 c4 hv := own_belowZ (own_other ohd hg9 (by omega)) hba
  have a3 : OwnH w10 Rg H9 := (a2.below hba).kept (by decide) ohd9 hg10
  have hst := set_grown w10 (Rg + 1) 1 (.slice (some ⟨g10, 0, none⟩) H9.length c10)
  refine ⟨own_other own10 hst (fun e => own_not own10 ho10 (by decide) e.symm), ⟨fun m hm => own_other (a3.own m hm) hst (fun e => own_not (a3.own m hm) ho10 (by decide) e.symm), a3.dif⟩, ?_, ?_, ?_⟩
  · simp [World.setCell, Array.getElem?_modify, ho10]
  · exact (((hBr.trans (hb9.mono (by omega))).trans (hba.mono (by omega))).trans hb10).setCell (p := ⟨Rg + 1, 1, none⟩) (by show Rg ≤ Rg + 1; omega) _
  · have : (w10.setCell ⟨Rg + 1, 1, none⟩ (.slice (some ⟨g10, 0, none⟩) H9.length c10)).heap.size = w10.heap.size := by simp [World.setCell]
    omega
theorem info_conf : (Tryd.prog.info? 44).map (fun i => (i.zero, i.size, i.bytes)) = some (some (.agg #[.slice none 0 0, .slice none 0 0]), 2, 48) := by kernel_rfl
end Go.Proofs.YtaobgliimbmemaaDoor
