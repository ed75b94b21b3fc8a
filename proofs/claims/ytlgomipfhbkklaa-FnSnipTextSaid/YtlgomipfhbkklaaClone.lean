/-
  Contracts of cloneConf, l18CopyConf.
-/
import Derived.Test.YtlgomipfhbkklaaMark2
import Derived.Deep.RegionHeld3
import Derived.Deep.RegionLaw
namespace Go.Proofs.Ytlgomipfhbkklaa
open Go.RowKit Go.Sort
set_option linter.unusedVariables false

theorem step_append_any {α : Type} {enc : α → List Value} {F : Nat} {P : Program} {w : World} {ops : Array Oper} {o : Oper} {a : Act} {Q : Exit → Act → World → Prop} {ST E : TypeId} {B : Nat} {K : Act → World → Prop} {EE : Prop} (T : RowT P ST E F B) (he : Enc enc F) (hF : 0 < F) (hgd : o.guard = none) (s x : Operand) (ho : o.op = .call { callee := .builtin .append, args := #[s, x], argTypes := #[ST, ST] })
    (base : Nat) (g c0 : Nat) (L : List α) (hs : a.eval s = .slice (some ⟨g, 0, none⟩) L.length c0) (hown : OwnE enc E F w base g c0 L)
    (A : Option Addr) (m c : Nat) (M : List α) (hm : m = M.length) (hx : a.eval x = .slice A m c) (hM : SrcE enc F w A c M) (hn : L.length + M.length ≤ 16777216) (hB : B ≤ 4096) (hbase : base ≤ w.heap.size)
    (h : ∀ N, Hid (N = L ++ M) → ∀ g' c' w', OwnE enc E F w' base g' c' N → w.grownBy w' (some g) → (g' = g ∨ g' = w.heap.size) → Below base w w' → K (a.put o.dst (.slice (some ⟨g', 0, none⟩) N.length c')) w') :
    if Region.wanted o (yielded ops a.tmps) = true then Oper.wp P o a w K Q else EE := by
  rcases hM.2 with ⟨rfl, rfl⟩ | ⟨ad, rfl⟩
  · have h0 : M = [] := by
      cases M with
      | nil => rfl
      | cons y r => obtain ⟨b, off, e, _⟩ := hM.1.2 (by simp); cases e
    subst h0
    subst hm
    obtain ⟨i0, z, hi, hz0, hz1, hz2, hzs⟩ := T.info
    have hrun := run_append_owned_none (P := P) (w := w) base ST o.type E i0 F T.und hi _ _ _ hown
    have hw : Region.wanted o (yielded ops a.tmps) = true := by simp [Region.wanted, hgd]
    rw [if_pos hw]
    unfold Oper.wp execOp
    have hx' : a.eval x = .slice none 0 0 := hx
    simp only [ho, resolve, invoke, builtin, Sem.run_bind, Sem.run_pure, Result.andThen_ok, List.map_toArray, List.map_cons, List.map_nil, hs, hx', hrun]
    exact h L (by rw [List.append_nil]; exact rfl) g c0 w hown (World.grownBy.refl w _) (.inl rfl) (Below.refl _ _)
  · exact step_append_rec T he hF hgd s x ho base g c0 L hs hown ad m c M hm hx hM hn hB hbase h
theorem own_type {w : World} {base e F n g c : Nat} {xs : List Value} (h : w.ownsRow base e F (.slice (some ⟨g, 0, none⟩) n c) n xs) : ∃ cur, w.heap[g]? = some (.cells cur e (0, 0)) := by
  rcases h.2 with ⟨hbad, _⟩ | ⟨g', cap, cur, hv, _, hh, _⟩
  · simp at hbad
  · simp only [Value.slice.injEq, Option.some.injEq, Addr.mk.injEq, and_true, true_and] at hv
    obtain ⟨rfl, rfl⟩ := hv
    exact ⟨cur, hh⟩
theorem own_not {w : World} {base e F n g c b T : Nat} {xs : List Value} {cur : Array Value} (h : w.ownsRow base e F (.slice (some ⟨g, 0, none⟩) n c) n xs) (hb : w.heap[b]? = some (.cells cur T (0, 0))) (hne : e ≠ T) : b ≠ g := by
  intro e1
  subst e1
  obtain ⟨cur', h'⟩ := own_type h
  rw [h'] at hb
  injection hb with hb
  injection hb with _ hb
  exact hne hb
theorem set_grown (w : World) (g j : Nat) (v : Value) : w.grownBy (w.setCell ⟨g, j, none⟩ v) (some g) :=
  ⟨rfl, rfl, rfl, by simp [World.setCell], fun k hk hne => Below.heap_setCell w _ v k (by show k ≠ g; intro e; exact hne (by rw [e]))⟩
/-- a record is put behind the others; the variable is told. -/
theorem clone_step {w7 WS w9 w10 : World} {Rg g2 c4 g9 c9 g10 c10 B1 : Nat} {hv H9 : List HdY} {F9 : List ByteArray} {to : ByteArray} {v0 v1 : Value} {ob : Obj}
    (hBr : Below Rg w7 WS) (ohd : OwnE encH 80 2 WS Rg g2 c4 hv) (ohf : OwnH WS Rg hv) (hlt : ∀ m ∈ hv, m.g < B1) (hB1 : Rg + 2 ≤ B1) (hbs : B1 ≤ WS.heap.size) (hg2 : g2 < B1)
    (own9 : OwnT w9 B1 g9 c9 F9) (hg9 : WS.grownBy w9 (some B1)) (hb9 : Below B1 WS w9)
    (own10 : OwnE encH 80 2 w10 Rg g10 c10 H9) (hH9 : H9 = hv ++ [⟨g9, c9, ⟨F9, to⟩⟩]) (hg10 : (w9.alloc ob).grownBy w10 (some g2)) (hb10 : Below Rg (w9.alloc ob) w10)
    (ho10 : w10.heap[Rg + 1]? = some (.cells #[v0, v1] 26 (0, 0))) :
    OwnE encH 80 2 (w10.setCell ⟨Rg + 1, 1, none⟩ (.slice (some ⟨g10, 0, none⟩) H9.length c10)) Rg g10 c10 H9 ∧ OwnH (w10.setCell ⟨Rg + 1, 1, none⟩ (.slice (some ⟨g10, 0, none⟩) H9.length c10)) Rg H9 ∧
    (w10.setCell ⟨Rg + 1, 1, none⟩ (.slice (some ⟨g10, 0, none⟩) H9.length c10)).heap[Rg + 1]? = some (.cells #[v0, .slice (some ⟨g10, 0, none⟩) H9.length c10] 26 (0, 0)) ∧
    Below Rg w7 (w10.setCell ⟨Rg + 1, 1, none⟩ (.slice (some ⟨g10, 0, none⟩) H9.length c10)) ∧ Rg + 2 ≤ (w10.setCell ⟨Rg + 1, 1, none⟩ (.slice (some ⟨g10, 0, none⟩) H9.length c10)).heap.size := by
  have hs9 := hb9.size
  have hba : Below w9.heap.size w9 (w9.alloc ob) := (Below.refl _ _).alloc (Nat.le_refl _) _
  have hsa := hba.size
  have hs10 := hb10.size
  have a1 : OwnH w9 Rg hv := ⟨fun m hm => own_other (ohf.own m hm) hg9 (by have := hlt m hm; omega), ohf.dif⟩
  have hge9 := (OwnE.capOk own9).2.2.1
  have a2 : OwnH w9 Rg H9 := by rw [hH9]; exact a1.snoc (m := ⟨g9, c9, ⟨F9, to⟩⟩) (own_monoZ own9 (by omega)) (fun x hx => by have := hlt x hx; show x.g ≠ g9; omega)
  have ohd9 : OwnE encH 80 2 (w9.alloc ob) Rg g2 c4 hv := own_belowZ (own_other ohd hg9 (by omega)) hba
  have a3 : OwnH w10 Rg H9 := (a2.below hba).kept (by decide) ohd9 hg10
  have hst := set_grown w10 (Rg + 1) 1 (.slice (some ⟨g10, 0, none⟩) H9.length c10)
  refine ⟨own_other own10 hst (fun e => own_not own10 ho10 (by decide) e.symm), ⟨fun m hm => own_other (a3.own m hm) hst (fun e => own_not (a3.own m hm) ho10 (by decide) e.symm), a3.dif⟩, ?_, ?_, ?_⟩
  · simp [World.setCell, Array.getElem?_modify, ho10]
  · exact (((hBr.trans (hb9.mono (by omega))).trans (hba.mono (by omega))).trans hb10).setCell (p := ⟨Rg + 1, 1, none⟩) (by show Rg ≤ Rg + 1; omega) _
  · have : (w10.setCell ⟨Rg + 1, 1, none⟩ (.slice (some ⟨g10, 0, none⟩) H9.length c10)).heap.size = w10.heap.size := by simp [World.setCell]
    omega
theorem info_conf : (Try.prog.info? 26).map (fun i => (i.zero, i.size, i.bytes)) = some (some (.agg #[.slice none 0 0, .slice none 0 0]), 2, 48) := by kernel_rfl
set_option maxRecDepth 8000 in
set_option maxHeartbeats 4000000 in
theorem cloneConf_any (d : ConfD) (A1 A2 : Option Addr) (c1 c2 : Nat) (w : World) (h : HasC w d A1 c1 A2) (hs : SmC d) :
    Calls Try.prog 59 #[.agg #[.slice A1 d.st.length c1, .slice A2 d.sy.length c2]] w fun e w' => ∃ (g1 c3 g2 c4 : Nat) (hv : List HdY), (e = .returned (.agg #[.slice (some ⟨g1, 0, none⟩) d.st.length c3, .slice (some ⟨g2, 0, none⟩) d.sy.length c4]) ∧ OwnC w' w.heap.size d g1 c3 g2 c4 hv) ∧ Below w.heap.size w w' := by
  obtain ⟨st, sy⟩ := d
  obtain ⟨⟨hs1, _⟩, hs2, hs3⟩ := hs
  have HS3 := Lib.hid hs3
  clear hs3
  obtain ⟨p1, p2⟩ := h
  dsimp only at hs1 hs2 p1 p2 ⊢
  have hB : Below w.heap.size w (((w.alloc (.cells #[.slice A1 st.length c1, .slice A2 sy.length c2] 26)).alloc (.cells #[.slice none 0 0, .slice none 0 0] 26)).alloc (.cells #[] 9)) := by (repeat' (first | exact Below.refl _ _ | apply Below.alloc | apply Below.setCell | apply Below.drew | apply below_draws)) <;> (first | omega | (simp <;> omega))
  have b1 : (((w.alloc (.cells #[.slice A1 st.length c1, .slice A2 sy.length c2] 26)).alloc (.cells #[.slice none 0 0, .slice none 0 0] 26)).alloc (.cells #[] 9)).cell? ⟨w.heap.size, 1, none⟩ = some (.slice A2 sy.length c2) := by simp [go_sem]
  have s0 : (((w.alloc (.cells #[.slice A1 st.length c1, .slice A2 sy.length c2] 26)).alloc (.cells #[.slice none 0 0, .slice none 0 0] 26)).alloc (.cells #[] 9)).cell? ⟨w.heap.size + 1, 0, none⟩ = some (.slice none 0 0) := by simp [go_sem]
  have s1 : (((w.alloc (.cells #[.slice A1 st.length c1, .slice A2 sy.length c2] 26)).alloc (.cells #[.slice none 0 0, .slice none 0 0] 26)).alloc (.cells #[] 9)).cell? ⟨w.heap.size + 1, 1, none⟩ = some (.slice none 0 0) := by simp [go_sem]
  have z' : ∀ j, (((w.alloc (.cells #[.slice A1 st.length c1, .slice A2 sy.length c2] 26)).alloc (.cells #[.slice none 0 0, .slice none 0 0] 26)).alloc (.cells #[] 9)).frozen? ⟨w.heap.size + 1, j, none⟩ = false := fun j => by simp [go_sem]
  have own0 : OwnT (((w.alloc (.cells #[.slice A1 st.length c1, .slice A2 sy.length c2] 26)).alloc (.cells #[.slice none 0 0, .slice none 0 0] 26)).alloc (.cells #[] 9)) (w.heap.size + 2) (w.heap.size + 1 + 1) 0 [] := by
    have := ownE_made (enc := encT) (F := 1) 9 ((w.alloc (.cells #[.slice A1 st.length c1, .slice A2 sy.length c2] 26)).alloc (.cells #[.slice none 0 0, .slice none 0 0] 26)) (w.heap.size + 2) (by simp)
    simpa using this
  have hsz : (((w.alloc (.cells #[.slice A1 st.length c1, .slice A2 sy.length c2] 26)).alloc (.cells #[.slice none 0 0, .slice none 0 0] 26)).alloc (.cells #[] 9)).heap.size = w.heap.size + 3 := by simp
  have hh := p1.below hB
  go_enter Try.func59, Try.ntmps59
  go_wp2_with (at_builtin; refine append_rec rowTStr encT_ok (by decide) rfl _ _ rfl (w.heap.size + 2) _ _ [] rfl own0 _ _ _ st rfl rfl hh (by simp <;> omega) (by omega) (by simp <;> omega) ?_)
  intro N hN g7 c7 w7 own7 hg7 hat7 hb7
  obtain rfl : N = st := hN.out
  have hB7 := hB.trans (hb7.mono (by omega))
  have hw7 : w.heap.size + 3 ≤ w7.heap.size := by have := hb7.size; omega
  replace b1 := (belowL hb7 (by omega)).trans b1
  replace s0 := (belowL hb7 (by omega)).trans s0
  replace s1 := (belowL hb7 (by omega)).trans s1
  have y0 := (belowZ hb7 (by omega)).trans (z' 0)
  have y1 := (belowZ hb7 (by omega)).trans (z' 1)
  have hg7b := (OwnE.capOk own7).2.2
  clear z' own0 hsz hh hN hg7 hat7 hb7 hB p1
  have hB8 : Below w7.heap.size w7 ((w7.alloc (.cells #[] 80)).alloc (.cells #[.slice (some ⟨g7, 0, none⟩) N.length c7, .slice (some ⟨w7.heap.size, 0, none⟩) 0 0] 26)) := by (repeat' (first | exact Below.refl _ _ | apply Below.alloc | apply Below.setCell | apply Below.drew | apply below_draws)) <;> (first | omega | (simp <;> omega))
  have ho8 : ((w7.alloc (.cells #[] 80)).alloc (.cells #[.slice (some ⟨g7, 0, none⟩) N.length c7, .slice (some ⟨w7.heap.size, 0, none⟩) 0 0] 26)).heap[w7.heap.size + 1]? = some (.cells #[.slice (some ⟨g7, 0, none⟩) N.length c7, .slice (some ⟨w7.heap.size, 0, none⟩) 0 0] 26 (0, 0)) := by
    have := heap_alloc_new (w7.alloc (.cells #[] 80)) (.cells #[.slice (some ⟨g7, 0, none⟩) N.length c7, .slice (some ⟨w7.heap.size, 0, none⟩) 0 0] 26)
    simpa using this
  have oy8 : OwnE encH 80 2 ((w7.alloc (.cells #[] 80)).alloc (.cells #[.slice (some ⟨g7, 0, none⟩) N.length c7, .slice (some ⟨w7.heap.size, 0, none⟩) 0 0] 26)) w7.heap.size w7.heap.size 0 [] := (ownE_made (enc := encH) (F := 2) 80 w7 w7.heap.size (Nat.le_refl _)).alloc _
  have hs8 : w7.heap.size + 2 ≤ ((w7.alloc (.cells #[] 80)).alloc (.cells #[.slice (some ⟨g7, 0, none⟩) N.length c7, .slice (some ⟨w7.heap.size, 0, none⟩) 0 0] 26)).heap.size := by simp
  have b18 := (belowL hB8 (show w.heap.size < w7.heap.size by omega)).trans b1
  go_wp2_with fail
  generalize ((w7.alloc (.cells #[] 80)).alloc (.cells #[.slice (some ⟨g7, 0, none⟩) N.length c7, .slice (some ⟨w7.heap.size, 0, none⟩) 0 0] 26)) = W8 at hB8 ho8 oy8 hs8 b18 ⊢
  generalize hRg : w7.heap.size = Rg at hB8 ho8 oy8 hs8 hg7b hw7 ⊢
  go_loopw [5, 15] (fun _ iv wr => ∃ i : Nat, i ≤ sy.length ∧ iv = .int .i64 i ∧ ∃ (g2 c4 : Nat) (hv : List HdY), Hid (hv.map (·.y) = sy.take i) ∧ OwnE encH 80 2 wr Rg g2 c4 hv ∧ OwnH wr Rg hv ∧ wr.heap[Rg + 1]? = some (.cells #[.slice (some ⟨g7, 0, none⟩) N.length c7, .slice (some ⟨g2, 0, none⟩) hv.length c4] 26 (0, 0)) ∧ Below Rg w7 wr ∧ Rg + 2 ≤ wr.heap.size) (fun _ iv _ => sy.length - (intOf iv).toNat)
  case atStart => exact ⟨0, Nat.zero_le _, rfl, _, _, [], rfl, oy8, OwnH.nil _ _, ho8, hB8, hs8⟩
  case round =>
    clear oy8 ho8 hB8 hs8 b18
    obtain ⟨i, hi, rfl, g2, c4, hv, hm, ohd, ohf, ho, hBr, hsr⟩ := hrel
    have hBw := hB7.trans (hBr.mono (by omega))
    by_cases hlt : i < sy.length
    · have hi0 : (i : Int) < (sy.length : Int) := by omega
      obtain ⟨b, off, A3, c3, rfl, hbb, x0, x1, hx⟩ := (p2.below hBw) i hlt
      have hsm := HS3.out sy[i] (List.getElem_mem _)
      have HMN : Hid (∀ (g9 c9 : Nat), (hv ++ [(⟨g9, c9, sy[i]⟩ : HdY)]).map (fun m => m.y) = sy.take (i + 1)) := fun g1 c9 => by rw [List.map_append, hm.out, ← List.take_append_getElem hlt]; rfl
      generalize sy[i] = y at x0 x1 hx hsm HMN
      obtain ⟨⟨hf1, _⟩, _⟩ := hsm
      have hlv : hv.length ≤ i := by
        have := congrArg List.length hm.out
        rw [List.length_map, List.length_take] at this
        omega
      have hbA : Below wr.heap.size wr (wr.alloc (.cells #[.slice A3 y.fr.length c3, .string y.to] 80)) := by (repeat' (first | exact Below.refl _ _ | apply Below.alloc | apply Below.setCell | apply Below.drew | apply below_draws)) <;> (first | omega | (simp <;> omega))
      have k0 : (wr.alloc (.cells #[.slice A3 y.fr.length c3, .string y.to] 80)).cell? ⟨wr.heap.size, 0, none⟩ = some (.slice A3 y.fr.length c3) := by simp [go_sem]
      have k1 : (wr.alloc (.cells #[.slice A3 y.fr.length c3, .string y.to] 80)).cell? ⟨wr.heap.size, 1, none⟩ = some (.string y.to) := by simp [go_sem]
      have hsA : wr.heap.size < (wr.alloc (.cells #[.slice A3 y.fr.length c3, .string y.to] 80)).heap.size := by simp
      have hx1 := hx.below hbA
      have ohd1 := own_belowZ ohd hbA
      have ohf1 := ohf.below hbA
      have ho1 := (hbA.block (Rg + 1) (by omega)).trans ho
      have hBr1 := hBr.trans (hbA.mono (by omega))
      have hohl := ohf.lt
      have hhdl := (OwnE.capOk ohd).2.2
      go_wp2_with fail
      clear x0 x1 hx ohd ohf ho hBr hbA hBw
      generalize (wr.alloc (.cells #[.slice A3 y.fr.length c3, .string y.to] 80)) = W1 at k0 k1 hsA hx1 ohd1 ohf1 ho1 hBr1 ⊢
      generalize wr.heap.size = R1 at k0 k1 hsA hsr hohl hhdl hbb ⊢
      have q0 : W1.cell? ⟨Rg + 1, 0, none⟩ = some (.slice (some ⟨g7, 0, none⟩) N.length c7) := by simp [World.cell?, ho1]
      have q1 : W1.cell? ⟨Rg + 1, 1, none⟩ = some (.slice (some ⟨g2, 0, none⟩) hv.length c4) := by simp [World.cell?, ho1]
      have zq : W1.frozen? ⟨Rg + 1, 1, none⟩ = false := by simp [World.frozen?, ho1]
      have hownA : OwnT ((W1.alloc (.cells #[] 9)).drew) W1.heap.size W1.heap.size 0 [] := ownE_made (enc := encT) (F := 1) 9 W1 W1.heap.size (Nat.le_refl _)
      have hbS : Below W1.heap.size W1 ((W1.alloc (.cells #[] 9)).drew) := by (repeat' (first | exact Below.refl _ _ | apply Below.alloc | apply Below.setCell | apply Below.drew | apply below_draws)) <;> (first | omega | (simp <;> omega))
      have hxA := hx1.below hbS
      have hsS : W1.heap.size ≤ ((W1.alloc (.cells #[] 9)).drew).heap.size := hbS.size
      have ohdS := own_belowZ ohd1 hbS
      have hR1 : R1 < W1.heap.size := hsA
      have hRo : Rg + 1 < W1.heap.size := by omega
      have kS0 := (belowL hbS hR1).trans k0
      have kS1 := (belowL hbS hR1).trans k1
      have hoS := (hbS.block (Rg + 1) hRo).trans ho1
      have hne2 := own_not ohd1 ho1 (by decide)
      have hBrS := hBr1.trans (hbS.mono (show Rg ≤ W1.heap.size by omega))
      have ohfS := ohf1.below hbS
      have hltS : ∀ m ∈ hv, m.g < W1.heap.size := fun m hm => by have := hohl m hm; omega
      go_region_law (first
        | (refine step_append_any rowTStr encT_ok (by decide) rfl (.tmp 21) (.tmp 23) rfl W1.heap.size W1.heap.size 0 [] ?_ ?_ A3 y.fr.length c3 y.fr rfl ?_ ?_ (by simp <;> omega) (by omega) ?_ ?_; (first | rfl | (simp [Act.eval]; done)); exact hownA; (first | rfl | (simp [Act.eval]; done)); exact hxA; exact hsS; intro F9 hF9 g9 c9 w9 own9 hg9 hat9 hb9; have u90 := (belowL hb9 hR1).trans kS0; have u91 := (belowL hb9 hR1).trans kS1; have ho9 := (hb9.block (Rg + 1) hRo).trans hoS; have q90 := cell_of_row w9 (Rg + 1) 1 _ _ _ ho9; have hs9 := hb9.size; have q9a := (((Below.refl _ w9).alloc (Nat.le_refl _) (.cells #[.slice (some ⟨g9, 0, none⟩) F9.length c9, .string y.to] 80)).cell (p := ⟨Rg + 1, 1, none⟩) (show Rg + 1 < _ by omega)).trans q90)
        | (refine step_append_any rowTSyn encH_ok (by decide) rfl (.tmp 20) (.tmp 28) rfl Rg g2 c4 hv ?_ ?_ (some ⟨w9.heap.size, 0, none⟩) 1 1 [⟨g9, c9, ⟨F9, y.to⟩⟩] rfl ?_ ?_ (by simp <;> omega) (by omega) ?_ ?_; (first | rfl | (simp [Act.eval]; done)); exact own_belowZ (own_other ohdS hg9 (by omega)) ((Below.refl _ w9).alloc (Nat.le_refl _) (.cells #[.slice (some ⟨g9, 0, none⟩) F9.length c9, .string y.to] 80)); (first | rfl | (simp [Act.eval]; done)); exact SrcE.lit encH_ok w9 80 #[.slice (some ⟨g9, 0, none⟩) F9.length c9, .string y.to] [⟨g9, c9, ⟨F9, y.to⟩⟩] rfl 1; (first | omega | (simp; done) | (simp; omega)); intro H9 hH9 g10 c10 w10 own10 hg10 hat10 hb10; have ho10 := (hg10.5 (Rg + 1) (by first | omega | (simp; done) | (simp; omega)) (fun e => hne2 (Option.some.inj e))).trans ((((Below.refl _ w9).alloc (Nat.le_refl _) (.cells #[.slice (some ⟨g9, 0, none⟩) F9.length c9, .string y.to] 80)).block (Rg + 1) (by omega)).trans ho9); have q10 := cell_of_row w10 (Rg + 1) 1 _ _ _ ho10; have z10 : w10.frozen? ⟨Rg + 1, 1, none⟩ = false := by simp [World.frozen?, ho10]))
      all_goals
        obtain ⟨r1, r2, r3, r4, r5⟩ := clone_step hBrS ohdS ohfS hltS (by omega) hsS (by omega) own9 hg9 hb9 own10 hH9.out hg10 hb10 ho10
        have hmy : Hid (H9.map (·.y) = sy.take (i + 1)) := by
          show _ = _
          rw [hH9.out, ← HMN.out g9 c9, show F9 = y.fr from hF9.out]
        clear u90 u91 ho9 q90 q9a own9 hg9 hb9 own10 hH9 hg10 hb10 ho10 q10 z10 hF9 hs9
        go_wp2
        go_roundw
        case rel => exact ⟨i + 1, by omega, by go_num, g10, c10, H9, hmy, r1, r2, r3, r4, r5⟩
        case measure => simp [intOf]; omega
    · have hmy : Hid (hv.map (·.y) = sy) := by show _ = _; rw [hm.out, List.take_of_length_le (by omega)]
      have q0 : wr.cell? ⟨Rg + 1, 0, none⟩ = some (.slice (some ⟨g7, 0, none⟩) N.length c7) := by simp [World.cell?, ho]
      have q1 : wr.cell? ⟨Rg + 1, 1, none⟩ = some (.slice (some ⟨g2, 0, none⟩) hv.length c4) := by simp [World.cell?, ho]
      have hlh : Hid (hv.length = sy.length) := by have := congrArg List.length hmy.out; rwa [List.length_map] at this
      have t0 := (belowL hBr (show w.heap.size + 1 < Rg by omega)).trans s0
      have t1 := (belowL hBr (show w.heap.size + 1 < Rg by omega)).trans s1
      have x0 := (belowZ hBr (show w.heap.size + 1 < Rg by omega)).trans y0
      have x1 := (belowZ hBr (show w.heap.size + 1 < Rg by omega)).trans y1
      have hz : ZoneR (w.heap.size + 1) (w.heap.size + 2) wr ((wr.setCell ⟨w.heap.size + 1, 0, none⟩ (.slice (some ⟨g7, 0, none⟩) N.length c7)).setCell ⟨w.heap.size + 1, 1, none⟩ (.slice (some ⟨g2, 0, none⟩) hv.length c4)) := (ZoneR.setCell wr _ (by omega) (by omega)).trans (ZoneR.setCell _ _ (by omega) (by omega))
      have own9 : OwnT wr (w.heap.size + 2) g7 c7 N := own_belowZ own7 (by rw [hRg]; exact hBr)
      have hge := (OwnE.capOk ohd).2.2.1
      have hfl := ohf.lt
      have e1 := own_monoZ (own_zoneR own9 hz (fun k hk => .inr (by have := (own9.lt k hk).1; omega))) (show w.heap.size ≤ w.heap.size + 2 by omega)
      have e2 := own_monoZ (own_zoneR ohd hz (fun k hk => .inr (by have := (ohd.lt k hk).1; omega))) (show w.heap.size ≤ Rg by omega)
      have e3 : OwnH _ w.heap.size hv := ⟨fun m hm => own_monoZ (own_zoneR (ohf.own m hm) hz (fun k hk => .inr (by have := ((ohf.own m hm).lt k hk).1; omega))) (show w.heap.size ≤ Rg by omega), ohf.dif⟩
      have HC : Hid (OwnC _ w.heap.size ⟨N, sy⟩ g7 c7 g2 c4 hv) := ⟨e1, ⟨e2, e3⟩, hmy.out, fun m hm => by have := hfl m hm; omega⟩
      have HBZ := Lib.hid ((hB7.trans (hBr.mono (show w.heap.size ≤ Rg by omega))).trans (hz.below (B := w.heap.size) (by omega) (by have := hBr.size; omega)))
      clear e1 e2 e3 own9 hz ohd ohf ho hm hmy hBr hge hfl own7 hB7
      go_wp2
      exact bodyPost_ret (v := .agg #[.slice (some ⟨g7, 0, none⟩) N.length c7, .slice (some ⟨g2, 0, none⟩) hv.length c4]) (by simp [results, Try.results59, go_sem, *]) rfl ⟨g7, c7, g2, c4, hv, ⟨by rw [hlh.out], HC.out⟩, HBZ.out⟩
end Go.Proofs.Ytlgomipfhbkklaa
