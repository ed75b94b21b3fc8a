/-
  Contract of l18CopyConf.
-/
import Derived.Test.YtlgomipfhbkklaaClone
namespace Go.Proofs.Ytlgomipfhbkklaa
open Go.RowKit Go.Sort
set_option linter.unusedVariables false

section
variable {α : Type} {enc : α → List Value} {F : Nat} {P : Program} {w : World} {ops : Array Oper} {o : Oper} {a : Act} {Q : Exit → Act → World → Prop}
theorem step_append_v {ST E : TypeId} {B : Nat} {K : Act → World → Prop} {EE : Prop} (T : RowT P ST E F B) (he : Enc enc F) (hF : 0 < F) (hgd : o.guard = none) (s x : Operand) (ho : o.op = .call { callee := .builtin .append, args := #[s, x], argTypes := #[ST, ST] })
    (base : Nat) (v : Value) (L : List α) (hs : a.eval s = v) (hown : w.ownsRow base E F v L.length (L.flatMap enc))
    (ad : Addr) (m c : Nat) (M : List α) (hm : m = M.length) (hx : a.eval x = .slice (some ad) m c) (hM : SrcE enc F w (some ad) c M) (hn : L.length + M.length ≤ 16777216) (hB : B ≤ 4096) (hbase : base ≤ w.heap.size)
    (h : ∀ N, Hid (N = L ++ M) → ∀ v' w', w'.ownsRow base E F v' N.length (N.flatMap enc) → w.grownBy w' v.ownBlock → Below base w w' → K (a.put o.dst v') w') :
    if Region.wanted o (yielded ops a.tmps) = true then Oper.wp P o a w K Q else EE := by
  subst hm
  obtain ⟨i0, z, hi, hz0, hz1, hz2, hzs⟩ := T.info
  have hnews : ∀ j u, (M.flatMap enc)[j]? = some u → w.cell? (ad.add j) = some u := by
    intro j u hu
    have hj : 0 < M.length := by
      have := (List.getElem?_eq_some_iff.1 hu).1
      rw [he.flat] at this
      rcases Nat.eq_zero_or_pos M.length with h0 | h0
      · rw [h0] at this; omega
      · exact h0
    obtain ⟨b, off, e, _, hc⟩ := hM.1.2 hj
    simp only [Option.some.injEq] at e
    subst e
    have e2 : (Addr.add ⟨b, off, none⟩ j) = ⟨b, off + j, none⟩ := by
      unfold Addr.add; split
      · rename_i h; subst h; rfl
      · rfl
    rw [e2]; exact hc j u hu
  obtain ⟨v', w', hrun, h1, h2, h3, h4⟩ := run_append_own_at (P := P) w base ST o.type E i0 z F B T.und hi hz0 hz1 hz2 hzs hF v _ _ hown ad M.length c (M.flatMap enc) (he.flat M) hnews (he.flat_one M) (by unfold maxLen; omega) (Nat.le_trans (Nat.mul_le_mul hn hB) (by omega)) hbase
  have h1' : w'.ownsRow base E F v' (L ++ M).length ((L ++ M).flatMap enc) := by rw [List.length_append, List.flatMap_append]; exact h1
  have hw : Region.wanted o (yielded ops a.tmps) = true := by simp [Region.wanted, hgd]
  rw [if_pos hw]
  unfold Oper.wp execOp
  simp only [ho, resolve, invoke, builtin, Sem.run_bind, Sem.run_pure, Result.andThen_ok, List.map_toArray, List.map_cons, List.map_nil, hs, hx, hrun]
  exact h (L ++ M) rfl v' w' h1' h2 ((Below.refl base w).grown h2 hbase (fun k hk => (hown.lt k hk).1))
end
theorem own_kept {w w' : World} {base e size n : Nat} {v v2 : Value} {xs : List Value} (h : w.ownsRow base e size v n xs) (hg : w.grownBy w' v2.ownBlock)
    (hne : ∀ k k2, v.ownBlock = some k → v2.ownBlock = some k2 → k ≠ k2) : w'.ownsRow base e size v n xs := by
  refine h.kept hg ?_
  cases h1 : v.ownBlock with
  | none => exact .inl rfl
  | some k =>
    refine .inr fun e2 => ?_
    exact hne k k h1 e2.symm rfl
theorem own_form {w : World} {base e size n : Nat} {v : Value} {xs : List Value} (h : w.ownsRow base e size v n xs) : ∃ A c, v = .slice A n c := by
  rcases h.2 with ⟨h', h0⟩ | ⟨g, cap, cur, hv, _⟩
  · exact ⟨none, 0, by rw [h', h0]⟩
  · exact ⟨_, _, hv⟩
theorem row_rd {w : World} {base : Nat} {v : Value} {hv : List HdY} (h : w.ownsRow base 80 2 v hv.length (hv.flatMap encH)) (fr : OwnH w base hv) : ∃ A c, v = .slice A hv.length c ∧ RdY w A (hv.map (·.y)) := by
  rcases h.2 with ⟨h1, h2⟩ | ⟨g, cap, cur, hv', h3⟩
  · have h0 : hv = [] := List.eq_nil_of_length_eq_zero (by simpa using h2)
    subst h0
    exact ⟨none, 0, h1, fun k hk => absurd hk (by simp)⟩
  · subst hv'
    exact ⟨_, _, rfl, OwnY.rd (g := g) (c := cap) ⟨h, fr⟩⟩
/-- a record is put behind the others; the variable is told. -/
theorem copy_step {w7 WX w9 w10 : World} {Rg g9 c9 B1 : Nat} {hv H9 : List HdY} {F9 : List ByteArray} {to : ByteArray} {v0 v v10 : Value} {ob : Obj}
    (hBr : Below Rg w7 WX) (ohd : WX.ownsRow (Rg + 1) 80 2 v hv.length (hv.flatMap encH)) (ohf : OwnH WX (Rg + 1) hv) (hlt : ∀ m ∈ hv, m.g < B1) (hB1 : Rg + 1 ≤ B1) (hbs : B1 ≤ WX.heap.size)
    (hRo : WX.heap[Rg]? = some (.cells #[v0, v] 26 (0, 0))) (own0 : OwnT WX B1 B1 0 [])
    (own9 : OwnT w9 B1 g9 c9 F9) (hg9 : WX.grownBy w9 (some B1)) (hb9 : Below B1 WX w9)
    (own10 : w10.ownsRow (Rg + 1) 80 2 v10 H9.length (H9.flatMap encH)) (hH9 : H9 = hv ++ [⟨g9, c9, ⟨F9, to⟩⟩]) (hg10 : (w9.alloc ob).grownBy w10 v.ownBlock) (hb10 : Below (Rg + 1) (w9.alloc ob) w10) :
    (w10.setCell ⟨Rg, 1, none⟩ v10).ownsRow (Rg + 1) 80 2 v10 H9.length (H9.flatMap encH) ∧ OwnH (w10.setCell ⟨Rg, 1, none⟩ v10) (Rg + 1) H9 ∧
    (w10.setCell ⟨Rg, 1, none⟩ v10).heap[Rg]? = some (.cells #[v0, v10] 26 (0, 0)) ∧
    Below Rg w7 (w10.setCell ⟨Rg, 1, none⟩ v10) ∧ Rg + 1 ≤ (w10.setCell ⟨Rg, 1, none⟩ v10).heap.size := by
  have hs9 := hb9.size
  have hba : Below w9.heap.size w9 (w9.alloc ob) := (Below.refl _ _).alloc (Nat.le_refl _) _
  have hsa := hba.size
  have hs10 := hb10.size
  have hge9 := (OwnE.capOk own9).2.2.1
  have a1 : OwnH w9 (Rg + 1) hv := ⟨fun m hm => own_other (ohf.own m hm) hg9 (by have := hlt m hm; omega), ohf.dif⟩
  have a2 : OwnH w9 (Rg + 1) H9 := by rw [hH9]; exact a1.snoc (m := ⟨g9, c9, ⟨F9, to⟩⟩) (own_monoZ own9 (by omega)) (fun x hx => by have := hlt x hx; show x.g ≠ g9; omega)
  have o9 : w9.ownsRow (Rg + 1) 80 2 v hv.length (hv.flatMap encH) := own_kept (v2 := .slice (some ⟨B1, 0, none⟩) 0 0) ohd hg9 (own_ne ohd own0 (by decide))
  have ohd9 := own_belowZ o9 hba
  have a2' := a2.below hba
  have a3 : OwnH w10 (Rg + 1) H9 := ⟨fun m hm => own_kept (a2'.own m hm) hg10 (own_ne (a2'.own m hm) ohd9 (by decide)), a2'.dif⟩
  have hst := set_grown w10 Rg 1 v10
  have hr10 : w10.heap[Rg]? = some (.cells #[v0, v] 26 (0, 0)) := (hb10.block Rg (by omega)).trans ((hba.block Rg (by omega)).trans ((hb9.block Rg (by omega)).trans hRo))
  have hk : ∀ k, k ≥ Rg + 1 → k ≠ Rg := fun k h => by omega
  refine ⟨own10.kept hst ?_, ⟨fun m hm => own_other (a3.own m hm) hst (hk _ (OwnE.capOk (a3.own m hm)).2.2.1), a3.dif⟩, ?_, ?_, ?_⟩
  · rcases own10.2 with ⟨h1, _⟩ | ⟨g, cap, cur, h1, h2, _⟩
    · exact .inl (by rw [h1]; rfl)
    · exact .inr (by rw [h1]; show some g ≠ some Rg; intro e; cases e; omega)
  · simp [World.setCell, Array.getElem?_modify, hr10]
  · exact (((hBr.trans (hb9.mono (by omega))).trans (hba.mono (by omega))).trans (hb10.mono (by omega))).setCell (p := ⟨Rg, 1, none⟩) (by show Rg ≤ Rg; omega) _
  · have : (w10.setCell ⟨Rg, 1, none⟩ v10).heap.size = w10.heap.size := by simp [World.setCell]
    omega
set_option maxRecDepth 8000 in
set_option maxHeartbeats 4000000 in
theorem copyConf_any (d : ConfD) (A1 A2 : Option Addr) (c1 c2 : Nat) (w : World) (h : HasC w d A1 c1 A2) (hs : SmC d) :
    Calls Try.prog 58 #[.agg #[.slice A1 d.st.length c1, .slice A2 d.sy.length c2]] w fun e w' => ∃ (B1 : Option Addr) (b1 : Nat) (B2 : Option Addr) (b2 : Nat), (e = .returned (.agg #[.slice B1 d.st.length b1, .slice B2 d.sy.length b2]) ∧ ∀ w'', ZoneR 0 w.heap.size w' w'' → HasC w'' d B1 b1 B2) ∧ Below w.heap.size w w' := by
  obtain ⟨st, sy⟩ := d
  obtain ⟨⟨hs1, _⟩, hs2, hs3⟩ := hs
  have HS3 := Lib.hid hs3
  clear hs3
  obtain ⟨p1, p2⟩ := h
  dsimp only at hs1 hs2 p1 p2 ⊢
  have hB : Below w.heap.size w (((w.alloc (.cells #[.slice A1 st.length c1, .slice A2 sy.length c2] 26)).alloc (.cells #[.slice none 0 0, .slice none 0 0] 26)).alloc (.cells #[] 9)) := by (repeat' (first | exact Below.refl _ _ | apply Below.alloc | apply Below.setCell | apply Below.drew | apply below_draws)) <;> (first | omega | (simp <;> omega))
  have b1 : (((w.alloc (.cells #[.slice A1 st.length c1, .slice A2 sy.length c2] 26)).alloc (.cells #[.slice none 0 0, .slice none 0 0] 26)).alloc (.cells #[] 9)).cell? ⟨w.heap.size, 1, none⟩ = some (.slice A2 sy.length c2) := by simp [go_sem]
  have s0 : (((w.alloc (.cells #[.slice A1 st.length c1, .slice A2 sy.length c2] 26)).alloc (.cells #[.slice none 0 0, .slice none 0 0] 26)).alloc (.cells #[] 9)).cell? ⟨w.heap.size + 1, 0, none⟩ = some (.slice none 0 0) := by simp [go_sem]
  have s1 : (((w.alloc (.cells #[.slice A1 st.length c1, .slice A2 sy.length c2] 26)).alloc (.cells #[.slice none 0 0, .slice none 0 0] 26)).alloc (.cells #[] 9)).cell? ⟨w.heap.size + 1, 1, none⟩ = some (.slice none 0 0) := by simp [go_sem]
  have z' : ∀ j, (((w.alloc (.cells #[.slice A1 st.length c1, .slice A2 sy.length c2] 26)).alloc (.cells #[.slice none 0 0, .slice none 0 0] 26)).alloc (.cells #[] 9)).frozen? ⟨w.heap.size + 1, j, none⟩ = false := fun j => by simp [go_sem]
  have own0 : OwnT (((w.alloc (.cells #[.slice A1 st.length c1, .slice A2 sy.length c2] 26)).alloc (.cells #[.slice none 0 0, .slice none 0 0] 26)).alloc (.cells #[] 9)) (w.heap.size + 2) (w.heap.size + 1 + 1) 0 [] := by
    have := ownE_made (enc := encT) (F := 1) 9 ((w.alloc (.cells #[.slice A1 st.length c1, .slice A2 sy.length c2] 26)).alloc (.cells #[.slice none 0 0, .slice none 0 0] 26)) (w.heap.size + 2) (by simp)
    simpa using this
  have hsz : (((w.alloc (.cells #[.slice A1 st.length c1, .slice A2 sy.length c2] 26)).alloc (.cells #[.slice none 0 0, .slice none 0 0] 26)).alloc (.cells #[] 9)).heap.size = w.heap.size + 3 := by simp
  have hh := p1.below hB
  go_enter Try.func58, Try.ntmps58
  go_wp2_with (at_builtin; refine append_rec rowTStr encT_ok (by decide) rfl _ _ rfl (w.heap.size + 2) _ _ [] rfl own0 _ _ _ st rfl rfl hh (by simp <;> omega) (by omega) (by simp <;> omega) ?_)
  intro N hN g7 c7 w7 own7 hg7 hat7 hb7
  obtain rfl : N = st := hN.out
  have hB7 := hB.trans (hb7.mono (by omega))
  have hw7 : w.heap.size + 3 ≤ w7.heap.size := by have := hb7.size; omega
  replace b1 := (belowL hb7 (by omega)).trans b1
  replace s0 := (belowL hb7 (by omega)).trans s0
  replace s1 := (belowL hb7 (by omega)).trans s1
  have y0 := (belowZ hb7 (by omega)).trans (z' 0)
  have y1 := (belowZ hb7 (by omega)).trans (z' 1)
  have hg7b := (OwnE.capOk own7).2.2
  clear z' own0 hsz hh hN hg7 hat7 hb7 hB p1
  have hB8 : Below w7.heap.size w7 (w7.alloc (.cells #[.slice (some ⟨g7, 0, none⟩) N.length c7, .slice none 0 0] 26)) := by (repeat' (first | exact Below.refl _ _ | apply Below.alloc | apply Below.setCell | apply Below.drew | apply below_draws)) <;> (first | omega | (simp <;> omega))
  have ho8 : (w7.alloc (.cells #[.slice (some ⟨g7, 0, none⟩) N.length c7, .slice none 0 0] 26)).heap[w7.heap.size]? = some (.cells #[.slice (some ⟨g7, 0, none⟩) N.length c7, .slice none 0 0] 26 (0, 0)) := heap_alloc_new w7 _
  have hs8 : w7.heap.size + 1 ≤ (w7.alloc (.cells #[.slice (some ⟨g7, 0, none⟩) N.length c7, .slice none 0 0] 26)).heap.size := by simp
  go_wp2_with fail
  generalize (w7.alloc (.cells #[.slice (some ⟨g7, 0, none⟩) N.length c7, .slice none 0 0] 26)) = W8 at hB8 ho8 hs8 ⊢
  generalize hRg : w7.heap.size = Rg at hB8 ho8 hs8 hg7b hw7 ⊢
  go_loopw [4] (fun iv wr => ∃ i : Nat, i ≤ sy.length ∧ iv = .int .i64 i ∧ ∃ (v : Value) (hv : List HdY), Hid (hv.map (·.y) = sy.take i) ∧ wr.ownsRow (Rg + 1) 80 2 v hv.length (hv.flatMap encH) ∧ OwnH wr (Rg + 1) hv ∧ wr.heap[Rg]? = some (.cells #[.slice (some ⟨g7, 0, none⟩) N.length c7, v] 26 (0, 0)) ∧ Below Rg w7 wr ∧ Rg + 1 ≤ wr.heap.size) (fun iv _ => sy.length - (intOf iv).toNat)
  case atStart => exact ⟨0, Nat.zero_le _, rfl, .slice none 0 0, [], rfl, ⟨by simp, .inl ⟨rfl, rfl⟩⟩, OwnH.nil _ _, ho8, hB8, hs8⟩
  case round =>
    clear ho8 hB8 hs8
    obtain ⟨i, hi, rfl, v, hv, hm, ohd, ohf, ho, hBr, hsr⟩ := hrel
    obtain ⟨Av, cv, rfl⟩ := own_form ohd
    have hBw := hB7.trans (hBr.mono (by omega))
    have b18 := (belowL hBr (show w.heap.size < Rg by omega)).trans b1
    by_cases hlt : i < sy.length
    · have hi0 : (i : Int) < (sy.length : Int) := by omega
      obtain ⟨b, off, A3, c3, rfl, hbb, x0, x1, hx⟩ := p2 i hlt
      have hsm := HS3.out sy[i] (List.getElem_mem _)
      have HMN : Hid (∀ (g9 c9 : Nat), (hv ++ [(⟨g9, c9, sy[i]⟩ : HdY)]).map (fun m => m.y) = sy.take (i + 1)) := fun g1 c9 => by rw [List.map_append, hm.out, ← List.take_append_getElem hlt]; rfl
      generalize sy[i] = y at x0 x1 hx hsm HMN
      obtain ⟨⟨hf1, _⟩, _⟩ := hsm
      have hlv : hv.length ≤ i := by
        have := congrArg List.length hm.out
        rw [List.length_map, List.length_take] at this
        omega
      have hohl := ohf.lt
      have kb : ∀ w', Below Rg w7 w' → w'.cell? ⟨w.heap.size, 1, none⟩ = some (.slice (some ⟨b, off, none⟩) sy.length c2) := fun w' h => (belowL h (show w.heap.size < Rg by omega)).trans b1
      have k0 : ∀ w', Below Rg w7 w' → w'.cell? ⟨b, off + i * 2, none⟩ = some (.slice A3 y.fr.length c3) := fun w' h => (belowL (hB7.trans (h.mono (by omega))) hbb).trans x0
      have k1 : ∀ w', Below Rg w7 w' → w'.cell? ⟨b, off + i * 2 + 1, none⟩ = some (.string y.to) := fun w' h => (belowL (hB7.trans (h.mono (by omega))) hbb).trans x1
      have q1 : wr.cell? ⟨Rg, 1, none⟩ = some (.slice Av hv.length cv) := by simp [World.cell?, ho]
      have hRo : Rg < wr.heap.size := by omega
      have hfr := ohf
      have hownA : OwnT ((wr.alloc (.cells #[] 9)).drew) wr.heap.size wr.heap.size 0 [] := ownE_made (enc := encT) (F := 1) 9 wr wr.heap.size (Nat.le_refl _)
      have hbA : Below wr.heap.size wr ((wr.alloc (.cells #[] 9)).drew) := by (repeat' (first | exact Below.refl _ _ | apply Below.alloc | apply Below.setCell | apply Below.drew | apply below_draws)) <;> (first | omega | (simp <;> omega))
      have hsA : wr.heap.size ≤ ((wr.alloc (.cells #[] 9)).drew).heap.size := hbA.size
      have hxA := hx.below (hBw.trans (hbA.mono hBw.size))
      have ohdA := own_belowZ ohd hbA
      have ohfA := ohf.below hbA
      have hoA := (hbA.block Rg hRo).trans ho
      have hBrA := hBr.trans (hbA.mono (show Rg ≤ wr.heap.size by omega))
      clear x0 x1 hx hbb b18 hfr
      go_wp2_with fail
      refine wp_region_noPanic ?_
      refine wp_region_held_drew (S := fun w' => Below Rg w7 w') (by kernel_rfl) ?_ (fun hHeld => ?_)
      · try dsimp only
        (repeat' (first | exact Below.refl _ _ | assumption | apply Below.alloc | apply Below.setCell | apply Below.drew | (refine Below.trans ?_ (Below.mono (by assumption) ?_)))) <;> (first | exact Below.size (by assumption) | omega | (simp; done) | (simp; omega) | (refine Nat.le_trans ?_ (Below.size (by assumption)); (first | omega | (simp <;> omega))))
      refine wpAnyH_take (i := 0) (oi := { dst := some 17, op := Op.fieldAddr 26 (Operand.tmp 3) 1, type := 0, pos := "l18_live.go:70", after := #[], guard := none }) (v := ?_) rfl (by kernel_rfl) (by kernel_rfl) (by kernel_rfl) (fun _ _ _ h => h) (Or.inl ⟨by rfl, ?_⟩) (by assumption) ?_
      rotate_left
      · intro w hSw
        try dsimp only at hSw
        go_simp
        try with_reducible rfl
      try simp only [Act.put, List.setIfInBounds_toArray, List.set_cons_zero, List.set_cons_succ]
      refine wpAnyH_take (i := 3) (oi := { dst := some 20, op := Op.fieldAddr 26 (Operand.tmp 1) 1, type := 0, pos := "l18_live.go:70", after := #[], guard := none }) (v := ?_) rfl (by kernel_rfl) (by kernel_rfl) (by kernel_rfl) (fun _ _ _ h => h) (Or.inl ⟨by rfl, ?_⟩) (by assumption) ?_
      rotate_left
      · intro w hSw
        try dsimp only at hSw
        go_simp
        try with_reducible rfl
      try simp only [Act.put, List.setIfInBounds_toArray, List.set_cons_zero, List.set_cons_succ]
      refine wpAnyH_take (i := 4) (oi := { dst := some 21, op := Op.load 24 (Operand.tmp 20), type := 24, pos := "l18_live.go:70", after := #[{ on := 3, ground := Ground.data }], guard := none }) (v := ?_) rfl (by kernel_rfl) (by kernel_rfl) (by kernel_rfl) (fun _ _ _ h => h) (Or.inl ⟨by rfl, ?_⟩) (by assumption) ?_
      rotate_left
      · intro w hSw
        try dsimp only at hSw
        go_simp
        try with_reducible rfl
      try simp only [Act.put, List.setIfInBounds_toArray, List.set_cons_zero, List.set_cons_succ]
      refine wpAnyH_take (i := 5) (oi := { dst := some 22, op := Op.move (Operand.tmp 4), type := 3, pos := "l18_live.go:70", after := #[], guard := none }) (v := ?_) rfl (by kernel_rfl) (by kernel_rfl) (by kernel_rfl) (fun _ _ _ h => h) (Or.inl ⟨by rfl, ?_⟩) (by assumption) ?_
      rotate_left
      · intro w hSw
        try dsimp only at hSw
        go_simp
        try with_reducible rfl
      try simp only [Act.put, List.setIfInBounds_toArray, List.set_cons_zero, List.set_cons_succ]
      refine wpAnyH_take (i := 6) (oi := { dst := some 23, op := Op.indexAddr 24 (Operand.tmp 21) (Operand.tmp 22), type := 0, pos := "l18_live.go:70", after := #[{ on := 4, ground := Ground.data }, { on := 5, ground := Ground.data }], guard := none }) (v := ?_) rfl (by kernel_rfl) (by kernel_rfl) (by kernel_rfl) (fun _ _ _ h => h) (Or.inl ⟨by rfl, ?_⟩) (by assumption) ?_
      rotate_left
      · intro w hSw
        try dsimp only at hSw
        go_simp
        try with_reducible rfl
      try simp only [Act.put, List.setIfInBounds_toArray, List.set_cons_zero, List.set_cons_succ]
      refine wpAnyH_take (i := 7) (oi := { dst := some 24, op := Op.fieldAddr 80 (Operand.tmp 23) 0, type := 0, pos := "l18_live.go:70", after := #[{ on := 6, ground := Ground.data }], guard := none }) (v := ?_) rfl (by kernel_rfl) (by kernel_rfl) (by kernel_rfl) (fun _ _ _ h => h) (Or.inl ⟨by rfl, ?_⟩) (by assumption) ?_
      rotate_left
      · intro w hSw
        try dsimp only at hSw
        go_simp
        try with_reducible rfl
      try simp only [Act.put, List.setIfInBounds_toArray, List.set_cons_zero, List.set_cons_succ]
      refine wpAnyH_take (i := 8) (oi := { dst := some 25, op := Op.load 23 (Operand.tmp 24), type := 23, pos := "l18_live.go:70", after := #[{ on := 7, ground := Ground.data }], guard := none }) (v := ?_) rfl (by kernel_rfl) (by kernel_rfl) (by kernel_rfl) (fun _ _ _ h => h) (Or.inl ⟨by rfl, ?_⟩) (by assumption) ?_
      rotate_left
      · intro w hSw
        try dsimp only at hSw
        go_simp
        try with_reducible rfl
      try simp only [Act.put, List.setIfInBounds_toArray, List.set_cons_zero, List.set_cons_succ]
      refine wpAnyH_take (i := 10) (oi := { dst := some 27, op := Op.fieldAddr 26 (Operand.tmp 1) 1, type := 0, pos := "l18_live.go:70", after := #[], guard := none }) (v := ?_) rfl (by kernel_rfl) (by kernel_rfl) (by kernel_rfl) (fun _ _ _ h => h) (Or.inl ⟨by rfl, ?_⟩) (by assumption) ?_
      rotate_left
      · intro w hSw
        try dsimp only at hSw
        go_simp
        try with_reducible rfl
      try simp only [Act.put, List.setIfInBounds_toArray, List.set_cons_zero, List.set_cons_succ]
      refine wpAnyH_take (i := 11) (oi := { dst := some 28, op := Op.load 24 (Operand.tmp 27), type := 24, pos := "l18_live.go:70", after := #[{ on := 10, ground := Ground.data }], guard := none }) (v := ?_) rfl (by kernel_rfl) (by kernel_rfl) (by kernel_rfl) (fun _ _ _ h => h) (Or.inl ⟨by rfl, ?_⟩) (by assumption) ?_
      rotate_left
      · intro w hSw
        try dsimp only at hSw
        go_simp
        try with_reducible rfl
      try simp only [Act.put, List.setIfInBounds_toArray, List.set_cons_zero, List.set_cons_succ]
      refine wpAnyH_take (i := 12) (oi := { dst := some 29, op := Op.move (Operand.tmp 4), type := 3, pos := "l18_live.go:70", after := #[], guard := none }) (v := ?_) rfl (by kernel_rfl) (by kernel_rfl) (by kernel_rfl) (fun _ _ _ h => h) (Or.inl ⟨by rfl, ?_⟩) (by assumption) ?_
      rotate_left
      · intro w hSw
        try dsimp only at hSw
        go_simp
        try with_reducible rfl
      try simp only [Act.put, List.setIfInBounds_toArray, List.set_cons_zero, List.set_cons_succ]
      refine wpAnyH_take (i := 13) (oi := { dst := some 30, op := Op.indexAddr 24 (Operand.tmp 28) (Operand.tmp 29), type := 0, pos := "l18_live.go:70", after := #[{ on := 11, ground := Ground.data }, { on := 12, ground := Ground.data }], guard := none }) (v := ?_) rfl (by kernel_rfl) (by kernel_rfl) (by kernel_rfl) (fun _ _ _ h => h) (Or.inl ⟨by rfl, ?_⟩) (by assumption) ?_
      rotate_left
      · intro w hSw
        try dsimp only at hSw
        go_simp
        try with_reducible rfl
      try simp only [Act.put, List.setIfInBounds_toArray, List.set_cons_zero, List.set_cons_succ]
      refine wpAnyH_take (i := 14) (oi := { dst := some 31, op := Op.fieldAddr 80 (Operand.tmp 30) 1, type := 0, pos := "l18_live.go:70", after := #[{ on := 13, ground := Ground.data }], guard := none }) (v := ?_) rfl (by kernel_rfl) (by kernel_rfl) (by kernel_rfl) (fun _ _ _ h => h) (Or.inl ⟨by rfl, ?_⟩) (by assumption) ?_
      rotate_left
      · intro w hSw
        try dsimp only at hSw
        go_simp
        try with_reducible rfl
      try simp only [Act.put, List.setIfInBounds_toArray, List.set_cons_zero, List.set_cons_succ]
      refine wpAnyH_take (i := 15) (oi := { dst := some 32, op := Op.load 9 (Operand.tmp 31), type := 9, pos := "l18_live.go:70", after := #[{ on := 14, ground := Ground.data }], guard := none }) (v := ?_) rfl (by kernel_rfl) (by kernel_rfl) (by kernel_rfl) (fun _ _ _ h => h) (Or.inl ⟨by rfl, ?_⟩) (by assumption) ?_
      rotate_left
      · intro w hSw
        try dsimp only at hSw
        go_simp
        try with_reducible rfl
      try simp only [Act.put, List.setIfInBounds_toArray, List.set_cons_zero, List.set_cons_succ]
      refine wpAnyH_ready (rs := [1, 2]) (by kernel_rfl) (by simp) ?_
      refine AllReadyH.cons (o := { dst := some 18, op := Op.load 24 (Operand.tmp 17), type := 24, pos := "l18_live.go:70", after := #[{ on := 0, ground := Ground.data }], guard := none }) rfl (fun K hK => ?_) ?_
      · go_simp
        refine hK.out _ _ ?_ (fun hHeld => ?_)
        · try dsimp only
          (repeat' (first | exact Below.refl _ _ | assumption | apply Below.alloc | apply Below.setCell | apply Below.drew | (refine Below.trans ?_ (Below.mono (by assumption) ?_)))) <;> (first | exact Below.size (by assumption) | omega | (simp; done) | (simp; omega) | (refine Nat.le_trans ?_ (Below.size (by assumption)); (first | omega | (simp <;> omega))))
        clear hK K
        try simp only [Act.put, List.setIfInBounds_toArray, List.set_cons_zero, List.set_cons_succ]
        refine wpAnyH_ready (rs := [2]) (by kernel_rfl) (by simp) ?_
        refine AllReadyH.cons (o := { dst := some 19, op := Op.buildSlice 23 0 #[], type := 23, pos := "l18_live.go:70", after := #[], guard := none }) rfl (fun K hK => ?_) ?_
        · go_simp
          refine hK.out _ _ ?_ (fun hHeld => ?_)
          · try dsimp only
            (repeat' (first | exact Below.refl _ _ | assumption | apply Below.alloc | apply Below.setCell | apply Below.drew | (refine Below.trans ?_ (Below.mono (by assumption) ?_)))) <;> (first | exact Below.size (by assumption) | omega | (simp; done) | (simp; omega) | (refine Nat.le_trans ?_ (Below.size (by assumption)); (first | omega | (simp <;> omega))))
          clear hK K
          try simp only [Act.put, List.setIfInBounds_toArray, List.set_cons_zero, List.set_cons_succ]
          refine wpAnyH_ready (rs := [9]) (by kernel_rfl) (by simp) ?_
          refine AllReadyH.cons (o := { dst := some 26, op := Op.call { callee := Callee.builtin Builtin.append, args := #[Operand.tmp 19, Operand.tmp 25], argTypes := #[23, 23] }, type := 23, pos := "l18_live.go:70", after := #[{ on := 2, ground := Ground.data }, { on := 8, ground := Ground.data }], guard := none }) rfl (fun K hK => ?_) ?_
          · (refine step_append_any rowTStr encT_ok (by decide) rfl (.tmp 19) (.tmp 25) rfl wr.heap.size wr.heap.size 0 [] ?_ ?_ A3 y.fr.length c3 y.fr rfl ?_ ?_ (by simp <;> omega) (by omega) ?_ ?_; (first | rfl | (simp [Act.eval]; done)); exact hownA; (first | rfl | (simp [Act.eval]; done)); exact hxA; exact hsA; intro F9 hF9 g9 c9 w9 own9 hg9 hat9 hb9; have ho9 := (hb9.block Rg hRo).trans hoA; have q90 := cell_of_row w9 Rg 1 _ _ _ ho9; have hs9 : wr.heap.size ≤ w9.heap.size := Nat.le_trans hsA hb9.size; have q9a := (((Below.refl _ w9).alloc (Nat.le_refl _) (.cells #[.slice (some ⟨g9, 0, none⟩) F9.length c9, .string y.to] 80)).cell (p := ⟨Rg, 1, none⟩) (show Rg < _ by omega)).trans q90; have hB9S := hBrA.trans (hb9.mono (show Rg ≤ wr.heap.size by omega)))
            refine hK.out _ _ ?_ (fun hHeld => ?_)
            · try dsimp only
              (repeat' (first | exact Below.refl _ _ | assumption | apply Below.alloc | apply Below.setCell | apply Below.drew | (refine Below.trans ?_ (Below.mono (by assumption) ?_)))) <;> (first | exact Below.size (by assumption) | omega | (simp; done) | (simp; omega) | (refine Nat.le_trans ?_ (Below.size (by assumption)); (first | omega | (simp <;> omega))))
            clear hK K
            try simp only [Act.put, List.setIfInBounds_toArray, List.set_cons_zero, List.set_cons_succ]
            refine wpAnyH_take (i := 16) (oi := { dst := some 33, op := Op.build 80 #[(0, Operand.tmp 26), (1, Operand.tmp 32)], type := 80, pos := "l18_live.go:70", after := #[{ on := 9, ground := Ground.data }, { on := 15, ground := Ground.data }], guard := none }) (v := ?_) rfl (by kernel_rfl) (by kernel_rfl) (by kernel_rfl) (fun _ _ _ h => h) (Or.inl ⟨by rfl, ?_⟩) (by assumption) ?_
            rotate_left
            · intro w hSw
              try dsimp only at hSw
              go_simp
              try with_reducible rfl
            try simp only [Act.put, List.setIfInBounds_toArray, List.set_cons_zero, List.set_cons_succ]
            refine wpAnyH_ready (rs := [17]) (by kernel_rfl) (by simp) ?_
            refine AllReadyH.cons (o := { dst := some 34, op := Op.buildSlice 24 1 #[(0, Operand.tmp 33)], type := 24, pos := "l18_live.go:70", after := #[{ on := 16, ground := Ground.data }], guard := none }) rfl (fun K hK => ?_) ?_
            · go_simp
              refine hK.out _ _ ?_ (fun hHeld => ?_)
              · try dsimp only
                (repeat' (first | exact Below.refl _ _ | assumption | apply Below.alloc | apply Below.setCell | apply Below.drew | (refine Below.trans ?_ (Below.mono (by assumption) ?_)))) <;> (first | exact Below.size (by assumption) | omega | (simp; done) | (simp; omega) | (refine Nat.le_trans ?_ (Below.size (by assumption)); (first | omega | (simp <;> omega))))
              clear hK K
              try simp only [Act.put, List.setIfInBounds_toArray, List.set_cons_zero, List.set_cons_succ]
              refine wpAnyH_ready (rs := [18]) (by kernel_rfl) (by simp) ?_
              refine AllReadyH.cons (o := { dst := some 35, op := Op.call { callee := Callee.builtin Builtin.append, args := #[Operand.tmp 18, Operand.tmp 34], argTypes := #[24, 24] }, type := 24, pos := "l18_live.go:70", after := #[{ on := 1, ground := Ground.data }, { on := 17, ground := Ground.data }, { on := 9, ground := Ground.chain }], guard := none }) rfl (fun K hK => ?_) ?_
              · (refine step_append_v rowTSyn encH_ok (by decide) rfl (.tmp 18) (.tmp 34) rfl (Rg + 1) (.slice Av hv.length cv) hv ?_ ?_ ⟨w9.heap.size, 0, none⟩ 1 1 [⟨g9, c9, ⟨F9, y.to⟩⟩] rfl ?_ ?_ (by simp <;> omega) (by omega) ?_ ?_; (first | rfl | (simp [Act.eval]; done)); exact own_belowZ (own_kept (v2 := .slice (some ⟨wr.heap.size, 0, none⟩) 0 0) ohdA hg9 (own_ne ohdA hownA (by decide))) ((Below.refl _ w9).alloc (Nat.le_refl _) (.cells #[.slice (some ⟨g9, 0, none⟩) F9.length c9, .string y.to] 80)); (first | rfl | (simp [Act.eval]; done)); exact SrcE.lit encH_ok w9 80 #[.slice (some ⟨g9, 0, none⟩) F9.length c9, .string y.to] [⟨g9, c9, ⟨F9, y.to⟩⟩] rfl 1; (first | omega | (simp; done) | (simp; omega)); intro H9 hH9 v10 w10 own10 hg10 hb10; obtain ⟨A10, c10, rfl⟩ := own_form own10; have ho10 := (hb10.block Rg (by omega)).trans ((((Below.refl _ w9).alloc (Nat.le_refl _) (.cells #[.slice (some ⟨g9, 0, none⟩) F9.length c9, .string y.to] 80)).block Rg (by omega)).trans ho9); have q10 := cell_of_row w10 Rg 1 _ _ _ ho10; have z10 : w10.frozen? ⟨Rg, 1, none⟩ = false := by simp [World.frozen?, ho10])
                refine hK.out _ _ ?_ (fun hHeld => ?_)
                · try dsimp only
                  (repeat' (first | exact Below.refl _ _ | assumption | apply Below.alloc | apply Below.setCell | apply Below.drew | (refine Below.trans ?_ (Below.mono (by assumption) ?_)))) <;> (first | exact Below.size (by assumption) | omega | (simp; done) | (simp; omega) | (refine Nat.le_trans ?_ (Below.size (by assumption)); (first | omega | (simp <;> omega))))
                clear hK K
                try simp only [Act.put, List.setIfInBounds_toArray, List.set_cons_zero, List.set_cons_succ]
                refine wpAnyH_take (i := 19) (oi := { dst := some 36, op := Op.fieldAddr 26 (Operand.tmp 3) 1, type := 0, pos := "l18_live.go:70", after := #[{ on := 0, ground := Ground.phase }, { on := 1, ground := Ground.phase }, { on := 2, ground := Ground.phase }, { on := 3, ground := Ground.phase }, { on := 4, ground := Ground.phase }, { on := 5, ground := Ground.phase }, { on := 6, ground := Ground.phase }, { on := 7, ground := Ground.phase }, { on := 8, ground := Ground.phase }, { on := 9, ground := Ground.phase }, { on := 10, ground := Ground.phase }, { on := 11, ground := Ground.phase }, { on := 12, ground := Ground.phase }, { on := 13, ground := Ground.phase }, { on := 14, ground := Ground.phase }, { on := 15, ground := Ground.phase }, { on := 16, ground := Ground.phase }, { on := 17, ground := Ground.phase }, { on := 18, ground := Ground.phase }], guard := none }) (v := ?_) rfl (by kernel_rfl) (by kernel_rfl) (by kernel_rfl) (fun _ _ _ h => h) (Or.inl ⟨by rfl, ?_⟩) (by assumption) ?_
                rotate_left
                · intro w hSw
                  try dsimp only at hSw
                  go_simp
                  try with_reducible rfl
                try simp only [Act.put, List.setIfInBounds_toArray, List.set_cons_zero, List.set_cons_succ]
                refine wpAnyH_ready (rs := [20]) (by kernel_rfl) (by simp) ?_
                refine AllReadyH.cons (o := { dst := none, op := Op.store 24 (Operand.tmp 36) (Operand.tmp 35), type := 0, pos := "l18_live.go:70", after := #[{ on := 19, ground := Ground.data }, { on := 18, ground := Ground.data }, { on := 18, ground := Ground.chain }, { on := 0, ground := Ground.phase }, { on := 1, ground := Ground.phase }, { on := 2, ground := Ground.phase }, { on := 3, ground := Ground.phase }, { on := 4, ground := Ground.phase }, { on := 5, ground := Ground.phase }, { on := 6, ground := Ground.phase }, { on := 7, ground := Ground.phase }, { on := 8, ground := Ground.phase }, { on := 9, ground := Ground.phase }, { on := 10, ground := Ground.phase }, { on := 11, ground := Ground.phase }, { on := 12, ground := Ground.phase }, { on := 13, ground := Ground.phase }, { on := 14, ground := Ground.phase }, { on := 15, ground := Ground.phase }, { on := 16, ground := Ground.phase }, { on := 17, ground := Ground.phase }, { on := 18, ground := Ground.phase }], guard := none }) rfl (fun K hK => ?_) ?_
                · go_simp
                  refine hK.out _ _ ?_ (fun hHeld => ?_)
                  · try dsimp only
                    (repeat' (first | exact Below.refl _ _ | assumption | apply Below.alloc | apply Below.setCell | apply Below.drew | (refine Below.trans ?_ (Below.mono (by assumption) ?_)))) <;> (first | exact Below.size (by assumption) | omega | (simp; done) | (simp; omega) | (refine Nat.le_trans ?_ (Below.size (by assumption)); (first | omega | (simp <;> omega))))
                  clear hK K
                  try simp only [Act.put, List.setIfInBounds_toArray, List.set_cons_zero, List.set_cons_succ]
                  refine wpAnyH_done (by kernel_rfl) ?_ _
                  refine NoPanic.normal ?_
                  obtain ⟨r1, r2, r3, r4, r5⟩ := copy_step hBrA ohdA ohfA (fun m hm => (hohl m hm).2) (by omega) hsA hoA hownA own9 hg9 hb9 own10 hH9.out hg10 hb10
                  have hmy : Hid (H9.map (·.y) = sy.take (i + 1)) := by
                    show _ = _
                    rw [hH9.out, ← HMN.out g9 c9, show F9 = y.fr from hF9.out]
                  clear ho9 q90 q9a own9 hg9 hb9 own10 hH9 hg10 hb10 ho10 q10 z10 hF9 hs9 hB9S
                  go_wp2
                  go_roundw
                  case rel => exact ⟨i + 1, by omega, by go_num, _, H9, hmy, r1, r2, r3, r4, r5⟩
                  case measure => simp [intOf]; omega
                exact AllReadyH.nil
              exact AllReadyH.nil
            exact AllReadyH.nil
          exact AllReadyH.nil
        exact AllReadyH.nil
      refine AllReadyH.cons (o := { dst := some 19, op := Op.buildSlice 23 0 #[], type := 23, pos := "l18_live.go:70", after := #[], guard := none }) rfl (fun K hK => ?_) ?_
      · go_simp
        refine hK.out _ _ ?_ (fun hHeld => ?_)
        · try dsimp only
          (repeat' (first | exact Below.refl _ _ | assumption | apply Below.alloc | apply Below.setCell | apply Below.drew | (refine Below.trans ?_ (Below.mono (by assumption) ?_)))) <;> (first | exact Below.size (by assumption) | omega | (simp; done) | (simp; omega) | (refine Nat.le_trans ?_ (Below.size (by assumption)); (first | omega | (simp <;> omega))))
        clear hK K
        try simp only [Act.put, List.setIfInBounds_toArray, List.set_cons_zero, List.set_cons_succ]
        refine wpAnyH_ready (rs := [1, 9]) (by kernel_rfl) (by simp) ?_
        refine AllReadyH.cons (o := { dst := some 18, op := Op.load 24 (Operand.tmp 17), type := 24, pos := "l18_live.go:70", after := #[{ on := 0, ground := Ground.data }], guard := none }) rfl (fun K hK => ?_) ?_
        · go_simp
          refine hK.out _ _ ?_ (fun hHeld => ?_)
          · try dsimp only
            (repeat' (first | exact Below.refl _ _ | assumption | apply Below.alloc | apply Below.setCell | apply Below.drew | (refine Below.trans ?_ (Below.mono (by assumption) ?_)))) <;> (first | exact Below.size (by assumption) | omega | (simp; done) | (simp; omega) | (refine Nat.le_trans ?_ (Below.size (by assumption)); (first | omega | (simp <;> omega))))
          clear hK K
          try simp only [Act.put, List.setIfInBounds_toArray, List.set_cons_zero, List.set_cons_succ]
          refine wpAnyH_ready (rs := [9]) (by kernel_rfl) (by simp) ?_
          refine AllReadyH.cons (o := { dst := some 26, op := Op.call { callee := Callee.builtin Builtin.append, args := #[Operand.tmp 19, Operand.tmp 25], argTypes := #[23, 23] }, type := 23, pos := "l18_live.go:70", after := #[{ on := 2, ground := Ground.data }, { on := 8, ground := Ground.data }], guard := none }) rfl (fun K hK => ?_) ?_
          · (refine step_append_any rowTStr encT_ok (by decide) rfl (.tmp 19) (.tmp 25) rfl wr.heap.size wr.heap.size 0 [] ?_ ?_ A3 y.fr.length c3 y.fr rfl ?_ ?_ (by simp <;> omega) (by omega) ?_ ?_; (first | rfl | (simp [Act.eval]; done)); exact hownA; (first | rfl | (simp [Act.eval]; done)); exact hxA; exact hsA; intro F9 hF9 g9 c9 w9 own9 hg9 hat9 hb9; have ho9 := (hb9.block Rg hRo).trans hoA; have q90 := cell_of_row w9 Rg 1 _ _ _ ho9; have hs9 : wr.heap.size ≤ w9.heap.size := Nat.le_trans hsA hb9.size; have q9a := (((Below.refl _ w9).alloc (Nat.le_refl _) (.cells #[.slice (some ⟨g9, 0, none⟩) F9.length c9, .string y.to] 80)).cell (p := ⟨Rg, 1, none⟩) (show Rg < _ by omega)).trans q90; have hB9S := hBrA.trans (hb9.mono (show Rg ≤ wr.heap.size by omega)))
            refine hK.out _ _ ?_ (fun hHeld => ?_)
            · try dsimp only
              (repeat' (first | exact Below.refl _ _ | assumption | apply Below.alloc | apply Below.setCell | apply Below.drew | (refine Below.trans ?_ (Below.mono (by assumption) ?_)))) <;> (first | exact Below.size (by assumption) | omega | (simp; done) | (simp; omega) | (refine Nat.le_trans ?_ (Below.size (by assumption)); (first | omega | (simp <;> omega))))
            clear hK K
            try simp only [Act.put, List.setIfInBounds_toArray, List.set_cons_zero, List.set_cons_succ]
            refine wpAnyH_take (i := 16) (oi := { dst := some 33, op := Op.build 80 #[(0, Operand.tmp 26), (1, Operand.tmp 32)], type := 80, pos := "l18_live.go:70", after := #[{ on := 9, ground := Ground.data }, { on := 15, ground := Ground.data }], guard := none }) (v := ?_) rfl (by kernel_rfl) (by kernel_rfl) (by kernel_rfl) (fun _ _ _ h => h) (Or.inl ⟨by rfl, ?_⟩) (by assumption) ?_
            rotate_left
            · intro w hSw
              try dsimp only at hSw
              go_simp
              try with_reducible rfl
            try simp only [Act.put, List.setIfInBounds_toArray, List.set_cons_zero, List.set_cons_succ]
            refine wpAnyH_ready (rs := [17]) (by kernel_rfl) (by simp) ?_
            refine AllReadyH.cons (o := { dst := some 34, op := Op.buildSlice 24 1 #[(0, Operand.tmp 33)], type := 24, pos := "l18_live.go:70", after := #[{ on := 16, ground := Ground.data }], guard := none }) rfl (fun K hK => ?_) ?_
            · go_simp
              refine hK.out _ _ ?_ (fun hHeld => ?_)
              · try dsimp only
                (repeat' (first | exact Below.refl _ _ | assumption | apply Below.alloc | apply Below.setCell | apply Below.drew | (refine Below.trans ?_ (Below.mono (by assumption) ?_)))) <;> (first | exact Below.size (by assumption) | omega | (simp; done) | (simp; omega) | (refine Nat.le_trans ?_ (Below.size (by assumption)); (first | omega | (simp <;> omega))))
              clear hK K
              try simp only [Act.put, List.setIfInBounds_toArray, List.set_cons_zero, List.set_cons_succ]
              refine wpAnyH_ready (rs := [18]) (by kernel_rfl) (by simp) ?_
              refine AllReadyH.cons (o := { dst := some 35, op := Op.call { callee := Callee.builtin Builtin.append, args := #[Operand.tmp 18, Operand.tmp 34], argTypes := #[24, 24] }, type := 24, pos := "l18_live.go:70", after := #[{ on := 1, ground := Ground.data }, { on := 17, ground := Ground.data }, { on := 9, ground := Ground.chain }], guard := none }) rfl (fun K hK => ?_) ?_
              · (refine step_append_v rowTSyn encH_ok (by decide) rfl (.tmp 18) (.tmp 34) rfl (Rg + 1) (.slice Av hv.length cv) hv ?_ ?_ ⟨w9.heap.size, 0, none⟩ 1 1 [⟨g9, c9, ⟨F9, y.to⟩⟩] rfl ?_ ?_ (by simp <;> omega) (by omega) ?_ ?_; (first | rfl | (simp [Act.eval]; done)); exact own_belowZ (own_kept (v2 := .slice (some ⟨wr.heap.size, 0, none⟩) 0 0) ohdA hg9 (own_ne ohdA hownA (by decide))) ((Below.refl _ w9).alloc (Nat.le_refl _) (.cells #[.slice (some ⟨g9, 0, none⟩) F9.length c9, .string y.to] 80)); (first | rfl | (simp [Act.eval]; done)); exact SrcE.lit encH_ok w9 80 #[.slice (some ⟨g9, 0, none⟩) F9.length c9, .string y.to] [⟨g9, c9, ⟨F9, y.to⟩⟩] rfl 1; (first | omega | (simp; done) | (simp; omega)); intro H9 hH9 v10 w10 own10 hg10 hb10; obtain ⟨A10, c10, rfl⟩ := own_form own10; have ho10 := (hb10.block Rg (by omega)).trans ((((Below.refl _ w9).alloc (Nat.le_refl _) (.cells #[.slice (some ⟨g9, 0, none⟩) F9.length c9, .string y.to] 80)).block Rg (by omega)).trans ho9); have q10 := cell_of_row w10 Rg 1 _ _ _ ho10; have z10 : w10.frozen? ⟨Rg, 1, none⟩ = false := by simp [World.frozen?, ho10])
                refine hK.out _ _ ?_ (fun hHeld => ?_)
                · try dsimp only
                  (repeat' (first | exact Below.refl _ _ | assumption | apply Below.alloc | apply Below.setCell | apply Below.drew | (refine Below.trans ?_ (Below.mono (by assumption) ?_)))) <;> (first | exact Below.size (by assumption) | omega | (simp; done) | (simp; omega) | (refine Nat.le_trans ?_ (Below.size (by assumption)); (first | omega | (simp <;> omega))))
                clear hK K
                try simp only [Act.put, List.setIfInBounds_toArray, List.set_cons_zero, List.set_cons_succ]
                refine wpAnyH_take (i := 19) (oi := { dst := some 36, op := Op.fieldAddr 26 (Operand.tmp 3) 1, type := 0, pos := "l18_live.go:70", after := #[{ on := 0, ground := Ground.phase }, { on := 1, ground := Ground.phase }, { on := 2, ground := Ground.phase }, { on := 3, ground := Ground.phase }, { on := 4, ground := Ground.phase }, { on := 5, ground := Ground.phase }, { on := 6, ground := Ground.phase }, { on := 7, ground := Ground.phase }, { on := 8, ground := Ground.phase }, { on := 9, ground := Ground.phase }, { on := 10, ground := Ground.phase }, { on := 11, ground := Ground.phase }, { on := 12, ground := Ground.phase }, { on := 13, ground := Ground.phase }, { on := 14, ground := Ground.phase }, { on := 15, ground := Ground.phase }, { on := 16, ground := Ground.phase }, { on := 17, ground := Ground.phase }, { on := 18, ground := Ground.phase }], guard := none }) (v := ?_) rfl (by kernel_rfl) (by kernel_rfl) (by kernel_rfl) (fun _ _ _ h => h) (Or.inl ⟨by rfl, ?_⟩) (by assumption) ?_
                rotate_left
                · intro w hSw
                  try dsimp only at hSw
                  go_simp
                  try with_reducible rfl
                try simp only [Act.put, List.setIfInBounds_toArray, List.set_cons_zero, List.set_cons_succ]
                refine wpAnyH_ready (rs := [20]) (by kernel_rfl) (by simp) ?_
                refine AllReadyH.cons (o := { dst := none, op := Op.store 24 (Operand.tmp 36) (Operand.tmp 35), type := 0, pos := "l18_live.go:70", after := #[{ on := 19, ground := Ground.data }, { on := 18, ground := Ground.data }, { on := 18, ground := Ground.chain }, { on := 0, ground := Ground.phase }, { on := 1, ground := Ground.phase }, { on := 2, ground := Ground.phase }, { on := 3, ground := Ground.phase }, { on := 4, ground := Ground.phase }, { on := 5, ground := Ground.phase }, { on := 6, ground := Ground.phase }, { on := 7, ground := Ground.phase }, { on := 8, ground := Ground.phase }, { on := 9, ground := Ground.phase }, { on := 10, ground := Ground.phase }, { on := 11, ground := Ground.phase }, { on := 12, ground := Ground.phase }, { on := 13, ground := Ground.phase }, { on := 14, ground := Ground.phase }, { on := 15, ground := Ground.phase }, { on := 16, ground := Ground.phase }, { on := 17, ground := Ground.phase }, { on := 18, ground := Ground.phase }], guard := none }) rfl (fun K hK => ?_) ?_
                · go_simp
                  refine hK.out _ _ ?_ (fun hHeld => ?_)
                  · try dsimp only
                    (repeat' (first | exact Below.refl _ _ | assumption | apply Below.alloc | apply Below.setCell | apply Below.drew | (refine Below.trans ?_ (Below.mono (by assumption) ?_)))) <;> (first | exact Below.size (by assumption) | omega | (simp; done) | (simp; omega) | (refine Nat.le_trans ?_ (Below.size (by assumption)); (first | omega | (simp <;> omega))))
                  clear hK K
                  try simp only [Act.put, List.setIfInBounds_toArray, List.set_cons_zero, List.set_cons_succ]
                  refine wpAnyH_done (by kernel_rfl) ?_ _
                  refine NoPanic.normal ?_
                  obtain ⟨r1, r2, r3, r4, r5⟩ := copy_step hBrA ohdA ohfA (fun m hm => (hohl m hm).2) (by omega) hsA hoA hownA own9 hg9 hb9 own10 hH9.out hg10 hb10
                  have hmy : Hid (H9.map (·.y) = sy.take (i + 1)) := by
                    show _ = _
                    rw [hH9.out, ← HMN.out g9 c9, show F9 = y.fr from hF9.out]
                  clear ho9 q90 q9a own9 hg9 hb9 own10 hH9 hg10 hb10 ho10 q10 z10 hF9 hs9 hB9S
                  go_wp2
                  go_roundw
                  case rel => exact ⟨i + 1, by omega, by go_num, _, H9, hmy, r1, r2, r3, r4, r5⟩
                  case measure => simp [intOf]; omega
                exact AllReadyH.nil
              exact AllReadyH.nil
            exact AllReadyH.nil
          exact AllReadyH.nil
        refine AllReadyH.cons (o := { dst := some 26, op := Op.call { callee := Callee.builtin Builtin.append, args := #[Operand.tmp 19, Operand.tmp 25], argTypes := #[23, 23] }, type := 23, pos := "l18_live.go:70", after := #[{ on := 2, ground := Ground.data }, { on := 8, ground := Ground.data }], guard := none }) rfl (fun K hK => ?_) ?_
        · (refine step_append_any rowTStr encT_ok (by decide) rfl (.tmp 19) (.tmp 25) rfl wr.heap.size wr.heap.size 0 [] ?_ ?_ A3 y.fr.length c3 y.fr rfl ?_ ?_ (by simp <;> omega) (by omega) ?_ ?_; (first | rfl | (simp [Act.eval]; done)); exact hownA; (first | rfl | (simp [Act.eval]; done)); exact hxA; exact hsA; intro F9 hF9 g9 c9 w9 own9 hg9 hat9 hb9; have ho9 := (hb9.block Rg hRo).trans hoA; have q90 := cell_of_row w9 Rg 1 _ _ _ ho9; have hs9 : wr.heap.size ≤ w9.heap.size := Nat.le_trans hsA hb9.size; have q9a := (((Below.refl _ w9).alloc (Nat.le_refl _) (.cells #[.slice (some ⟨g9, 0, none⟩) F9.length c9, .string y.to] 80)).cell (p := ⟨Rg, 1, none⟩) (show Rg < _ by omega)).trans q90; have hB9S := hBrA.trans (hb9.mono (show Rg ≤ wr.heap.size by omega)))
          refine hK.out _ _ ?_ (fun hHeld => ?_)
          · try dsimp only
            (repeat' (first | exact Below.refl _ _ | assumption | apply Below.alloc | apply Below.setCell | apply Below.drew | (refine Below.trans ?_ (Below.mono (by assumption) ?_)))) <;> (first | exact Below.size (by assumption) | omega | (simp; done) | (simp; omega) | (refine Nat.le_trans ?_ (Below.size (by assumption)); (first | omega | (simp <;> omega))))
          clear hK K
          try simp only [Act.put, List.setIfInBounds_toArray, List.set_cons_zero, List.set_cons_succ]
          refine wpAnyH_take (i := 16) (oi := { dst := some 33, op := Op.build 80 #[(0, Operand.tmp 26), (1, Operand.tmp 32)], type := 80, pos := "l18_live.go:70", after := #[{ on := 9, ground := Ground.data }, { on := 15, ground := Ground.data }], guard := none }) (v := ?_) rfl (by kernel_rfl) (by kernel_rfl) (by kernel_rfl) (fun _ _ _ h => h) (Or.inl ⟨by rfl, ?_⟩) (by assumption) ?_
          rotate_left
          · intro w hSw
            try dsimp only at hSw
            go_simp
            try with_reducible rfl
          try simp only [Act.put, List.setIfInBounds_toArray, List.set_cons_zero, List.set_cons_succ]
          refine wpAnyH_ready (rs := [1, 17]) (by kernel_rfl) (by simp) ?_
          refine AllReadyH.cons (o := { dst := some 18, op := Op.load 24 (Operand.tmp 17), type := 24, pos := "l18_live.go:70", after := #[{ on := 0, ground := Ground.data }], guard := none }) rfl (fun K hK => ?_) ?_
          · go_simp
            refine hK.out _ _ ?_ (fun hHeld => ?_)
            · try dsimp only
              (repeat' (first | exact Below.refl _ _ | assumption | apply Below.alloc | apply Below.setCell | apply Below.drew | (refine Below.trans ?_ (Below.mono (by assumption) ?_)))) <;> (first | exact Below.size (by assumption) | omega | (simp; done) | (simp; omega) | (refine Nat.le_trans ?_ (Below.size (by assumption)); (first | omega | (simp <;> omega))))
            clear hK K
            try simp only [Act.put, List.setIfInBounds_toArray, List.set_cons_zero, List.set_cons_succ]
            refine wpAnyH_ready (rs := [17]) (by kernel_rfl) (by simp) ?_
            refine AllReadyH.cons (o := { dst := some 34, op := Op.buildSlice 24 1 #[(0, Operand.tmp 33)], type := 24, pos := "l18_live.go:70", after := #[{ on := 16, ground := Ground.data }], guard := none }) rfl (fun K hK => ?_) ?_
            · go_simp
              refine hK.out _ _ ?_ (fun hHeld => ?_)
              · try dsimp only
                (repeat' (first | exact Below.refl _ _ | assumption | apply Below.alloc | apply Below.setCell | apply Below.drew | (refine Below.trans ?_ (Below.mono (by assumption) ?_)))) <;> (first | exact Below.size (by assumption) | omega | (simp; done) | (simp; omega) | (refine Nat.le_trans ?_ (Below.size (by assumption)); (first | omega | (simp <;> omega))))
              clear hK K
              try simp only [Act.put, List.setIfInBounds_toArray, List.set_cons_zero, List.set_cons_succ]
              refine wpAnyH_ready (rs := [18]) (by kernel_rfl) (by simp) ?_
              refine AllReadyH.cons (o := { dst := some 35, op := Op.call { callee := Callee.builtin Builtin.append, args := #[Operand.tmp 18, Operand.tmp 34], argTypes := #[24, 24] }, type := 24, pos := "l18_live.go:70", after := #[{ on := 1, ground := Ground.data }, { on := 17, ground := Ground.data }, { on := 9, ground := Ground.chain }], guard := none }) rfl (fun K hK => ?_) ?_
              · (refine step_append_v rowTSyn encH_ok (by decide) rfl (.tmp 18) (.tmp 34) rfl (Rg + 1) (.slice Av hv.length cv) hv ?_ ?_ ⟨w9.heap.size, 0, none⟩ 1 1 [⟨g9, c9, ⟨F9, y.to⟩⟩] rfl ?_ ?_ (by simp <;> omega) (by omega) ?_ ?_; (first | rfl | (simp [Act.eval]; done)); exact own_belowZ (own_kept (v2 := .slice (some ⟨wr.heap.size, 0, none⟩) 0 0) ohdA hg9 (own_ne ohdA hownA (by decide))) ((Below.refl _ w9).alloc (Nat.le_refl _) (.cells #[.slice (some ⟨g9, 0, none⟩) F9.length c9, .string y.to] 80)); (first | rfl | (simp [Act.eval]; done)); exact SrcE.lit encH_ok w9 80 #[.slice (some ⟨g9, 0, none⟩) F9.length c9, .string y.to] [⟨g9, c9, ⟨F9, y.to⟩⟩] rfl 1; (first | omega | (simp; done) | (simp; omega)); intro H9 hH9 v10 w10 own10 hg10 hb10; obtain ⟨A10, c10, rfl⟩ := own_form own10; have ho10 := (hb10.block Rg (by omega)).trans ((((Below.refl _ w9).alloc (Nat.le_refl _) (.cells #[.slice (some ⟨g9, 0, none⟩) F9.length c9, .string y.to] 80)).block Rg (by omega)).trans ho9); have q10 := cell_of_row w10 Rg 1 _ _ _ ho10; have z10 : w10.frozen? ⟨Rg, 1, none⟩ = false := by simp [World.frozen?, ho10])
                refine hK.out _ _ ?_ (fun hHeld => ?_)
                · try dsimp only
                  (repeat' (first | exact Below.refl _ _ | assumption | apply Below.alloc | apply Below.setCell | apply Below.drew | (refine Below.trans ?_ (Below.mono (by assumption) ?_)))) <;> (first | exact Below.size (by assumption) | omega | (simp; done) | (simp; omega) | (refine Nat.le_trans ?_ (Below.size (by assumption)); (first | omega | (simp <;> omega))))
                clear hK K
                try simp only [Act.put, List.setIfInBounds_toArray, List.set_cons_zero, List.set_cons_succ]
                refine wpAnyH_take (i := 19) (oi := { dst := some 36, op := Op.fieldAddr 26 (Operand.tmp 3) 1, type := 0, pos := "l18_live.go:70", after := #[{ on := 0, ground := Ground.phase }, { on := 1, ground := Ground.phase }, { on := 2, ground := Ground.phase }, { on := 3, ground := Ground.phase }, { on := 4, ground := Ground.phase }, { on := 5, ground := Ground.phase }, { on := 6, ground := Ground.phase }, { on := 7, ground := Ground.phase }, { on := 8, ground := Ground.phase }, { on := 9, ground := Ground.phase }, { on := 10, ground := Ground.phase }, { on := 11, ground := Ground.phase }, { on := 12, ground := Ground.phase }, { on := 13, ground := Ground.phase }, { on := 14, ground := Ground.phase }, { on := 15, ground := Ground.phase }, { on := 16, ground := Ground.phase }, { on := 17, ground := Ground.phase }, { on := 18, ground := Ground.phase }], guard := none }) (v := ?_) rfl (by kernel_rfl) (by kernel_rfl) (by kernel_rfl) (fun _ _ _ h => h) (Or.inl ⟨by rfl, ?_⟩) (by assumption) ?_
                rotate_left
                · intro w hSw
                  try dsimp only at hSw
                  go_simp
                  try with_reducible rfl
                try simp only [Act.put, List.setIfInBounds_toArray, List.set_cons_zero, List.set_cons_succ]
                refine wpAnyH_ready (rs := [20]) (by kernel_rfl) (by simp) ?_
                refine AllReadyH.cons (o := { dst := none, op := Op.store 24 (Operand.tmp 36) (Operand.tmp 35), type := 0, pos := "l18_live.go:70", after := #[{ on := 19, ground := Ground.data }, { on := 18, ground := Ground.data }, { on := 18, ground := Ground.chain }, { on := 0, ground := Ground.phase }, { on := 1, ground := Ground.phase }, { on := 2, ground := Ground.phase }, { on := 3, ground := Ground.phase }, { on := 4, ground := Ground.phase }, { on := 5, ground := Ground.phase }, { on := 6, ground := Ground.phase }, { on := 7, ground := Ground.phase }, { on := 8, ground := Ground.phase }, { on := 9, ground := Ground.phase }, { on := 10, ground := Ground.phase }, { on := 11, ground := Ground.phase }, { on := 12, ground := Ground.phase }, { on := 13, ground := Ground.phase }, { on := 14, ground := Ground.phase }, { on := 15, ground := Ground.phase }, { on := 16, ground := Ground.phase }, { on := 17, ground := Ground.phase }, { on := 18, ground := Ground.phase }], guard := none }) rfl (fun K hK => ?_) ?_
                · go_simp
                  refine hK.out _ _ ?_ (fun hHeld => ?_)
                  · try dsimp only
                    (repeat' (first | exact Below.refl _ _ | assumption | apply Below.alloc | apply Below.setCell | apply Below.drew | (refine Below.trans ?_ (Below.mono (by assumption) ?_)))) <;> (first | exact Below.size (by assumption) | omega | (simp; done) | (simp; omega) | (refine Nat.le_trans ?_ (Below.size (by assumption)); (first | omega | (simp <;> omega))))
                  clear hK K
                  try simp only [Act.put, List.setIfInBounds_toArray, List.set_cons_zero, List.set_cons_succ]
                  refine wpAnyH_done (by kernel_rfl) ?_ _
                  refine NoPanic.normal ?_
                  obtain ⟨r1, r2, r3, r4, r5⟩ := copy_step hBrA ohdA ohfA (fun m hm => (hohl m hm).2) (by omega) hsA hoA hownA own9 hg9 hb9 own10 hH9.out hg10 hb10
                  have hmy : Hid (H9.map (·.y) = sy.take (i + 1)) := by
                    show _ = _
                    rw [hH9.out, ← HMN.out g9 c9, show F9 = y.fr from hF9.out]
                  clear ho9 q90 q9a own9 hg9 hb9 own10 hH9 hg10 hb10 ho10 q10 z10 hF9 hs9 hB9S
                  go_wp2
                  go_roundw
                  case rel => exact ⟨i + 1, by omega, by go_num, _, H9, hmy, r1, r2, r3, r4, r5⟩
                  case measure => simp [intOf]; omega
                exact AllReadyH.nil
              exact AllReadyH.nil
            exact AllReadyH.nil
          refine AllReadyH.cons (o := { dst := some 34, op := Op.buildSlice 24 1 #[(0, Operand.tmp 33)], type := 24, pos := "l18_live.go:70", after := #[{ on := 16, ground := Ground.data }], guard := none }) rfl (fun K hK => ?_) ?_
          · go_simp
            refine hK.out _ _ ?_ (fun hHeld => ?_)
            · try dsimp only
              (repeat' (first | exact Below.refl _ _ | assumption | apply Below.alloc | apply Below.setCell | apply Below.drew | (refine Below.trans ?_ (Below.mono (by assumption) ?_)))) <;> (first | exact Below.size (by assumption) | omega | (simp; done) | (simp; omega) | (refine Nat.le_trans ?_ (Below.size (by assumption)); (first | omega | (simp <;> omega))))
            clear hK K
            try simp only [Act.put, List.setIfInBounds_toArray, List.set_cons_zero, List.set_cons_succ]
            refine wpAnyH_ready (rs := [1]) (by kernel_rfl) (by simp) ?_
            refine AllReadyH.cons (o := { dst := some 18, op := Op.load 24 (Operand.tmp 17), type := 24, pos := "l18_live.go:70", after := #[{ on := 0, ground := Ground.data }], guard := none }) rfl (fun K hK => ?_) ?_
            · go_simp
              refine hK.out _ _ ?_ (fun hHeld => ?_)
              · try dsimp only
                (repeat' (first | exact Below.refl _ _ | assumption | apply Below.alloc | apply Below.setCell | apply Below.drew | (refine Below.trans ?_ (Below.mono (by assumption) ?_)))) <;> (first | exact Below.size (by assumption) | omega | (simp; done) | (simp; omega) | (refine Nat.le_trans ?_ (Below.size (by assumption)); (first | omega | (simp <;> omega))))
              clear hK K
              try simp only [Act.put, List.setIfInBounds_toArray, List.set_cons_zero, List.set_cons_succ]
              refine wpAnyH_ready (rs := [18]) (by kernel_rfl) (by simp) ?_
              refine AllReadyH.cons (o := { dst := some 35, op := Op.call { callee := Callee.builtin Builtin.append, args := #[Operand.tmp 18, Operand.tmp 34], argTypes := #[24, 24] }, type := 24, pos := "l18_live.go:70", after := #[{ on := 1, ground := Ground.data }, { on := 17, ground := Ground.data }, { on := 9, ground := Ground.chain }], guard := none }) rfl (fun K hK => ?_) ?_
              · (refine step_append_v rowTSyn encH_ok (by decide) rfl (.tmp 18) (.tmp 34) rfl (Rg + 1) (.slice Av hv.length cv) hv ?_ ?_ ⟨w9.heap.size, 0, none⟩ 1 1 [⟨g9, c9, ⟨F9, y.to⟩⟩] rfl ?_ ?_ (by simp <;> omega) (by omega) ?_ ?_; (first | rfl | (simp [Act.eval]; done)); exact own_belowZ (own_kept (v2 := .slice (some ⟨wr.heap.size, 0, none⟩) 0 0) ohdA hg9 (own_ne ohdA hownA (by decide))) ((Below.refl _ w9).alloc (Nat.le_refl _) (.cells #[.slice (some ⟨g9, 0, none⟩) F9.length c9, .string y.to] 80)); (first | rfl | (simp [Act.eval]; done)); exact SrcE.lit encH_ok w9 80 #[.slice (some ⟨g9, 0, none⟩) F9.length c9, .string y.to] [⟨g9, c9, ⟨F9, y.to⟩⟩] rfl 1; (first | omega | (simp; done) | (simp; omega)); intro H9 hH9 v10 w10 own10 hg10 hb10; obtain ⟨A10, c10, rfl⟩ := own_form own10; have ho10 := (hb10.block Rg (by omega)).trans ((((Below.refl _ w9).alloc (Nat.le_refl _) (.cells #[.slice (some ⟨g9, 0, none⟩) F9.length c9, .string y.to] 80)).block Rg (by omega)).trans ho9); have q10 := cell_of_row w10 Rg 1 _ _ _ ho10; have z10 : w10.frozen? ⟨Rg, 1, none⟩ = false := by simp [World.frozen?, ho10])
                refine hK.out _ _ ?_ (fun hHeld => ?_)
                · try dsimp only
                  (repeat' (first | exact Below.refl _ _ | assumption | apply Below.alloc | apply Below.setCell | apply Below.drew | (refine Below.trans ?_ (Below.mono (by assumption) ?_)))) <;> (first | exact Below.size (by assumption) | omega | (simp; done) | (simp; omega) | (refine Nat.le_trans ?_ (Below.size (by assumption)); (first | omega | (simp <;> omega))))
                clear hK K
                try simp only [Act.put, List.setIfInBounds_toArray, List.set_cons_zero, List.set_cons_succ]
                refine wpAnyH_take (i := 19) (oi := { dst := some 36, op := Op.fieldAddr 26 (Operand.tmp 3) 1, type := 0, pos := "l18_live.go:70", after := #[{ on := 0, ground := Ground.phase }, { on := 1, ground := Ground.phase }, { on := 2, ground := Ground.phase }, { on := 3, ground := Ground.phase }, { on := 4, ground := Ground.phase }, { on := 5, ground := Ground.phase }, { on := 6, ground := Ground.phase }, { on := 7, ground := Ground.phase }, { on := 8, ground := Ground.phase }, { on := 9, ground := Ground.phase }, { on := 10, ground := Ground.phase }, { on := 11, ground := Ground.phase }, { on := 12, ground := Ground.phase }, { on := 13, ground := Ground.phase }, { on := 14, ground := Ground.phase }, { on := 15, ground := Ground.phase }, { on := 16, ground := Ground.phase }, { on := 17, ground := Ground.phase }, { on := 18, ground := Ground.phase }], guard := none }) (v := ?_) rfl (by kernel_rfl) (by kernel_rfl) (by kernel_rfl) (fun _ _ _ h => h) (Or.inl ⟨by rfl, ?_⟩) (by assumption) ?_
                rotate_left
                · intro w hSw
                  try dsimp only at hSw
                  go_simp
                  try with_reducible rfl
                try simp only [Act.put, List.setIfInBounds_toArray, List.set_cons_zero, List.set_cons_succ]
                refine wpAnyH_ready (rs := [20]) (by kernel_rfl) (by simp) ?_
                refine AllReadyH.cons (o := { dst := none, op := Op.store 24 (Operand.tmp 36) (Operand.tmp 35), type := 0, pos := "l18_live.go:70", after := #[{ on := 19, ground := Ground.data }, { on := 18, ground := Ground.data }, { on := 18, ground := Ground.chain }, { on := 0, ground := Ground.phase }, { on := 1, ground := Ground.phase }, { on := 2, ground := Ground.phase }, { on := 3, ground := Ground.phase }, { on := 4, ground := Ground.phase }, { on := 5, ground := Ground.phase }, { on := 6, ground := Ground.phase }, { on := 7, ground := Ground.phase }, { on := 8, ground := Ground.phase }, { on := 9, ground := Ground.phase }, { on := 10, ground := Ground.phase }, { on := 11, ground := Ground.phase }, { on := 12, ground := Ground.phase }, { on := 13, ground := Ground.phase }, { on := 14, ground := Ground.phase }, { on := 15, ground := Ground.phase }, { on := 16, ground := Ground.phase }, { on := 17, ground := Ground.phase }, { on := 18, ground := Ground.phase }], guard := none }) rfl (fun K hK => ?_) ?_
                · go_simp
                  refine hK.out _ _ ?_ (fun hHeld => ?_)
                  · try dsimp only
                    (repeat' (first | exact Below.refl _ _ | assumption | apply Below.alloc | apply Below.setCell | apply Below.drew | (refine Below.trans ?_ (Below.mono (by assumption) ?_)))) <;> (first | exact Below.size (by assumption) | omega | (simp; done) | (simp; omega) | (refine Nat.le_trans ?_ (Below.size (by assumption)); (first | omega | (simp <;> omega))))
                  clear hK K
                  try simp only [Act.put, List.setIfInBounds_toArray, List.set_cons_zero, List.set_cons_succ]
                  refine wpAnyH_done (by kernel_rfl) ?_ _
                  refine NoPanic.normal ?_
                  obtain ⟨r1, r2, r3, r4, r5⟩ := copy_step hBrA ohdA ohfA (fun m hm => (hohl m hm).2) (by omega) hsA hoA hownA own9 hg9 hb9 own10 hH9.out hg10 hb10
                  have hmy : Hid (H9.map (·.y) = sy.take (i + 1)) := by
                    show _ = _
                    rw [hH9.out, ← HMN.out g9 c9, show F9 = y.fr from hF9.out]
                  clear ho9 q90 q9a own9 hg9 hb9 own10 hH9 hg10 hb10 ho10 q10 z10 hF9 hs9 hB9S
                  go_wp2
                  go_roundw
                  case rel => exact ⟨i + 1, by omega, by go_num, _, H9, hmy, r1, r2, r3, r4, r5⟩
                  case measure => simp [intOf]; omega
                exact AllReadyH.nil
              exact AllReadyH.nil
            exact AllReadyH.nil
          exact AllReadyH.nil
        exact AllReadyH.nil
      exact AllReadyH.nil
    · have hmy : Hid (hv.map (·.y) = sy) := by show _ = _; rw [hm.out, List.take_of_length_le (by omega)]
      have q0 : wr.cell? ⟨Rg, 0, none⟩ = some (.slice (some ⟨g7, 0, none⟩) N.length c7) := by simp [World.cell?, ho]
      have q1 : wr.cell? ⟨Rg, 1, none⟩ = some (.slice Av hv.length cv) := by simp [World.cell?, ho]
      have hlh : Hid (hv.length = sy.length) := by have := congrArg List.length hmy.out; rwa [List.length_map] at this
      have t0 := (belowL hBr (show w.heap.size + 1 < Rg by omega)).trans s0
      have t1 := (belowL hBr (show w.heap.size + 1 < Rg by omega)).trans s1
      have x0 := (belowZ hBr (show w.heap.size + 1 < Rg by omega)).trans y0
      have x1 := (belowZ hBr (show w.heap.size + 1 < Rg by omega)).trans y1
      have hz : ZoneR (w.heap.size + 1) (w.heap.size + 2) wr ((wr.setCell ⟨w.heap.size + 1, 0, none⟩ (.slice (some ⟨g7, 0, none⟩) N.length c7)).setCell ⟨w.heap.size + 1, 1, none⟩ (.slice Av hv.length cv)) := (ZoneR.setCell wr _ (by omega) (by omega)).trans (ZoneR.setCell _ _ (by omega) (by omega))
      have own9 : OwnT wr (w.heap.size + 2) g7 c7 N := own_belowZ own7 (by rw [hRg]; exact hBr)
      have e1 := own_zoneR own9 hz (fun k hk => .inr (by have := (own9.lt k hk).1; omega))
      have hge : ∀ k, (Value.slice Av hv.length cv).ownBlock = some k → Rg + 1 ≤ k := fun k hk => by
        rcases ohd.2 with ⟨h1, _⟩ | ⟨g, cap, cur, h1, h2, _⟩
        · rw [h1] at hk; cases hk
        · rw [h1] at hk; cases hk; exact h2
      have e2 := own_zoneR ohd hz (fun k hk => .inr (by have := hge k hk; omega))
      have e3 : OwnH _ (Rg + 1) hv := ⟨fun m hm => own_zoneR (ohf.own m hm) hz (fun k hk => .inr (by have := ((ohf.own m hm).lt k hk).1; omega)), ohf.dif⟩
      have HC : Hid (∀ w'', ZoneR 0 w.heap.size ((wr.setCell ⟨w.heap.size + 1, 0, none⟩ (.slice (some ⟨g7, 0, none⟩) N.length c7)).setCell ⟨w.heap.size + 1, 1, none⟩ (.slice Av hv.length cv)) w'' → HasC w'' ⟨N, sy⟩ (some ⟨g7, 0, none⟩) c7 Av) := fun w'' hz2 => by
        have f1 := own_zoneR e1 hz2 (fun k hk => .inr (by have := (own9.lt k hk).1; omega))
        have f2 := own_zoneR e2 hz2 (fun k hk => .inr (by have := hge k hk; omega))
        have f3 : OwnH w'' (Rg + 1) hv := ⟨fun m hm => own_zoneR (e3.own m hm) hz2 (fun k hk => .inr (by have := ((ohf.own m hm).lt k hk).1; omega)), ohf.dif⟩
        obtain ⟨A', c', e4, e5⟩ := row_rd f2 f3
        cases e4
        rw [hmy.out] at e5
        exact ⟨OwnE.src f1, e5⟩
      have HBZ := Lib.hid ((hB7.trans (hBr.mono (show w.heap.size ≤ Rg by omega))).trans (hz.below (B := w.heap.size) (by omega) (by have := hBr.size; omega)))
      clear e1 e2 e3 own9 hz ohd ohf ho hm hmy hBr hge own7 hB7
      go_wp2
      exact bodyPost_ret (v := .agg #[.slice (some ⟨g7, 0, none⟩) N.length c7, .slice Av hv.length cv]) (by simp [results, Try.results58, go_sem, *]) rfl ⟨_, c7, Av, cv, ⟨by rw [hlh.out], HC.out⟩, HBZ.out⟩
end Go.Proofs.Ytlgomipfhbkklaa
