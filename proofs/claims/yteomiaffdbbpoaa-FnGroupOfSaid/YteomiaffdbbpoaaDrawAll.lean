/-
  DrawDoc, DrawDoc2, DrawDoc3, DrawDocs, as one text (written by wip/merge.py).
-/
import Derived.Test.YteomiaffdbbpoaaDrawText
import Derived.Test.YteomiaffdbbpoaaDrawInts
import Derived.Test.YteomiaffdbbpoaaExactDocs
import Derived.Deep.RegionLaw
import Derived.Deep.DeepCutAuto
import Derived.Deep.CutBlock
namespace Go.Proofs.Yteomiaffdbbpoaa
open Go.RowKit
set_option linter.unusedVariables false

section
variable {α : Type} {enc : α → List Value} {F : Nat} {P : Program} {w : World} {ops : Array Oper} {o : Oper} {a : Act} {Q : Exit → Act → World → Prop}
/-- an append to a row of the call's own, nil or not, in a region that draws its order. -/
theorem step_append_v {ST E : TypeId} {B : Nat} {K : Act → World → Prop} {EE : Prop} (T : RowT P ST E F B) (he : Enc enc F) (hF : 0 < F) (hgd : o.guard = none) (s x : Operand) (ho : o.op = .call { callee := .builtin .append, args := #[s, x], argTypes := #[ST, ST] })
    (base : Nat) (v : Value) (L : List α) (hs : a.eval s = v) (hown : w.ownsRow base E F v L.length (L.flatMap enc))
    (ad : Addr) (m c : Nat) (M : List α) (hm : m = M.length) (hx : a.eval x = .slice (some ad) m c) (hM : SrcE enc F w (some ad) c M) (hn : L.length + M.length ≤ 16777216) (hB : B ≤ 4096) (hbase : base ≤ w.heap.size)
    (h : ∀ v' w', w'.ownsRow base E F v' (L ++ M).length ((L ++ M).flatMap enc) → w.grownBy w' v.ownBlock → Below base w w' → K (a.put o.dst v') w') :
    if Region.wanted o (yielded ops a.tmps) = true then Oper.wp P o a w K Q else EE := by
  subst hm
  obtain ⟨i0, z, hi, hz0, hz1, hz2, hzs⟩ := T.info
  have hnews : ∀ j u, (M.flatMap enc)[j]? = some u → w.cell? (ad.add j) = some u := by
    intro j u hu
    have hj : 0 < M.length := by
      have := (List.getElem?_eq_some_iff.1 hu).1
      rw [he.flat] at this
      rcases Nat.eq_zero_or_pos M.length with h0 | h0
      · rw [h0] at this; omega
      · exact h0
    obtain ⟨b, off, e, _, hc⟩ := hM.1.2 hj
    simp only [Option.some.injEq] at e
    subst e
    have e2 : (Addr.add ⟨b, off, none⟩ j) = ⟨b, off + j, none⟩ := by
      unfold Addr.add; split
      · rename_i h; subst h; rfl
      · rfl
    rw [e2]; exact hc j u hu
  obtain ⟨v', w', hrun, h1, h2, h3, h4⟩ := run_append_own_at (P := P) w base ST o.type E i0 z F B T.und hi hz0 hz1 hz2 hzs hF v _ _ hown ad M.length c (M.flatMap enc) (he.flat M) hnews (he.flat_one M) (by unfold maxLen; omega) (Nat.le_trans (Nat.mul_le_mul hn hB) (by omega)) hbase
  have h1' : w'.ownsRow base E F v' (L ++ M).length ((L ++ M).flatMap enc) := by rw [List.length_append, List.flatMap_append]; exact h1
  have hw : Region.wanted o (yielded ops a.tmps) = true := by simp [Region.wanted, hgd]
  rw [if_pos hw]
  unfold Oper.wp execOp
  simp only [ho, resolve, invoke, builtin, Sem.run_bind, Sem.run_pure, Result.andThen_ok, List.map_toArray, List.map_cons, List.map_nil, hs, hx, hrun]
  exact h v' w' h1' h2 ((Below.refl base w).grown h2 hbase (fun k hk => (hown.lt k hk).1))
/-- the same ahead of further operations. -/
theorem append_v {rest : List Oper} {ST E : TypeId} {B : Nat} (T : RowT P ST E F B) (he : Enc enc F) (hF : 0 < F) (hgd : o.guard = none) (s x : Operand) (ho : o.op = .call { callee := .builtin .append, args := #[s, x], argTypes := #[ST, ST] })
    (base : Nat) (v : Value) (L : List α) (hs : a.eval s = v) (hown : w.ownsRow base E F v L.length (L.flatMap enc))
    (ad : Addr) (m c : Nat) (M : List α) (hm : m = M.length) (hx : a.eval x = .slice (some ad) m c) (hM : SrcE enc F w (some ad) c M) (hn : L.length + M.length ≤ 16777216) (hB : B ≤ 4096) (hbase : base ≤ w.heap.size)
    (h : ∀ N, Hid (N = L ++ M) → ∀ v' w', w'.ownsRow base E F v' N.length (N.flatMap enc) → w.grownBy w' v.ownBlock → Below base w w' → wpList P ops Q rest (a.put o.dst v') w') : wpList P ops Q (o :: rest) a w := by
  subst hm
  obtain ⟨i0, z, hi, hz0, hz1, hz2, hzs⟩ := T.info
  refine wpList_append_own_at _ hgd s x ST ho base E i0 z F B T.und hi hz0 hz1 hz2 hzs hF _ _ _ hs hown ad M.length c (M.flatMap enc) hx (he.flat M) ?_ (he.flat_one M) (by unfold maxLen; omega) (Nat.le_trans (Nat.mul_le_mul hn hB) (by omega)) hbase ?_
  · intro j u hu
    have hj : 0 < M.length := by
      have := (List.getElem?_eq_some_iff.1 hu).1
      rw [he.flat] at this
      rcases Nat.eq_zero_or_pos M.length with h0 | h0
      · rw [h0] at this; omega
      · exact h0
    obtain ⟨b, off, e, _, hc⟩ := hM.1.2 hj
    simp only [Option.some.injEq] at e
    subst e
    have e2 : (Addr.add ⟨b, off, none⟩ j) = ⟨b, off + j, none⟩ := by
      unfold Addr.add; split
      · rename_i h; subst h; rfl
      · rfl
    rw [e2]; exact hc j u hu
  · intro v' w' h1 h2 h3 h4
    have h1' : w'.ownsRow base E F v' (L ++ M).length ((L ++ M).flatMap enc) := by rw [List.length_append, List.flatMap_append]; exact h1
    exact h _ rfl v' w' h1' h2 ((Below.refl base w).grown h2 hbase (fun k hk => (hown.lt k hk).1))
end
def SmF (fs : List FldD) (n : Nat) : Prop := fs.length ≤ n ∧ ∀ f ∈ fs, f.1.size ≤ 5000 ∧ f.2.size ≤ 5000
def SmA (ns : List AttD) (n : Nat) : Prop := ns.length ≤ n ∧ ∀ a ∈ ns, a.1.size ≤ 5000
theorem SmF.snoc {fs : List FldD} {n : Nat} (h : SmF fs n) {f : FldD} (h1 : f.1.size ≤ 5000) (h2 : f.2.size ≤ 5000) : SmF (fs ++ [f]) (n + 1) := by
  refine ⟨by have := h.1; simp; omega, fun x hx => ?_⟩
  rcases List.mem_append.1 hx with hx | hx
  · exact h.2 x hx
  · simp at hx; rw [hx]; exact ⟨h1, h2⟩
theorem SmA.snoc {ns : List AttD} {n : Nat} (h : SmA ns n) {a : AttD} (h1 : a.1.size ≤ 5000) : SmA (ns ++ [a]) (n + 1) := by
  refine ⟨by have := h.1; simp; omega, fun x hx => ?_⟩
  rcases List.mem_append.1 hx with hx | hx
  · exact h.2 x hx
  · simp at hx; rw [hx]; exact h1
theorem SmF.up {fs : List FldD} {n m : Nat} (h : SmF fs n) (hm : n ≤ m) : SmF fs m := ⟨Nat.le_trans h.1 hm, h.2⟩
theorem SmA.up {ns : List AttD} {n m : Nat} (h : SmA ns n) (hm : n ≤ m) : SmA ns m := ⟨Nat.le_trans h.1 hm, h.2⟩
theorem sm_doc {id : Int} {fs : List FldD} {ns : List AttD} {n m : Nat} (h1 : SmF fs n) (h2 : SmA ns m) (hn : n ≤ 100) (hm : m ≤ 100) : SmD ⟨id, fs, ns⟩ :=
  ⟨by have := h1.1; show fs.length ≤ _; omega, by have := h2.1; show ns.length ≤ _; omega, fun f hf => by have := (h1.2 f hf).1; omega, fun f hf => by have := (h1.2 f hf).2; omega, fun a ha => by have := h2.2 a ha; omega⟩
def OwnD (w : World) (base : Nat) (d : DocD) (A1 : Option Addr) (c1 : Nat) (A2 : Option Addr) (c2 : Nat) : Prop :=
  w.ownsRow base 117 2 (.slice A1 d.fs.length c1) d.fs.length (d.fs.flatMap encF) ∧ w.ownsRow base 88 2 (.slice A2 d.ns.length c2) d.ns.length (d.ns.flatMap encA)
/-- the block of a row is not block D, which holds cells of another type. -/
def TypAt (w : World) (D : Nat) : Prop := ∃ cs, w.heap[D]? = some (.cells cs 42 (0, 0))
theorem typAt_new (w : World) (cs : Array Value) (D : Nat) (hD : D = w.heap.size) : TypAt (w.alloc (.cells cs 42)) D := by subst hD; exact ⟨_, heap_alloc_new _ _⟩
theorem ne_own {w : World} {D base E F n : Nat} {v : Value} {xs : List Value} (h : w.ownsRow base E F v n xs) (hD : TypAt w D) (hne : E ≠ 42) : ∀ k, v.ownBlock = some k → k ≠ D := by
  intro k hk e
  subst e
  obtain ⟨cs, hD⟩ := hD
  rcases h.2 with ⟨rfl, _⟩ | ⟨g, cap, cur, rfl, _, hh, _⟩
  · simp [Value.ownBlock] at hk
  · simp [Value.ownBlock] at hk
    subst hk
    rw [hD] at hh
    injection hh with hh
    injection hh with _ hh
    exact hne hh.symm
theorem grown_at {w w' : World} {D base E F n : Nat} {v : Value} {xs : List Value} (h : w.ownsRow base E F v n xs) (hg : w.grownBy w' v.ownBlock) (hD : TypAt w D) (hlt : D < w.heap.size) (hne : E ≠ 42) : w'.heap[D]? = w.heap[D]? :=
  hg.block D hlt (fun e => ne_own h hD hne D e.symm rfl)
/-- a document in the making: block D holds it, block Rb waits for the result; its rows lie above. -/
structure DocP (w wx : World) (g q Rb D : Nat) (id : Int) (v1 v2 : Value) (fs : List FldD) (ns : List AttD) : Prop where
  rd : Rd wx g q
  out : Outer w.heap.size g w wx
  gl : g < w.heap.size
  hR : Rb = w.heap.size
  hD : Rb < D
  hDs : D < wx.heap.size
  hDt : TypAt wx D
  c0 : wx.cell? ⟨D, 0, none⟩ = some (.int .i64 id)
  c1 : wx.cell? ⟨D, 1, none⟩ = some v1
  c2 : wx.cell? ⟨D, 2, none⟩ = some v2
  z : ∀ j, wx.frozen? ⟨D, j, none⟩ = false
  r0 : wx.cell? ⟨Rb, 0, none⟩ = some (.int .i64 0)
  r1 : wx.cell? ⟨Rb, 1, none⟩ = some (.slice none 0 0)
  r2 : wx.cell? ⟨Rb, 2, none⟩ = some (.slice none 0 0)
  zr : ∀ j, wx.frozen? ⟨Rb, j, none⟩ = false
  o1 : wx.ownsRow (w.heap.size + 1) 117 2 v1 fs.length (fs.flatMap encF)
  o2 : wx.ownsRow (w.heap.size + 1) 88 2 v2 ns.length (ns.flatMap encA)
section
variable {w wx w' : World} {g q q' Rb D : Nat} {id : Int} {v1 v2 : Value} {fs : List FldD} {ns : List AttD}
theorem DocP.sz (h : DocP w wx g q Rb D id v1 v2 fs ns) : w.heap.size + 2 ≤ wx.heap.size := by
  have h1 := h.hR
  have h2 := h.hD
  have h3 := h.hDs
  omega
theorem DocP.gen (h : DocP w wx g q Rb D id v1 v2 fs ns) (hr : Rd w' g q') (ho : Outer wx.heap.size g wx w') : DocP w w' g q' Rb D id v1 v2 fs ns := by
  have hg := h.gl
  have hR := h.hR
  have hD := h.hD
  have hDs := h.hDs
  have hs := h.sz
  obtain ⟨hc, hf⟩ := ho.cells
  obtain ⟨cs, hcs⟩ := h.hDt
  exact ⟨hr, h.out.trans (ho.mono h.out.2.1), hg, hR, hD, Nat.lt_of_lt_of_le hDs ho.2.1, ⟨cs, (ho.2.2 D hDs (by omega)).trans hcs⟩, (hc _ _ (by omega) (by omega)).trans h.c0, (hc _ _ (by omega) (by omega)).trans h.c1, (hc _ _ (by omega) (by omega)).trans h.c2, fun j => (hf _ _ (by omega) (by omega)).trans (h.z j),
    (hc _ _ (by omega) (by omega)).trans h.r0, (hc _ _ (by omega) (by omega)).trans h.r1, (hc _ _ (by omega) (by omega)).trans h.r2, fun j => (hf _ _ (by omega) (by omega)).trans (h.zr j), own_gen h.o1 (by omega) ho, own_gen h.o2 (by omega) ho⟩
theorem DocP.below (h : DocP w wx g q Rb D id v1 v2 fs ns) (hb : Below wx.heap.size wx w') : DocP w w' g q Rb D id v1 v2 fs ns :=
  h.gen (h.rd.below (hb.mono (by have := h.rd.lt; omega))) (Outer.of hb)
/-- after an append to a row the document's own cell is as before. -/
theorem DocP.appF (h : DocP w wx g q Rb D id v1 v2 fs ns) (hg7 : wx.grownBy w' v1.ownBlock) : w'.cell? ⟨D, 1, none⟩ = some v1 ∧ w'.frozen? ⟨D, 1, none⟩ = false := by
  have e := grown_at h.o1 hg7 h.hDt h.hDs (by decide)
  exact ⟨(World.cell?_of_block (w := wx) (a := ⟨D, 1, none⟩) e).trans h.c1, (World.frozen?_of_block (w := wx) (a := ⟨D, 1, none⟩) e).trans (h.z 1)⟩
theorem DocP.appA (h : DocP w wx g q Rb D id v1 v2 fs ns) (hg7 : wx.grownBy w' v2.ownBlock) : w'.cell? ⟨D, 2, none⟩ = some v2 ∧ w'.frozen? ⟨D, 2, none⟩ = false := by
  have e := grown_at h.o2 hg7 h.hDt h.hDs (by decide)
  exact ⟨(World.cell?_of_block (w := wx) (a := ⟨D, 2, none⟩) e).trans h.c2, (World.frozen?_of_block (w := wx) (a := ⟨D, 2, none⟩) e).trans (h.z 2)⟩
/-- what a store into the document's own block leaves. -/
theorem DocP.setF {v1' : Value} {fs' : List FldD} (h : DocP w wx g q Rb D id v1 v2 fs ns) (hg7 : wx.grownBy w' v1.ownBlock) (ho : w'.ownsRow (w.heap.size + 1) 117 2 v1' fs'.length (fs'.flatMap encF)) :
    DocP w (w'.setCell ⟨D, 1, none⟩ v1') g q Rb D id v1' v2 fs' ns := by
  have hg := h.gl
  have hR := h.hR
  have hD := h.hD
  have hDs := h.hDs
  have hs := h.sz
  have eD := grown_at h.o1 hg7 h.hDt h.hDs (by decide)
  have hb : Below (w.heap.size + 1) wx w' := (Below.refl _ _).grown hg7 (by omega) (fun k hk => (h.o1.lt k hk).1)
  have hz : ZoneR D (D + 1) w' (w'.setCell ⟨D, 1, none⟩ v1') := ZoneR.setCell w' v1' (Nat.le_refl _) (by omega)
  have hb2 : Below (w.heap.size + 1) wx (w'.setCell ⟨D, 1, none⟩ v1') := (hb).setCell (p := ⟨D, 1, none⟩) (by show _ ≤ D; omega) v1'
  have cD : ∀ j, w'.cell? ⟨D, j, none⟩ = wx.cell? ⟨D, j, none⟩ := fun j => World.cell?_of_block (w := wx) (a := ⟨D, j, none⟩) eD
  have hDt' : TypAt w' D := by obtain ⟨cs, hcs⟩ := h.hDt; exact ⟨cs, eD.trans hcs⟩
  have o2' : w'.ownsRow (w.heap.size + 1) 88 2 v2 ns.length (ns.flatMap encA) := own_kept h.o2 hg7 (own_ne h.o2 h.o1 (by decide))
  refine ⟨h.rd.below (hb2.mono (by omega)), h.out.trans (Outer.of (hb2.mono (by omega))), hg, hR, hD, Nat.lt_of_lt_of_le hDs (Nat.le_trans hb.size (by simp [World.setCell])), ?_, ?_, ?_, ?_, fun j => ?_, ?_, ?_, ?_, fun j => ?_, ?_, ?_⟩
  · obtain ⟨cs, hcs⟩ := hDt'; obtain ⟨cs', hcs', _⟩ := heap_setCell_at w' D 1 v1' cs _ hcs; exact ⟨cs', hcs'⟩
  · rw [World.cell?_setCell_other _ _ _ _ (by intro h; injection h; omega)]; exact (cD 0).trans h.c0
  · exact World.cell?_setCell_same _ _ _ (by rw [cD 1, h.c1])
  · rw [World.cell?_setCell_other _ _ _ _ (by intro h; injection h; omega)]; exact (cD 2).trans h.c2
  · rw [World.frozen?_setCell]; exact (World.frozen?_of_block (w := wx) (a := ⟨D, j, none⟩) eD).trans (h.z j)
  · exact (hb2.cell (p := ⟨Rb, 0, none⟩) (by show Rb < _; omega)).trans h.r0
  · exact (hb2.cell (p := ⟨Rb, 1, none⟩) (by show Rb < _; omega)).trans h.r1
  · exact (hb2.cell (p := ⟨Rb, 2, none⟩) (by show Rb < _; omega)).trans h.r2
  · exact (hb2.frozen (p := ⟨Rb, j, none⟩) (by show Rb < _; omega)).trans (h.zr j)
  · exact own_zoneR ho hz (fun k hk => by have := ne_own ho hDt' (by decide) k hk; omega)
  · exact own_zoneR o2' hz (fun k hk => by have := ne_own o2' hDt' (by decide) k hk; omega)
theorem DocP.setA {v2' : Value} {ns' : List AttD} (h : DocP w wx g q Rb D id v1 v2 fs ns) (hg7 : wx.grownBy w' v2.ownBlock) (ho : w'.ownsRow (w.heap.size + 1) 88 2 v2' ns'.length (ns'.flatMap encA)) :
    DocP w (w'.setCell ⟨D, 2, none⟩ v2') g q Rb D id v1 v2' fs ns' := by
  have hg := h.gl
  have hR := h.hR
  have hD := h.hD
  have hDs := h.hDs
  have hs := h.sz
  have eD := grown_at h.o2 hg7 h.hDt h.hDs (by decide)
  have hb : Below (w.heap.size + 1) wx w' := (Below.refl _ _).grown hg7 (by omega) (fun k hk => (h.o2.lt k hk).1)
  have hz : ZoneR D (D + 1) w' (w'.setCell ⟨D, 2, none⟩ v2') := ZoneR.setCell w' v2' (Nat.le_refl _) (by omega)
  have hb2 : Below (w.heap.size + 1) wx (w'.setCell ⟨D, 2, none⟩ v2') := (hb).setCell (p := ⟨D, 2, none⟩) (by show _ ≤ D; omega) v2'
  have cD : ∀ j, w'.cell? ⟨D, j, none⟩ = wx.cell? ⟨D, j, none⟩ := fun j => World.cell?_of_block (w := wx) (a := ⟨D, j, none⟩) eD
  have hDt' : TypAt w' D := by obtain ⟨cs, hcs⟩ := h.hDt; exact ⟨cs, eD.trans hcs⟩
  have o1' : w'.ownsRow (w.heap.size + 1) 117 2 v1 fs.length (fs.flatMap encF) := own_kept h.o1 hg7 (own_ne h.o1 h.o2 (by decide))
  refine ⟨h.rd.below (hb2.mono (by omega)), h.out.trans (Outer.of (hb2.mono (by omega))), hg, hR, hD, Nat.lt_of_lt_of_le hDs (Nat.le_trans hb.size (by simp [World.setCell])), ?_, ?_, ?_, ?_, fun j => ?_, ?_, ?_, ?_, fun j => ?_, ?_, ?_⟩
  · obtain ⟨cs, hcs⟩ := hDt'; obtain ⟨cs', hcs', _⟩ := heap_setCell_at w' D 2 v2' cs _ hcs; exact ⟨cs', hcs'⟩
  · rw [World.cell?_setCell_other _ _ _ _ (by intro h; injection h; omega)]; exact (cD 0).trans h.c0
  · rw [World.cell?_setCell_other _ _ _ _ (by intro h; injection h; omega)]; exact (cD 1).trans h.c1
  · exact World.cell?_setCell_same _ _ _ (by rw [cD 2, h.c2])
  · rw [World.frozen?_setCell]; exact (World.frozen?_of_block (w := wx) (a := ⟨D, j, none⟩) eD).trans (h.z j)
  · exact (hb2.cell (p := ⟨Rb, 0, none⟩) (by show Rb < _; omega)).trans h.r0
  · exact (hb2.cell (p := ⟨Rb, 1, none⟩) (by show Rb < _; omega)).trans h.r1
  · exact (hb2.cell (p := ⟨Rb, 2, none⟩) (by show Rb < _; omega)).trans h.r2
  · exact (hb2.frozen (p := ⟨Rb, j, none⟩) (by show Rb < _; omega)).trans (h.zr j)
  · exact own_zoneR o1' hz (fun k hk => by have := ne_own o1' hDt' (by decide) k hk; omega)
  · exact own_zoneR ho hz (fun k hk => by have := ne_own ho hDt' (by decide) k hk; omega)
/-- what a store of the document's number leaves. -/
theorem DocP.setI (h : DocP w wx g q Rb D id v1 v2 fs ns) (id' : Int) : DocP w (wx.setCell ⟨D, 0, none⟩ (.int .i64 id')) g q Rb D id' v1 v2 fs ns := by
  have hg := h.gl
  have hR := h.hR
  have hD := h.hD
  have hDs := h.hDs
  have hs := h.sz
  have hz : ZoneR D (D + 1) wx (wx.setCell ⟨D, 0, none⟩ (.int .i64 id')) := ZoneR.setCell wx _ (Nat.le_refl _) (by omega)
  have hb2 : Below (w.heap.size + 1) wx (wx.setCell ⟨D, 0, none⟩ (.int .i64 id')) := (Below.refl _ _).setCell (p := ⟨D, 0, none⟩) (by show _ ≤ D; omega) _
  have hDt' := h.hDt
  refine ⟨h.rd.below (hb2.mono (by omega)), h.out.trans (Outer.of (hb2.mono (by omega))), hg, hR, hD, by simpa [World.setCell] using hDs, ?_, ?_, ?_, ?_, fun j => ?_, ?_, ?_, ?_, fun j => ?_, ?_, ?_⟩
  · obtain ⟨cs, hcs⟩ := hDt'; obtain ⟨cs', hcs', _⟩ := heap_setCell_at wx D 0 (.int .i64 id') cs _ hcs; exact ⟨cs', hcs'⟩
  · exact World.cell?_setCell_same _ _ _ (by rw [h.c0])
  · rw [World.cell?_setCell_other _ _ _ _ (by intro h; injection h; omega)]; exact h.c1
  · rw [World.cell?_setCell_other _ _ _ _ (by intro h; injection h; omega)]; exact h.c2
  · rw [World.frozen?_setCell]; exact h.z j
  · exact (hb2.cell (p := ⟨Rb, 0, none⟩) (by show Rb < _; omega)).trans h.r0
  · exact (hb2.cell (p := ⟨Rb, 1, none⟩) (by show Rb < _; omega)).trans h.r1
  · exact (hb2.cell (p := ⟨Rb, 2, none⟩) (by show Rb < _; omega)).trans h.r2
  · exact (hb2.frozen (p := ⟨Rb, j, none⟩) (by show Rb < _; omega)).trans (h.zr j)
  · exact own_zoneR h.o1 hz (fun k hk => by have := ne_own h.o1 hDt' (by decide) k hk; omega)
  · exact own_zoneR h.o2 hz (fun k hk => by have := ne_own h.o2 hDt' (by decide) k hk; omega)
/-- the result's three stores. -/
theorem DocP.last {v1 v2 : Value} (h : DocP w wx g q Rb D id v1 v2 fs ns) :
    ∃ (A1 : Option Addr) (c1 : Nat) (A2 : Option Addr) (c2 : Nat), v1 = .slice A1 fs.length c1 ∧ v2 = .slice A2 ns.length c2 ∧
      OwnD (((wx.setCell ⟨Rb, 0, none⟩ (.int .i64 id)).setCell ⟨Rb, 1, none⟩ v1).setCell ⟨Rb, 2, none⟩ v2) w.heap.size ⟨id, fs, ns⟩ A1 c1 A2 c2 ∧
      Rd (((wx.setCell ⟨Rb, 0, none⟩ (.int .i64 id)).setCell ⟨Rb, 1, none⟩ v1).setCell ⟨Rb, 2, none⟩ v2) g q ∧
      Outer w.heap.size g w (((wx.setCell ⟨Rb, 0, none⟩ (.int .i64 id)).setCell ⟨Rb, 1, none⟩ v1).setCell ⟨Rb, 2, none⟩ v2) := by
  have hg := h.gl
  have hR := h.hR
  have hs := h.sz
  have ho1 := h.o1
  have ho2 := h.o2
  have hrd := h.rd
  have hout := h.out
  clear h
  obtain ⟨A1, c1, rfl⟩ := own_form ho1
  obtain ⟨A2, c2, rfl⟩ := own_form ho2
  have hz : ZoneR w.heap.size (w.heap.size + 1) wx (((wx.setCell ⟨Rb, 0, none⟩ (.int .i64 id)).setCell ⟨Rb, 1, none⟩ (.slice A1 fs.length c1)).setCell ⟨Rb, 2, none⟩ (.slice A2 ns.length c2)) := ((ZoneR.setCell wx _ (by omega) (by omega)).trans (ZoneR.setCell _ _ (by omega) (by omega))).trans (ZoneR.setCell _ _ (by omega) (by omega))
  have hB := hz.below (B := w.heap.size) (Nat.le_refl _) (by omega)
  have R1 := own_monoZ (own_zoneR ho1 hz (fun k hk => .inr (ho1.lt k hk).1)) (show w.heap.size ≤ w.heap.size + 1 by omega)
  have R2 := own_monoZ (own_zoneR ho2 hz (fun k hk => .inr (ho2.lt k hk).1)) (show w.heap.size ≤ w.heap.size + 1 by omega)
  exact ⟨A1, c1, A2, c2, rfl, rfl, ⟨R1, R2⟩, hrd.below (hB.mono hg), hout.trans (Outer.of hB)⟩
/-- a document in the making, with bounds. -/
def DocF (w wx : World) (g qm Rb D : Nat) (id : Int) (nf nn : Nat) : Prop := ∃ (q : Nat) (v1 v2 : Value) (fs : List FldD) (ns : List AttD), q ≤ qm ∧ DocP w wx g q Rb D id v1 v2 fs ns ∧ SmF fs nf ∧ SmA ns nn
end
theorem rowTFld : RowT Try.prog 39 117 2 32 := rowTField
theorem rowTAtt : RowT Try.prog 40 88 2 24 := rowTAttr
set_option maxHeartbeats 3200000 in
set_option maxRecDepth 20000 in
theorem l30Doc_gen (g p : Nat) (id : Int) (w : World) (hr : Rd w g p) (hp : p + 100 < 1000000) :
    Calls Try.prog 114 #[.pointer (some ⟨g, 0, none⟩), .int .i64 id] w fun e w' => ∃ (d : DocD) (A1 : Option Addr) (c1 : Nat) (A2 : Option Addr) (c2 : Nat), (e = .returned (.agg #[.int .i64 id, .slice A1 d.fs.length c1, .slice A2 d.ns.length c2]) ∧ d.id = id ∧ OwnD w' w.heap.size d A1 c1 A2 c2 ∧ SmF d.fs 2 ∧ SmA d.ns 2) ∧ Gen w w' g p 80 := by
  have hg := hr.lt
  go_enter Try.func114, Try.ntmps114
  go_wp2_with fail
  have hB0 : Below w.heap.size w ((w.alloc (.cells #[.int .i64 0, .slice none 0 0, .slice none 0 0] 42)).alloc (.cells #[.int .i64 id, .slice none 0 0, .slice none 0 0] 42)) := by (repeat' (first | exact Below.refl _ _ | apply Below.alloc | apply Below.setCell | apply Below.drew | apply below_draws)) <;> (first | omega | (simp <;> omega))
  have h0 : DocP w ((w.alloc (.cells #[.int .i64 0, .slice none 0 0, .slice none 0 0] 42)).alloc (.cells #[.int .i64 id, .slice none 0 0, .slice none 0 0] 42)) g p w.heap.size (w.heap.size + 1) id (.slice none 0 0) (.slice none 0 0) [] [] :=
    ⟨hr.below (hB0.mono hg), Outer.of hB0, hg, rfl, by omega, by simp, typAt_new _ _ _ (by simp), by simp [go_sem], by simp [go_sem], by simp [go_sem], fun j => by simp [go_sem], by simp [go_sem], by simp [go_sem], by simp [go_sem], fun j => by simp [go_sem], World.ownsRow_nil _ _ _ _, World.ownsRow_nil _ _ _ _⟩
  generalize ((w.alloc (.cells #[.int .i64 0, .slice none 0 0, .slice none 0 0] 42)).alloc (.cells #[.int .i64 id, .slice none 0 0, .slice none 0 0] 42)) = W0 at h0 ⊢
  have hF0 : DocF w W0 g p w.heap.size (w.heap.size + 1) id 0 0 := ⟨p, _, _, [], [], Nat.le_refl _, h0, ⟨Nat.zero_le _, fun f hf => by simp at hf⟩, ⟨Nat.zero_le _, fun f hf => by simp at hf⟩⟩
  clear h0 hB0 hr
  generalize hRb : w.heap.size = Rb at hF0 ⊢
  generalize hDb : Rb + 1 = D at hF0 ⊢
  obtain ⟨q, v1, v2, fs, ns, hq, hd, hsf, hsa⟩ := hF0
  refine (pick_gen g q _ (by omega) (by omega) _ hd.rd (by omega)).mono ?_
  rintro e w1 ⟨v, ⟨rfl, h3, h4⟩, q1, hq1, r1, O1⟩
  have hd1 := hd.gen r1 O1
  clear hd O1 r1
  go_upto_if 10 with (fail)
  go_cut [] (fun wx => DocF w wx g (p + 20) Rb D id 1 0)
  case first =>
    by_cases hv : 0 < v
    · have c1 := hd1.c1
      have hrd := hd1.rd
      have z1 := hd1.z 1
      have hsl := hsf.1
      go_wp2_with fail
      go_region_law (first | (refine step_append_v rowTFld encF_ok (by decide) rfl (.tmp 12) (.tmp 16) rfl (w.heap.size + 1) v1 fs (by simp [Act.eval]) (own_belowZ hd4.o1 ((Below.refl _ w4).alloc (Nat.le_refl _) (.cells #[.string ⟨#[98, 111, 100, 121]⟩, .string s4] 117))) ⟨w4.heap.size, 0, none⟩ 1 1 [(⟨#[98, 111, 100, 121]⟩, s4)] rfl (by simp [Act.eval]) (SrcE.lit encF_ok w4 117 #[.string ⟨#[98, 111, 100, 121]⟩, .string s4] [(⟨#[98, 111, 100, 121]⟩, s4)] rfl 1) (by show _ + 1 ≤ _; omega) (by omega) (by simp; omega) ?_; intro v7 w7 o7 g7 b7; obtain ⟨y7, z7⟩ := (hd4.below ((Below.refl _ w4).alloc (Nat.le_refl _) (.cells #[.string ⟨#[98, 111, 100, 121]⟩, .string s4] 117))).appF g7; obtain ⟨A7, c7, rfl⟩ := own_form o7) | (go_simp; go_at_call 134; refine (l30Text_gen g q1 _ (by exact hrd) (by omega)).mono ?_; rintro e w4 ⟨s4, ⟨rfl, hs4⟩, q4, hq4, r4, O4⟩; have O4b : Outer w1.heap.size g w1 w4 := O4; have hd4 := hd1.gen r4 O4b; have c4 := hd4.c1; have hz4 := hd4.sz; have z4 := hd4.z 1; have c5 := (hd4.below ((Below.refl _ w4).alloc (Nat.le_refl _) (.cells #[.string ⟨#[98, 111, 100, 121]⟩, .string s4] 117))).c1))
      all_goals (go_wp2_with fail; go_meet)
      all_goals (have hA := hd4.below ((Below.refl _ w4).alloc (Nat.le_refl _) (.cells #[.string ⟨#[98, 111, 100, 121]⟩, .string s4] 117)); have hN := hA.setF (fs' := fs ++ [(⟨#[98, 111, 100, 121]⟩, s4)]) g7 o7; rw [List.length_append] at hN)
      all_goals exact ⟨q4, _, v2, fs ++ [(⟨#[98, 111, 100, 121]⟩, s4)], ns, by omega, hN, hsf.snoc (by show ByteArray.size ⟨#[98, 111, 100, 121]⟩ ≤ 5000; decide) (by show s4.size ≤ 5000; omega), hsa⟩
    · go_wp2_with fail
      go_meet
      exact ⟨q1, v1, v2, fs, ns, by omega, hd1, hsf.up (by omega), hsa.up (by omega)⟩
  case rest =>
    obtain ⟨q, v1, v2, fs, ns, hq, hd, hsf, hsa⟩ := hcut
    clear hd1
    go_wp2_with fail
    refine (pick_gen g q _ (by omega) (by omega) _ hd.rd (by omega)).mono ?_
    rintro e w1 ⟨v, ⟨rfl, h3, h4⟩, q1, hq1, r1, O1⟩
    have hd1 := hd.gen r1 O1
    clear hd O1 r1
    go_upto_if 21 with (fail)
    go_cut [] (fun wx => DocF w wx g (p + 40) Rb D id 2 0)
    case first =>
      by_cases hv : v = 0
      · have c1 := hd1.c1
        have hrd := hd1.rd
        have z1 := hd1.z 1
        have hsl := hsf.1
        go_wp2_with fail
        go_region_law (first | (refine step_append_v rowTFld encF_ok (by decide) rfl (.tmp 23) (.tmp 27) rfl (w.heap.size + 1) v1 fs (by simp [Act.eval]) (own_belowZ hd4.o1 ((Below.refl _ w4).alloc (Nat.le_refl _) (.cells #[.string ⟨#[116, 105, 116, 108, 101]⟩, .string s4] 117))) ⟨w4.heap.size, 0, none⟩ 1 1 [(⟨#[116, 105, 116, 108, 101]⟩, s4)] rfl (by simp [Act.eval]) (SrcE.lit encF_ok w4 117 #[.string ⟨#[116, 105, 116, 108, 101]⟩, .string s4] [(⟨#[116, 105, 116, 108, 101]⟩, s4)] rfl 1) (by show _ + 1 ≤ _; omega) (by omega) (by simp; omega) ?_; intro v7 w7 o7 g7 b7; obtain ⟨y7, z7⟩ := (hd4.below ((Below.refl _ w4).alloc (Nat.le_refl _) (.cells #[.string ⟨#[116, 105, 116, 108, 101]⟩, .string s4] 117))).appF g7; obtain ⟨A7, c7, rfl⟩ := own_form o7) | (go_simp; go_at_call 134; refine (l30Text_gen g q1 _ (by exact hrd) (by omega)).mono ?_; rintro e w4 ⟨s4, ⟨rfl, hs4⟩, q4, hq4, r4, O4⟩; have O4b : Outer w1.heap.size g w1 w4 := O4; have hd4 := hd1.gen r4 O4b; have c4 := hd4.c1; have hz4 := hd4.sz; have z4 := hd4.z 1; have c5 := (hd4.below ((Below.refl _ w4).alloc (Nat.le_refl _) (.cells #[.string ⟨#[116, 105, 116, 108, 101]⟩, .string s4] 117))).c1))
        all_goals (go_wp2_with fail; go_meet)
        all_goals (have hA := hd4.below ((Below.refl _ w4).alloc (Nat.le_refl _) (.cells #[.string ⟨#[116, 105, 116, 108, 101]⟩, .string s4] 117)); have hN := hA.setF (fs' := fs ++ [(⟨#[116, 105, 116, 108, 101]⟩, s4)]) g7 o7; rw [List.length_append] at hN)
        all_goals exact ⟨q4, _, v2, fs ++ [(⟨#[116, 105, 116, 108, 101]⟩, s4)], ns, by omega, hN, hsf.snoc (by show ByteArray.size ⟨#[116, 105, 116, 108, 101]⟩ ≤ 5000; decide) (by show s4.size ≤ 5000; omega), hsa⟩
      · go_wp2_with fail
        go_meet
        exact ⟨q1, v1, v2, fs, ns, by omega, hd1, hsf.up (by omega), hsa.up (by omega)⟩
    case rest =>
      obtain ⟨q, v1, v2, fs, ns, hq, hd, hsf, hsa⟩ := hcut
      clear hd1
      go_wp2_with fail
      refine (pick_gen g q _ (by omega) (by omega) _ hd.rd (by omega)).mono ?_
      rintro e w1 ⟨v, ⟨rfl, h3, h4⟩, q1, hq1, r1, O1⟩
      have hd1 := hd.gen r1 O1
      clear hd O1 r1
      go_upto_if 32 with (fail)
      go_cut [] (fun wx => DocF w wx g (p + 43) Rb D id 2 1)
      case first =>
        by_cases hv : 0 < v
        · have c1 := hd1.c2
          have hrd := hd1.rd
          have z1 := hd1.z 2
          have hsl := hsa.1
          go_wp2_with fail
          go_region_law (first | (refine step_append_v rowTAtt encA_ok (by decide) rfl (.tmp 34) (.tmp 38) rfl (w.heap.size + 1) v2 ns (by simp [Act.eval]) (own_belowZ hd4.o2 ((Below.refl _ w4).alloc (Nat.le_refl _) (.cells #[.string ⟨#[114, 97, 116, 101]⟩, .int .i64 (t4)] 88))) ⟨w4.heap.size, 0, none⟩ 1 1 [(⟨#[114, 97, 116, 101]⟩, t4)] rfl (by simp [Act.eval]) (SrcE.lit encA_ok w4 88 #[.string ⟨#[114, 97, 116, 101]⟩, .int .i64 (t4)] [(⟨#[114, 97, 116, 101]⟩, t4)] rfl 1) (by show _ + 1 ≤ _; omega) (by omega) (by simp; omega) ?_; intro v7 w7 o7 g7 b7; obtain ⟨y7, z7⟩ := (hd4.below ((Below.refl _ w4).alloc (Nat.le_refl _) (.cells #[.string ⟨#[114, 97, 116, 101]⟩, .int .i64 (t4)] 88))).appA g7; obtain ⟨A7, c7, rfl⟩ := own_form o7) | (go_simp; go_at_call 76; refine (pick_gen g q1 _ (by omega) (by omega) _ (by exact hrd) (by omega)).mono ?_; rintro e w4 ⟨t4, ⟨rfl, ht4, ht5⟩, q4, hq4, r4, O4⟩; have O4b : Outer w1.heap.size g w1 w4 := O4; have hd4 := hd1.gen r4 O4b; have c4 := hd4.c2; have hz4 := hd4.sz; have z4 := hd4.z 2; have c5 := (hd4.below ((Below.refl _ w4).alloc (Nat.le_refl _) (.cells #[.string ⟨#[114, 97, 116, 101]⟩, .int .i64 (t4)] 88))).c2))
          all_goals (go_wp2_with fail; go_meet)
          all_goals (have hA := hd4.below ((Below.refl _ w4).alloc (Nat.le_refl _) (.cells #[.string ⟨#[114, 97, 116, 101]⟩, .int .i64 (t4)] 88)); have hN := hA.setA (ns' := ns ++ [(⟨#[114, 97, 116, 101]⟩, t4)]) g7 o7; rw [List.length_append] at hN)
          all_goals exact ⟨q4, v1, _, fs, ns ++ [(⟨#[114, 97, 116, 101]⟩, t4)], by omega, hN, hsf, hsa.snoc (by show ByteArray.size ⟨#[114, 97, 116, 101]⟩ ≤ 5000; decide)⟩
        · go_wp2_with fail
          go_meet
          exact ⟨q1, v1, v2, fs, ns, by omega, hd1, hsf.up (by omega), hsa.up (by omega)⟩
      case rest =>
        obtain ⟨q, v1, v2, fs, ns, hq, hd, hsf, hsa⟩ := hcut
        clear hd1
        go_wp2_with fail
        refine (pick_gen g q _ (by omega) (by omega) _ hd.rd (by omega)).mono ?_
        rintro e w1 ⟨v, ⟨rfl, h3, h4⟩, q1, hq1, r1, O1⟩
        have hd1 := hd.gen r1 O1
        clear hd O1 r1
        go_upto_if 43 with (fail)
        go_cut [] (fun wx => DocF w wx g (p + 46) Rb D id 2 2)
        case first =>
          by_cases hv : v = 0
          · have c1 := hd1.c2
            have hrd := hd1.rd
            have z1 := hd1.z 2
            have hsl := hsa.1
            go_wp2_with fail
            go_region_law (first | (refine step_append_v rowTAtt encA_ok (by decide) rfl (.tmp 45) (.tmp 50) rfl (w.heap.size + 1) v2 ns (by simp [Act.eval]) (own_belowZ hd4.o2 ((Below.refl _ w4).alloc (Nat.le_refl _) (.cells #[.string ⟨#[121, 101, 97, 114]⟩, .int .i64 (IntKind.i64.wrap (2000 + t4))] 88))) ⟨w4.heap.size, 0, none⟩ 1 1 [(⟨#[121, 101, 97, 114]⟩, IntKind.i64.wrap (2000 + t4))] rfl (by simp [Act.eval]) (SrcE.lit encA_ok w4 88 #[.string ⟨#[121, 101, 97, 114]⟩, .int .i64 (IntKind.i64.wrap (2000 + t4))] [(⟨#[121, 101, 97, 114]⟩, IntKind.i64.wrap (2000 + t4))] rfl 1) (by show _ + 1 ≤ _; omega) (by omega) (by simp; omega) ?_; intro v7 w7 o7 g7 b7; obtain ⟨y7, z7⟩ := (hd4.below ((Below.refl _ w4).alloc (Nat.le_refl _) (.cells #[.string ⟨#[121, 101, 97, 114]⟩, .int .i64 (IntKind.i64.wrap (2000 + t4))] 88))).appA g7; obtain ⟨A7, c7, rfl⟩ := own_form o7) | (go_simp; go_at_call 76; refine (pick_gen g q1 _ (by omega) (by omega) _ (by exact hrd) (by omega)).mono ?_; rintro e w4 ⟨t4, ⟨rfl, ht4, ht5⟩, q4, hq4, r4, O4⟩; have O4b : Outer w1.heap.size g w1 w4 := O4; have hd4 := hd1.gen r4 O4b; have c4 := hd4.c2; have hz4 := hd4.sz; have z4 := hd4.z 2; have c5 := (hd4.below ((Below.refl _ w4).alloc (Nat.le_refl _) (.cells #[.string ⟨#[121, 101, 97, 114]⟩, .int .i64 (IntKind.i64.wrap (2000 + t4))] 88))).c2))
            all_goals (go_wp2_with fail; go_meet)
            all_goals (have hA := hd4.below ((Below.refl _ w4).alloc (Nat.le_refl _) (.cells #[.string ⟨#[121, 101, 97, 114]⟩, .int .i64 (IntKind.i64.wrap (2000 + t4))] 88)); have hN := hA.setA (ns' := ns ++ [(⟨#[121, 101, 97, 114]⟩, IntKind.i64.wrap (2000 + t4))]) g7 o7; rw [List.length_append] at hN)
            all_goals exact ⟨q4, v1, _, fs, ns ++ [(⟨#[121, 101, 97, 114]⟩, IntKind.i64.wrap (2000 + t4))], by omega, hN, hsf, hsa.snoc (by show ByteArray.size ⟨#[121, 101, 97, 114]⟩ ≤ 5000; decide)⟩
          · go_wp2_with fail
            go_meet
            exact ⟨q1, v1, v2, fs, ns, by omega, hd1, hsf.up (by omega), hsa.up (by omega)⟩
        case rest =>
          obtain ⟨q, v1, v2, fs, ns, hq, hd, hsf, hsa⟩ := hcut
          clear hd1
          have e0 := hd.c0
          have e1 := hd.c1
          have e2 := hd.c2
          have f0 := hd.r0
          have f1 := hd.r1
          have f2 := hd.r2
          have g0 := hd.zr 0
          have g1 := hd.zr 1
          have g2 := hd.zr 2
          have hsz := hd.sz
          have k1 : Rb < D := hd.hD
          have k2 := hd.hDs
          obtain ⟨A1, c1, A2, c2, rfl, rfl, hO, hrd, hout⟩ := hd.last
          clear hd hRb hDb
          go_wp2
          exact bodyPost_ret (v := .agg #[.int .i64 id, .slice A1 fs.length c1, .slice A2 ns.length c2]) (by simp [results, Try.results114, go_sem, *]) rfl ⟨⟨id, fs, ns⟩, A1, c1, A2, c2, ⟨rfl, rfl, hO, hsf, hsa⟩, q, by omega, hrd, hout⟩
set_option maxHeartbeats 3200000 in
set_option maxRecDepth 20000 in
theorem l30AnyDoc_gen (g p : Nat) (w : World) (hr : Rd w g p) (hp : p + 150 < 1000000) :
    Calls Try.prog 94 #[.pointer (some ⟨g, 0, none⟩)] w fun e w' => ∃ (d : DocD) (A1 : Option Addr) (c1 : Nat) (A2 : Option Addr) (c2 : Nat), (e = .returned (.agg #[.int .i64 d.id, .slice A1 d.fs.length c1, .slice A2 d.ns.length c2]) ∧ OwnD w' w.heap.size d A1 c1 A2 c2 ∧ SmF d.fs 3 ∧ SmA d.ns 3) ∧ Gen w w' g p 110 := by
  have hg := hr.lt
  go_enter Try.func94, Try.ntmps94
  go_wp2_with fail
  have hB0 : Below w.heap.size w (w.alloc (.cells #[.int .i64 0, .slice none 0 0, .slice none 0 0] 42)) := by (repeat' (first | exact Below.refl _ _ | apply Below.alloc | apply Below.setCell | apply Below.drew | apply below_draws)) <;> (first | omega | (simp <;> omega))
  have hs0 : (w.alloc (.cells #[.int .i64 0, .slice none 0 0, .slice none 0 0] 42)).heap.size = w.heap.size + 1 := by simp
  refine (pick_gen g p _ (by omega) (by omega) _ (hr.below (hB0.mono hg)) (by omega)).mono ?_
  rintro e w1 ⟨v1, ⟨rfl, h3, h4⟩, p1, hp1, r1, O1⟩
  have hsz1 := O1.2.1
  go_wp2_with fail
  refine (l30Doc_gen g p1 _ _ r1 (by omega)).mono ?_
  rintro e w2 ⟨d2, A1, c1, A2, c2, ⟨rfl, hid, hO2, hsf, hsa⟩, p2, hp2, r2, O2⟩
  have hsz2 := O2.2.1
  obtain ⟨hcc, hcf⟩ := (O1.trans (O2.mono hsz1)).cells
  have hz0 : ∀ j, w2.cell? ⟨w.heap.size, j, none⟩ = (w.alloc (.cells #[.int .i64 0, .slice none 0 0, .slice none 0 0] 42)).cell? ⟨w.heap.size, j, none⟩ := fun j => hcc _ _ (by omega) (by omega)
  have hf0 : ∀ j, w2.frozen? ⟨w.heap.size, j, none⟩ = (w.alloc (.cells #[.int .i64 0, .slice none 0 0, .slice none 0 0] 42)).frozen? ⟨w.heap.size, j, none⟩ := fun j => hcf _ _ (by omega) (by omega)
  obtain ⟨id0, fs0, ns0⟩ := d2
  simp only at hid hO2 hsf hsa
  have hRlt : w.heap.size < w2.heap.size := by omega
  have hP : DocP w (w2.alloc (.cells #[.int .i64 (1 + v1), .slice A1 fs0.length c1, .slice A2 ns0.length c2] 42)) g p2 w.heap.size w2.heap.size (1 + v1) (.slice A1 fs0.length c1) (.slice A2 ns0.length c2) fs0 ns0 := by
    have hb : Below w2.heap.size w2 (w2.alloc (.cells #[.int .i64 (1 + v1), .slice A1 fs0.length c1, .slice A2 ns0.length c2] 42)) := by (repeat' (first | exact Below.refl _ _ | apply Below.alloc | apply Below.setCell | apply Below.drew | apply below_draws)) <;> (first | omega | (simp <;> omega))
    refine ⟨r2.below (hb.mono r2.lt), ((Outer.of hB0).trans ((O1.mono (by omega)).trans (O2.mono (by omega)))).trans ((Outer.of hb).mono (by omega)), hg, rfl, hRlt, by simp, typAt_new _ _ _ rfl, by simp [go_sem], by simp [go_sem], by simp [go_sem], fun j => by simp [go_sem], ?_, ?_, ?_, fun j => ?_, ?_, ?_⟩
    · exact (hb.cell (p := ⟨w.heap.size, 0, none⟩) hRlt).trans ((hz0 0).trans (by simp [go_sem]))
    · exact (hb.cell (p := ⟨w.heap.size, 1, none⟩) hRlt).trans ((hz0 1).trans (by simp [go_sem]))
    · exact (hb.cell (p := ⟨w.heap.size, 2, none⟩) hRlt).trans ((hz0 2).trans (by simp [go_sem]))
    · exact (hb.frozen (p := ⟨w.heap.size, j, none⟩) hRlt).trans ((hf0 j).trans (by simp [go_sem]))
    · exact own_belowZ (own_monoZ hO2.1 (by omega)) hb
    · exact own_belowZ (own_monoZ hO2.2 (by omega)) hb
  have hq2 : p2 ≤ p + 81 := by omega
  clear hcc hcf hz0 hf0 hO2 O1 O2 r1 r2 hr hB0 hs0 hsz1 hsz2 hRlt hid
  go_wp2_with fail
  generalize (w2.alloc (.cells #[.int .i64 (1 + v1), .slice A1 fs0.length c1, .slice A2 ns0.length c2] 42)) = W0 at hP ⊢
  generalize hRb : w.heap.size = Rb at hP ⊢
  generalize w2.heap.size = D at hP ⊢
  go_wp2_with fail
  refine (pick_gen g p2 _ (by omega) (by omega) _ hP.rd (by omega)).mono ?_
  rintro e w1 ⟨v, ⟨rfl, h3, h4⟩, q1, hq1, r1, O1⟩
  have hd1 := hP.gen r1 O1
  clear hP O1 r1
  go_upto_block 0 with (fail)
  go_cut [10] (fun s10 wx => ∃ id', DocF w wx g (p + 101) Rb D id' 3 3)
  case first =>
    have hrd := hd1.rd
    have k1 := hd1.hD
    have k2 := hd1.hDs
    have hgl := hd1.gl
    have hsl := hsf.1
    have hsl2 := hsa.1
    have b0 := hd1.c0
    have b1 := hd1.c1
    have b2 := hd1.c2
    have z0 := hd1.z 0
    have z1 := hd1.z 1
    have z2 := hd1.z 2
    by_cases hv0 : v = 0
    · go_wp2_with fail
      have hdA := hd1.below ((Below.refl _ w1).alloc (Nat.le_refl _) (.cells #[.int .i64 0, .int .i64 10000, .int .i64 9999] 3))
      refine (one_any g q1 w1.heap.size 3 [0, 10000, 9999] _ hdA.rd (by omega) rfl (by omega) (by omega) (by omega) (fun i hi => ?_)).mono ?_
      · rcases i with _ | _ | _ | i
        all_goals first | omega | simp [go_sem]
      rintro e w4 ⟨t4, ⟨rfl, ht4⟩, q4, hq4, r4, O4⟩
      have hd4 := hdA.gen r4 O4
      have c4 := hd4.c0
      have z4 := hd4.z 0
      go_wp2
      go_meet
      exact ⟨t4, q4, _, _, fs0, ns0, by omega, hd4.setI t4, hsf.up (by omega), hsa.up (by omega)⟩
    · by_cases hv1 : v = 1
      · go_wp2_with (at_builtin; refine append_v rowTFld encF_ok (by decide) rfl (.tmp 20) (.tmp 22) rfl (w.heap.size + 1) (.slice A1 fs0.length c1) fs0 (by simp [Act.eval]) (own_belowZ hd1.o1 ((Below.refl _ w1).alloc (Nat.le_refl _) (.cells #[.string ⟨#[98, 111, 100, 121]⟩, .string ⟨#[97, 103, 97, 105, 110]⟩] 117))) ⟨w1.heap.size, 0, none⟩ 1 1 [(⟨#[98, 111, 100, 121]⟩, ⟨#[97, 103, 97, 105, 110]⟩)] rfl (by simp [Act.eval]) (SrcE.lit encF_ok w1 117 #[.string ⟨#[98, 111, 100, 121]⟩, .string ⟨#[97, 103, 97, 105, 110]⟩] [(⟨#[98, 111, 100, 121]⟩, ⟨#[97, 103, 97, 105, 110]⟩)] rfl 1) (by show _ + 1 ≤ _; omega) (by omega) (by simp; omega) ?_)
        intro N hNe v7 w7 o7 g7 b7
        obtain ⟨y7, z7⟩ := (hd1.below ((Below.refl _ w1).alloc (Nat.le_refl _) (.cells #[.string ⟨#[98, 111, 100, 121]⟩, .string ⟨#[97, 103, 97, 105, 110]⟩] 117))).appF g7
        rw [← hRb] at o7
        have hN := (hd1.below ((Below.refl _ w1).alloc (Nat.le_refl _) (.cells #[.string ⟨#[98, 111, 100, 121]⟩, .string ⟨#[97, 103, 97, 105, 110]⟩] 117))).setF (fs' := N) g7 o7
        have hsN : SmF N 3 := by rw [hNe.out]; exact hsf.snoc (by show ByteArray.size ⟨#[98, 111, 100, 121]⟩ ≤ 5000; decide) (by show ByteArray.size ⟨#[97, 103, 97, 105, 110]⟩ ≤ 5000; decide)
        obtain ⟨A7, c7, rfl⟩ := own_form o7
        clear o7 g7 b7 hNe
        go_wp2
        go_meet
        exact ⟨_, q1, _, _, N, ns0, by omega, hN, hsN, hsa.up (by omega)⟩
      · by_cases hv2 : v = 2
        · have hdA := hd1.below ((Below.refl _ w1).alloc (Nat.le_refl _) (.cells #[.int .i64 (-1), .int .i64 1000000000] 3))
          have cA := hdA.c2
          have rA := hdA.rd
          have zA : ∀ i, i < 2 → (w1.alloc (.cells #[.int .i64 (-1), .int .i64 1000000000] 3)).cell? ⟨w1.heap.size, i, none⟩ = some (.int .i64 (([-1, 1000000000] : List Int).getD i 0)) := by intro i hi; (rcases i with _ | _ | i); all_goals first | omega | simp [go_sem]
          go_wp2_with fail
          go_region_law (first | (refine step_append_v rowTAtt encA_ok (by decide) rfl (.tmp 28) (.tmp 33) rfl (w.heap.size + 1) (.slice A2 ns0.length c2) ns0 (by simp [Act.eval]) (own_belowZ hd4.o2 ((Below.refl _ w4).alloc (Nat.le_refl _) (.cells #[.string ⟨#[122, 122]⟩, .int .i64 t4] 88))) ⟨w4.heap.size, 0, none⟩ 1 1 [(⟨#[122, 122]⟩, t4)] rfl (by simp [Act.eval]) (SrcE.lit encA_ok w4 88 #[.string ⟨#[122, 122]⟩, .int .i64 t4] [(⟨#[122, 122]⟩, t4)] rfl 1) (by show _ + 1 ≤ _; omega) (by omega) (by simp; omega) ?_; intro v7 w7 o7 g7 b7; obtain ⟨y7, z7⟩ := (hd4.below ((Below.refl _ w4).alloc (Nat.le_refl _) (.cells #[.string ⟨#[122, 122]⟩, .int .i64 t4] 88))).appA g7; obtain ⟨A7, c7, rfl⟩ := own_form o7) | (go_simp; go_at_call 88; refine (one_any g q1 w1.heap.size 2 [-1, 1000000000] _ (by exact rA) (by omega) rfl (by omega) (by omega) (by omega) (by exact zA)).mono ?_; rintro e w4 ⟨t4, ⟨rfl, ht4⟩, q4, hq4, r4, O4⟩; have O4b : Outer (w1.alloc (.cells #[.int .i64 (-1), .int .i64 1000000000] 3)).heap.size g (w1.alloc (.cells #[.int .i64 (-1), .int .i64 1000000000] 3)) w4 := O4; have hd4 := hdA.gen r4 O4b; have c4 := hd4.c2; have hz4 := hd4.sz; have z4 := hd4.z 2; have c5 := (hd4.below ((Below.refl _ w4).alloc (Nat.le_refl _) (.cells #[.string ⟨#[122, 122]⟩, .int .i64 t4] 88))).c2))
          all_goals (go_wp2_with fail; go_meet)
          all_goals (have hA := hd4.below ((Below.refl _ w4).alloc (Nat.le_refl _) (.cells #[.string ⟨#[122, 122]⟩, .int .i64 t4] 88)); have hN := hA.setA (ns' := ns0 ++ [(⟨#[122, 122]⟩, t4)]) g7 o7; rw [List.length_append] at hN)
          all_goals exact ⟨_, q4, _, _, fs0, ns0 ++ [(⟨#[122, 122]⟩, t4)], by omega, hN, hsf.up (by omega), hsa.snoc (by show ByteArray.size ⟨#[122, 122]⟩ ≤ 5000; decide)⟩
        · by_cases hv3 : v = 3
          · go_wp2_with fail
            go_region_law (first | (refine step_append_v rowTFld encF_ok (by decide) rfl (.tmp 39) (.tmp 43) rfl (w.heap.size + 1) (.slice A1 fs0.length c1) fs0 (by simp [Act.eval]) (own_belowZ hd4.o1 ((Below.refl _ w4).alloc (Nat.le_refl _) (.cells #[.string ⟨#[122, 101, 100]⟩, .string s4] 117))) ⟨w4.heap.size, 0, none⟩ 1 1 [(⟨#[122, 101, 100]⟩, s4)] rfl (by simp [Act.eval]) (SrcE.lit encF_ok w4 117 #[.string ⟨#[122, 101, 100]⟩, .string s4] [(⟨#[122, 101, 100]⟩, s4)] rfl 1) (by show _ + 1 ≤ _; omega) (by omega) (by simp; omega) ?_; intro v7 w7 o7 g7 b7; obtain ⟨y7, z7⟩ := (hd4.below ((Below.refl _ w4).alloc (Nat.le_refl _) (.cells #[.string ⟨#[122, 101, 100]⟩, .string s4] 117))).appF g7; obtain ⟨A7, c7, rfl⟩ := own_form o7) | (go_simp; go_at_call 115; refine (l30AnyText_gen g q1 _ (by exact hrd) (by omega)).mono ?_; rintro e w4 ⟨s4, ⟨rfl, hs4⟩, q4, hq4, r4, O4⟩; have O4b : Outer w1.heap.size g w1 w4 := O4; have hd4 := hd1.gen r4 O4b; have c4 := hd4.c1; have hz4 := hd4.sz; have z4 := hd4.z 1; have c5 := (hd4.below ((Below.refl _ w4).alloc (Nat.le_refl _) (.cells #[.string ⟨#[122, 101, 100]⟩, .string s4] 117))).c1))
            all_goals (go_wp2_with fail; go_meet)
            all_goals (have hA := hd4.below ((Below.refl _ w4).alloc (Nat.le_refl _) (.cells #[.string ⟨#[122, 101, 100]⟩, .string s4] 117)); have hN := hA.setF (fs' := fs0 ++ [(⟨#[122, 101, 100]⟩, s4)]) g7 o7; rw [List.length_append] at hN)
            all_goals exact ⟨_, q4, _, _, fs0 ++ [(⟨#[122, 101, 100]⟩, s4)], ns0, by omega, hN, hsf.snoc (by show ByteArray.size ⟨#[122, 101, 100]⟩ ≤ 5000; decide) (by show s4.size ≤ 5000; omega), hsa.up (by omega)⟩
          · go_wp2_with fail
            go_meet
            exact ⟨_, q1, _, _, fs0, ns0, by omega, hd1, hsf.up (by omega), hsa.up (by omega)⟩
  case rest =>
    obtain ⟨id, q, v1, v2, fs, ns, hq, hd, hsf, hsa⟩ := hcut
    clear hd1
    have e0 := hd.c0
    have e1 := hd.c1
    have e2 := hd.c2
    have f0 := hd.r0
    have f1 := hd.r1
    have f2 := hd.r2
    have g0 := hd.zr 0
    have g1 := hd.zr 1
    have g2 := hd.zr 2
    have hsz := hd.sz
    have k1 : Rb < D := hd.hD
    have k2 := hd.hDs
    obtain ⟨B1, d1, B2, d2, rfl, rfl, hO, hrd, hout⟩ := hd.last
    clear hd hRb
    go_wp2
    exact bodyPost_ret (v := .agg #[.int .i64 id, .slice B1 fs.length d1, .slice B2 ns.length d2]) (by simp [results, Try.results94, go_sem, *]) rfl ⟨⟨id, fs, ns⟩, B1, d1, B2, d2, ⟨rfl, hO, hsf, hsa⟩, q, by omega, hrd, hout⟩
theorem OwnE.gen {α : Type} {enc : α → List Value} {E F : Nat} {w w' : World} {base g g2 c : Nat} {L : List α} (h : OwnE enc E F w base g2 c L) (hb : g < base) (ho : Outer w.heap.size g w w') : OwnE enc E F w' base g2 c L := own_gen h hb ho
abbrev DHd := Int × (Option Addr × Nat × Nat) × (Option Addr × Nat × Nat)
def encDH (x : DHd) : List Value := [.int .i64 x.1, .slice x.2.1.1 x.2.1.2.1 x.2.1.2.2, .slice x.2.2.1 x.2.2.2.1 x.2.2.2.2]
theorem encDH_ok : Enc encDH 3 := ⟨fun _ => rfl, fun a u hu => by simp [encDH] at hu; rcases hu with rfl | rfl | rfl <;> rfl⟩
theorem infoDocD : (Try.prog.info? 42).map (fun i => (i.zero, i.size, i.bytes)) = some (some (.agg #[.int .i64 0, .slice none 0 0, .slice none 0 0]), 3, 56) := by kernel_rfl
theorem rowTDocD : RowT Try.prog 30 42 3 56 := rowT_of Try.underlying30 infoDocD rfl
theorem OwnD.kept {w w' : World} {base b2 n : Nat} {d : DocD} {A1 A2 : Option Addr} {c1 c2 : Nat} {v : Value} {xs : List Value} (h : OwnD w base d A1 c1 A2 c2) (ho : w.ownsRow b2 42 3 v n xs) (hg : w.grownBy w' v.ownBlock) : OwnD w' base d A1 c1 A2 c2 :=
  ⟨own_kept h.1 hg (own_ne h.1 ho (by decide)), own_kept h.2 hg (own_ne h.2 ho (by decide))⟩
theorem OwnD.below {w w' : World} {base : Nat} {d : DocD} {A1 A2 : Option Addr} {c1 c2 : Nat} (h : OwnD w base d A1 c1 A2 c2) (hb : Below w.heap.size w w') : OwnD w' base d A1 c1 A2 c2 := ⟨own_belowZ h.1 hb, own_belowZ h.2 hb⟩
theorem OwnD.gen {w w' : World} {base g : Nat} {d : DocD} {A1 A2 : Option Addr} {c1 c2 : Nat} (h : OwnD w base d A1 c1 A2 c2) (hb : g < base) (ho : Outer w.heap.size g w w') : OwnD w' base d A1 c1 A2 c2 := ⟨own_gen h.1 hb ho, own_gen h.2 hb ho⟩
theorem OwnD.mono {w : World} {base b2 : Nat} {d : DocD} {A1 A2 : Option Addr} {c1 c2 : Nat} (h : OwnD w base d A1 c1 A2 c2) (hb : b2 ≤ base) : OwnD w b2 d A1 c1 A2 c2 := ⟨own_monoZ h.1 hb, own_monoZ h.2 hb⟩
/-- the headers hs of documents of the call's own. -/
def HdG (w : World) (base : Nat) (hs : List DHd) (Ds : List DocD) : Prop :=
  hs.length = Ds.length ∧ ∀ i, (hi : i < Ds.length) → ∃ A1 c1 A2 c2, hs[i]? = some (Ds[i].id, (A1, Ds[i].fs.length, c1), (A2, Ds[i].ns.length, c2)) ∧ OwnD w base Ds[i] A1 c1 A2 c2
theorem HdG.nil_ (w : World) (base : Nat) : HdG w base [] [] := ⟨rfl, fun i hi => by simp at hi⟩
theorem HdG.below {w w' : World} {base : Nat} {hs : List DHd} {Ds : List DocD} (h : HdG w base hs Ds) (hb : Below w.heap.size w w') : HdG w' base hs Ds :=
  ⟨h.1, fun i hi => by obtain ⟨A1, c1, A2, c2, h1, h2⟩ := h.2 i hi; exact ⟨A1, c1, A2, c2, h1, h2.below hb⟩⟩
theorem HdG.gen {w w' : World} {base g : Nat} {hs : List DHd} {Ds : List DocD} (h : HdG w base hs Ds) (hb : g < base) (ho : Outer w.heap.size g w w') : HdG w' base hs Ds :=
  ⟨h.1, fun i hi => by obtain ⟨A1, c1, A2, c2, h1, h2⟩ := h.2 i hi; exact ⟨A1, c1, A2, c2, h1, h2.gen hb ho⟩⟩
theorem HdG.kept {w w' : World} {base b2 g c : Nat} {hs hs2 : List DHd} {Ds : List DocD} (h : HdG w base hs Ds) (ho : OwnE encDH 42 3 w b2 g c hs2) (hg : w.grownBy w' (some g)) : HdG w' base hs Ds :=
  ⟨h.1, fun i hi => by
    obtain ⟨A1, c1, A2, c2, h1, h2⟩ := h.2 i hi
    exact ⟨A1, c1, A2, c2, h1, OwnD.kept (v := .slice (some ⟨g, 0, none⟩) hs2.length c) h2 ho hg⟩⟩
theorem HdG.snoc {w : World} {base : Nat} {hs : List DHd} {Ds : List DocD} {A1 A2 : Option Addr} {c1 c2 : Nat} {d : DocD} (h : HdG w base hs Ds) (h2 : OwnD w base d A1 c1 A2 c2) : HdG w base (hs ++ [(d.id, (A1, d.fs.length, c1), (A2, d.ns.length, c2))]) (Ds ++ [d]) := by
  refine ⟨by simp [h.1], fun i hi => ?_⟩
  by_cases hlt : i < Ds.length
  · obtain ⟨B1, e1, B2, e2, h3, h4⟩ := h.2 i hlt
    have e : (Ds ++ [d])[i] = Ds[i] := List.getElem_append_left hlt
    refine ⟨B1, e1, B2, e2, ?_, ?_⟩
    · rw [List.getElem?_append_left (by rw [h.1]; exact hlt), e]; exact h3
    · rw [e]; exact h4
  · have hi2 : i = Ds.length := by simp at hi; omega
    subst hi2
    have e : (Ds ++ [d])[Ds.length] = d := by simp
    refine ⟨A1, c1, A2, c2, ?_, ?_⟩
    · rw [List.getElem?_append_right (by rw [h.1]; omega), h.1, Nat.sub_self, e]; rfl
    · rw [e]; exact h2
theorem HdG.rd {w : World} {base b2 g c : Nat} {hs : List DHd} {Ds : List DocD} (h : HdG w base hs Ds) (ho : OwnE encDH 42 3 w b2 g c hs) : RdD w (some ⟨g, 0, none⟩) Ds := fun k hk => by
  obtain ⟨A1, c1, A2, c2, h1, h2⟩ := h.2 k hk
  have hlt := (ho.lt g rfl).2
  have hkh : k < hs.length := by rw [h.1]; exact hk
  have hc : ∀ j, j < 3 → w.cell? ⟨g, k * 3 + j, none⟩ = (encDH (Ds[k].id, (A1, Ds[k].fs.length, c1), (A2, Ds[k].ns.length, c2)))[j]? := fun j hj => by
    rw [ho.cellAt (k * 3 + j) (by omega)]
    exact flat_get encDH_ok.len h1 hj
  exact ⟨g, 0, A1, c1, A2, c2, rfl, hlt, by rw [Nat.zero_add]; exact hc 0 (by omega), by rw [Nat.zero_add]; exact hc 1 (by omega), by rw [Nat.zero_add]; exact hc 2 (by omega), Rds.own h2.1, Rds.own h2.2⟩
/-- a drawn slice of documents. -/
def DrawnG (most : Nat) (w w' : World) (base gO c : Nat) (Ds : List DocD) : Prop :=
  ∃ hs, OwnE encDH 42 3 w' base gO c hs ∧ HdG w' base hs Ds ∧ Ds.length ≤ most ∧ ∀ d ∈ Ds, SmF d.fs 3 ∧ SmA d.ns 3
section
variable {w : World} {ops : Array Oper} {rest : List Oper} {o : Oper} {a : Act} {Q : Exit → Act → World → Prop}
/-- an append of one document to a slice of documents of the call's own. -/
theorem append_doc (hgd : o.guard = none) (s x : Operand) (ho : o.op = .call { callee := .builtin .append, args := #[s, x], argTypes := #[30, 30] })
    (base : Nat) (g c0 : Nat) (hs : List DHd) (Ds : List DocD) (A1 : Option Addr) (c1 : Nat) (A2 : Option Addr) (c2 : Nat) (d : DocD) (blk : Nat) (hblk : blk = w.heap.size) (hs0 : a.eval s = .slice (some ⟨g, 0, none⟩) Ds.length c0) (hx : a.eval x = .slice (some ⟨blk, 0, none⟩) 1 1)
    (own : OwnE encDH 42 3 w base g c0 hs) (hd : HdG w base hs Ds) (hL : OwnD w base d A1 c1 A2 c2) (hn : Ds.length ≤ 1000) (hbase : base ≤ w.heap.size)
    (h : ∀ N g' c' w' Ds2, Hid (Ds2 = Ds ++ [d]) → OwnE encDH 42 3 w' base g' c' N → HdG w' base N Ds2 → Below base w w' → wpList Try.prog ops Q rest (a.put o.dst (.slice (some ⟨g', 0, none⟩) Ds2.length c')) w') :
    wpList Try.prog ops Q (o :: rest) a (w.alloc (.cells #[.int .i64 d.id, .slice A1 d.fs.length c1, .slice A2 d.ns.length c2] 42)) := by
  subst hblk
  have hlh := hd.1
  have own2 : OwnE encDH 42 3 (w.alloc (.cells #[.int .i64 d.id, .slice A1 d.fs.length c1, .slice A2 d.ns.length c2] 42)) base g c0 hs := own.alloc _
  have hd2 := hd.below (w' := w.alloc (.cells #[.int .i64 d.id, .slice A1 d.fs.length c1, .slice A2 d.ns.length c2] 42)) (by (repeat' (first | exact Below.refl _ _ | apply Below.alloc | apply Below.setCell | apply Below.drew | apply below_draws)) <;> (first | omega | (simp <;> omega)))
  have hL2 : OwnD (w.alloc (.cells #[.int .i64 d.id, .slice A1 d.fs.length c1, .slice A2 d.ns.length c2] 42)) base d A1 c1 A2 c2 := hL.below (by (repeat' (first | exact Below.refl _ _ | apply Below.alloc | apply Below.setCell | apply Below.drew | apply below_draws)) <;> (first | omega | (simp <;> omega)))
  refine append_rec rowTDocD encDH_ok (by decide) hgd s x ho base g _ hs (by rw [hlh]; exact hs0) own2 _ _ _ [(d.id, (A1, d.fs.length, c1), (A2, d.ns.length, c2))] rfl hx (SrcE.lit encDH_ok w 42 _ [(d.id, (A1, d.fs.length, c1), (A2, d.ns.length, c2))] rfl 1) (by simp; omega) (by omega) (by simp; omega) ?_
  intro N hN g' c' w' h1 h2 h3 h4
  have h5 := (hd2.snoc hL2)
  rw [← hN.out] at h5
  have hl5 := h5.1
  rw [hl5]
  refine h N g' c' w' _ rfl h1 ?_ (Below.trans (by (repeat' (first | exact Below.refl _ _ | apply Below.alloc | apply Below.setCell | apply Below.drew | apply below_draws)) <;> (first | omega | (simp <;> omega))) h4)
  have h6 := hd2.kept own2 h2
  have hL6 : OwnD w' base d A1 c1 A2 c2 := OwnD.kept (v := .slice (some ⟨g, 0, none⟩) hs.length c0) hL2 own2 h2
  have := h6.snoc hL6
  rwa [← hN.out] at this
end
theorem allD_snoc {Ds : List DocD} {d : DocD} {n m : Nat} (h : Hid (∀ d ∈ Ds, SmF d.fs n ∧ SmA d.ns m)) (h1 : SmF d.fs n) (h2 : SmA d.ns m) : Hid (∀ x ∈ Ds ++ [d], SmF x.fs n ∧ SmA x.ns m) := fun M hM => by
  rcases List.mem_append.1 hM with hM | hM
  · exact h.out M hM
  · rw [List.mem_singleton] at hM; subst hM; exact ⟨h1, h2⟩
theorem l30Docs_gen (g p : Nat) (w : World) (hr : Rd w g p) (hp : p + 700 < 1000000) :
    Calls Try.prog 93 #[.pointer (some ⟨g, 0, none⟩)] w fun e w' => ∃ (gO c : Nat) (Ds : List DocD), (e = .returned (.slice (some ⟨gO, 0, none⟩) Ds.length c) ∧ DrawnG 5 w w' w.heap.size gO c Ds) ∧ Gen w w' g p 410 := by
  have hg := hr.lt
  go_enter Try.func93, Try.ntmps93
  go_wp2_with fail
  have r0 : Rd (w.alloc (.cells #[] 42)) g p := hr.below (by (repeat' (first | exact Below.refl _ _ | apply Below.alloc | apply Below.setCell | apply Below.drew | apply below_draws)) <;> (first | omega | (simp <;> omega)))
  have own0 := ownE_made (enc := encDH) (F := 3) 42 w w.heap.size (Nat.le_refl _)
  have hs0 : w.heap.size + 1 ≤ (w.alloc (.cells #[] 42)).heap.size := by simp
  have hO0 : Outer w.heap.size g w (w.alloc (.cells #[] 42)) := Outer.of (by (repeat' (first | exact Below.refl _ _ | apply Below.alloc | apply Below.setCell | apply Below.drew | apply below_draws)) <;> (first | omega | (simp <;> omega)))
  generalize (w.alloc (.cells #[] 42)) = W0 at r0 own0 hs0 hO0 ⊢
  refine (pick_gen g p _ (by omega) (by omega) _ r0 (by omega)).mono ?_
  rintro e w1 ⟨v1, ⟨rfl, h1, h2⟩, p1, hp1, r1, o1⟩
  obtain ⟨n, rfl⟩ := Int.eq_ofNat_of_zero_le h1
  have own1 := own0.gen hg o1
  have hsz1 := o1.2.1
  have O1 := hO0.trans (o1.mono hO0.2.1)
  clear own0 o1 r0 hr hO0
  go_wp2_with fail
  go_loopw [3, 4, 5] (fun v x k wr => ∃ (m q gO c : Nat) (y : Int) (hs : List DHd) (Ds : List DocD), k = .int .i64 (m : Int) ∧ x = .int .i64 y ∧ v = .slice (some ⟨gO, 0, none⟩) Ds.length c ∧ Ds.length + m ≤ 5 ∧ 0 ≤ y ∧ y ≤ 10 * Ds.length ∧ q ≤ p + 1 + 81 * Ds.length ∧ Hid (∀ d ∈ Ds, SmF d.fs 3 ∧ SmA d.ns 3) ∧ OwnE encDH 42 3 wr w.heap.size gO c hs ∧ HdG wr w.heap.size hs Ds ∧ Rd wr g q ∧ w.heap.size + 1 ≤ wr.heap.size ∧ Outer w.heap.size g w wr) (fun _ _ k _ => (intOf k).toNat)
  case atStart => exact ⟨n, p1, _, _, 0, [], [], rfl, rfl, rfl, by show 0 + n ≤ 5; omega, by omega, by show (0 : Int) ≤ 10 * ((0 : Nat) : Int); omega, by show p1 ≤ p + 1 + 81 * 0; omega, fun d hd => by simp at hd, own1, HdG.nil_ _ _, r1, by omega, O1⟩
  case round =>
    obtain ⟨m, q, gO, c, y, hs, Ds, rfl, rfl, rfl, hlm, hy0, hy1, hq, hDs, own, hd, r, hsz, hO⟩ := hrel
    have hrl := r.lt
    rcases Nat.eq_zero_or_pos m with rfl | hm0
    · go_wp2
      go_ret
      exact ⟨gO, c, Ds, ⟨rfl, hs, own, hd, by omega, hDs.out⟩, q, by omega, r, hO⟩
    · obtain ⟨m, rfl⟩ : ∃ k, m = k + 1 := ⟨m - 1, by omega⟩
      go_wp2_with fail
      refine (pick_gen g q _ (by omega) (by omega) _ r (by omega)).mono ?_
      rintro e w3 ⟨v3, ⟨rfl, h3, h4⟩, p3, hp3, r3, o3⟩
      replace own := own.gen hg o3
      replace hd := hd.gen hg o3
      replace hO := hO.trans (o3.mono (by omega))
      have hsz3 := o3.2.1
      clear o3 r
      go_wp2_with fail
      refine (l30Doc_gen g p3 _ _ r3 (by omega)).mono ?_
      rintro e w4 ⟨d, A1, c1, A2, c2, ⟨rfl, hid, hO4, hsf, hsa⟩, p4, hp4, r4, o4⟩
      rw [← hid]
      have hid1 : 0 ≤ d.id := by omega
      have hid2 : d.id ≤ y + 1 + v3 := by omega
      clear hid
      replace own := own.gen hg o4
      replace hd := hd.gen hg o4
      replace hO := hO.trans (o4.mono (by omega))
      have hsz4 := o4.2.1
      replace hO4 := hO4.mono (b2 := w.heap.size) (by omega)
      clear o4 r3
      go_wp2_with (at_builtin; refine append_doc rfl _ _ rfl w.heap.size gO c hs Ds A1 c1 A2 c2 d _ rfl rfl rfl own hd hO4 (by omega) (by omega) ?_)
      intro N g7 c7 w7 Ds2 hE own7 hd7 hb7
      have hO7 := hO.trans (Outer.of hb7)
      have r7 := r4.below (hb7.mono hg)
      have hsz7 := hb7.size
      have hDs7 := allD_snoc hDs (hsf.up (show 2 ≤ 3 by omega)) (hsa.up (show 2 ≤ 3 by omega))
      rw [← hE.out] at hDs7
      have hLl : Ds2.length = Ds.length + 1 := by rw [hE.out]; simp
      have hLe : Ds2.length + m ≤ 5 := by omega
      have hLq : p4 ≤ p + 1 + 81 * Ds2.length := by omega
      have hLy : d.id ≤ 10 * Ds2.length := by omega
      clear hE hd own hO hb7 r4 hO4 hDs hsf hsa hLl
      go_wp2
      go_roundw
      case rel => exact ⟨m, p4, g7, c7, d.id, N, Ds2, by go_num, rfl, rfl, hLe, hid1, hLy, hLq, hDs7, own7, hd7, r7, by omega, hO7⟩
      case measure => simp [intOf]
theorem l30AnyDocs_gen (g p : Nat) (w : World) (hr : Rd w g p) (hp : p + 1000 < 1000000) :
    Calls Try.prog 65 #[.pointer (some ⟨g, 0, none⟩)] w fun e w' => ∃ (gO c : Nat) (Ds : List DocD), (e = .returned (.slice (some ⟨gO, 0, none⟩) Ds.length c) ∧ DrawnG 6 w w' w.heap.size gO c Ds) ∧ Gen w w' g p 600 := by
  have hg := hr.lt
  go_enter Try.func65, Try.ntmps65
  go_wp2_with fail
  refine (l30Docs_gen g p _ hr (by omega)).mono ?_
  rintro e w1 ⟨gO, c, Ds, ⟨rfl, hs, own, hd, hl, hDs⟩, p1, hp1, r1, o1⟩
  replace hDs : Hid (∀ d ∈ Ds, SmF d.fs 3 ∧ SmA d.ns 3) := hDs
  have hsz1 := o1.2.1
  go_wp2_with fail
  refine (pick_gen g p1 _ (by omega) (by omega) _ r1 (by omega)).mono ?_
  rintro e w2 ⟨v2, ⟨rfl, h1, h2⟩, p2, hp2, r2, o2⟩
  replace own := own.gen hg o2
  replace hd := hd.gen hg o2
  have hO := o1.trans (o2.mono hsz1)
  have hsz2 := o2.2.1
  clear o1 o2 r1 hr
  by_cases hv0 : v2 = 0
  · subst hv0
    go_wp2_with fail
    refine (l30AnyDoc_gen g p2 _ r2 (by omega)).mono ?_
    rintro e w4 ⟨d, A1, c1, A2, c2, ⟨rfl, hO4, hsf, hsa⟩, p4, hp4, r4, o4⟩
    replace own := own.gen hg o4
    replace hd := hd.gen hg o4
    replace hO := hO.trans (o4.mono (by omega))
    have hsz4 := o4.2.1
    replace hO4 := hO4.mono (b2 := w.heap.size) (by omega)
    clear o4 r2
    go_wp2_with (at_builtin; refine append_doc rfl _ _ rfl w.heap.size gO c hs Ds A1 c1 A2 c2 d _ rfl rfl rfl own hd hO4 (by omega) (by omega) ?_)
    intro N g7 c7 w7 Ds2 hE own7 hd7 hb7
    have hO7 := hO.trans (Outer.of hb7)
    have r7 := r4.below (hb7.mono hg)
    have hDs7 := allD_snoc hDs hsf hsa
    rw [← hE.out] at hDs7
    have hLl : Ds2.length ≤ 6 := by rw [hE.out]; simp; omega
    clear hE hd own hO hb7 r4 hO4 hDs hsf hsa
    go_wp2
    go_ret
    exact ⟨g7, c7, Ds2, ⟨rfl, N, own7, hd7, hLl, hDs7.out⟩, p4, by omega, r7, hO7⟩
  · go_wp2
    go_ret
    exact ⟨gO, c, Ds, ⟨rfl, hs, own, hd, by omega, hDs.out⟩, p2, by omega, r2, hO⟩
end Go.Proofs.Yteomiaffdbbpoaa
