/-
  What is drawn of documents: contract of l30Doc.
-/
import Derived.Test.YteomiaffdbbpoaaDrawText
import Derived.Test.YteomiaffdbbpoaaDrawInts
import Derived.Test.YteomiaffdbbpoaaExactDocs
import Derived.Deep.RegionLaw
namespace Go.Proofs.Yteomiaffdbbpoaa
open Go.RowKit
set_option linter.unusedVariables false

section
variable {α : Type} {enc : α → List Value} {F : Nat} {P : Program} {w : World} {ops : Array Oper} {o : Oper} {a : Act} {Q : Exit → Act → World → Prop}
/-- an append to a row of the call's own, nil or not, in a region that draws its order. -/
theorem step_append_v {ST E : TypeId} {B : Nat} {K : Act → World → Prop} {EE : Prop} (T : RowT P ST E F B) (he : Enc enc F) (hF : 0 < F) (hgd : o.guard = none) (s x : Operand) (ho : o.op = .call { callee := .builtin .append, args := #[s, x], argTypes := #[ST, ST] })
    (base : Nat) (v : Value) (L : List α) (hs : a.eval s = v) (hown : w.ownsRow base E F v L.length (L.flatMap enc))
    (ad : Addr) (m c : Nat) (M : List α) (hm : m = M.length) (hx : a.eval x = .slice (some ad) m c) (hM : SrcE enc F w (some ad) c M) (hn : L.length + M.length ≤ 16777216) (hB : B ≤ 4096) (hbase : base ≤ w.heap.size)
    (h : ∀ v' w', w'.ownsRow base E F v' (L ++ M).length ((L ++ M).flatMap enc) → w.grownBy w' v.ownBlock → Below base w w' → K (a.put o.dst v') w') :
    if Region.wanted o (yielded ops a.tmps) = true then Oper.wp P o a w K Q else EE := by
  subst hm
  obtain ⟨i0, z, hi, hz0, hz1, hz2, hzs⟩ := T.info
  have hnews : ∀ j u, (M.flatMap enc)[j]? = some u → w.cell? (ad.add j) = some u := by
    intro j u hu
    have hj : 0 < M.length := by
      have := (List.getElem?_eq_some_iff.1 hu).1
      rw [he.flat] at this
      rcases Nat.eq_zero_or_pos M.length with h0 | h0
      · rw [h0] at this; omega
      · exact h0
    obtain ⟨b, off, e, _, hc⟩ := hM.1.2 hj
    simp only [Option.some.injEq] at e
    subst e
    have e2 : (Addr.add ⟨b, off, none⟩ j) = ⟨b, off + j, none⟩ := by
      unfold Addr.add; split
      · rename_i h; subst h; rfl
      · rfl
    rw [e2]; exact hc j u hu
  obtain ⟨v', w', hrun, h1, h2, h3, h4⟩ := run_append_own_at (P := P) w base ST o.type E i0 z F B T.und hi hz0 hz1 hz2 hzs hF v _ _ hown ad M.length c (M.flatMap enc) (he.flat M) hnews (he.flat_one M) (by unfold maxLen; omega) (Nat.le_trans (Nat.mul_le_mul hn hB) (by omega)) hbase
  have h1' : w'.ownsRow base E F v' (L ++ M).length ((L ++ M).flatMap enc) := by rw [List.length_append, List.flatMap_append]; exact h1
  have hw : Region.wanted o (yielded ops a.tmps) = true := by simp [Region.wanted, hgd]
  rw [if_pos hw]
  unfold Oper.wp execOp
  simp only [ho, resolve, invoke, builtin, Sem.run_bind, Sem.run_pure, Result.andThen_ok, List.map_toArray, List.map_cons, List.map_nil, hs, hx, hrun]
  exact h v' w' h1' h2 ((Below.refl base w).grown h2 hbase (fun k hk => (hown.lt k hk).1))
/-- the same ahead of further operations. -/
theorem append_v {rest : List Oper} {ST E : TypeId} {B : Nat} (T : RowT P ST E F B) (he : Enc enc F) (hF : 0 < F) (hgd : o.guard = none) (s x : Operand) (ho : o.op = .call { callee := .builtin .append, args := #[s, x], argTypes := #[ST, ST] })
    (base : Nat) (v : Value) (L : List α) (hs : a.eval s = v) (hown : w.ownsRow base E F v L.length (L.flatMap enc))
    (ad : Addr) (m c : Nat) (M : List α) (hm : m = M.length) (hx : a.eval x = .slice (some ad) m c) (hM : SrcE enc F w (some ad) c M) (hn : L.length + M.length ≤ 16777216) (hB : B ≤ 4096) (hbase : base ≤ w.heap.size)
    (h : ∀ N, Hid (N = L ++ M) → ∀ v' w', w'.ownsRow base E F v' N.length (N.flatMap enc) → w.grownBy w' v.ownBlock → Below base w w' → wpList P ops Q rest (a.put o.dst v') w') : wpList P ops Q (o :: rest) a w := by
  subst hm
  obtain ⟨i0, z, hi, hz0, hz1, hz2, hzs⟩ := T.info
  refine wpList_append_own_at _ hgd s x ST ho base E i0 z F B T.und hi hz0 hz1 hz2 hzs hF _ _ _ hs hown ad M.length c (M.flatMap enc) hx (he.flat M) ?_ (he.flat_one M) (by unfold maxLen; omega) (Nat.le_trans (Nat.mul_le_mul hn hB) (by omega)) hbase ?_
  · intro j u hu
    have hj : 0 < M.length := by
      have := (List.getElem?_eq_some_iff.1 hu).1
      rw [he.flat] at this
      rcases Nat.eq_zero_or_pos M.length with h0 | h0
      · rw [h0] at this; omega
      · exact h0
    obtain ⟨b, off, e, _, hc⟩ := hM.1.2 hj
    simp only [Option.some.injEq] at e
    subst e
    have e2 : (Addr.add ⟨b, off, none⟩ j) = ⟨b, off + j, none⟩ := by
      unfold Addr.add; split
      · rename_i h; subst h; rfl
      · rfl
    rw [e2]; exact hc j u hu
  · intro v' w' h1 h2 h3 h4
    have h1' : w'.ownsRow base E F v' (L ++ M).length ((L ++ M).flatMap enc) := by rw [List.length_append, List.flatMap_append]; exact h1
    exact h _ rfl v' w' h1' h2 ((Below.refl base w).grown h2 hbase (fun k hk => (hown.lt k hk).1))
end
def SmF (fs : List FldD) (n : Nat) : Prop := fs.length ≤ n ∧ ∀ f ∈ fs, f.1.size ≤ 5000 ∧ f.2.size ≤ 5000
def SmA (ns : List AttD) (n : Nat) : Prop := ns.length ≤ n ∧ ∀ a ∈ ns, a.1.size ≤ 5000
theorem SmF.snoc {fs : List FldD} {n : Nat} (h : SmF fs n) {f : FldD} (h1 : f.1.size ≤ 5000) (h2 : f.2.size ≤ 5000) : SmF (fs ++ [f]) (n + 1) := by
  refine ⟨by have := h.1; simp; omega, fun x hx => ?_⟩
  rcases List.mem_append.1 hx with hx | hx
  · exact h.2 x hx
  · simp at hx; rw [hx]; exact ⟨h1, h2⟩
theorem SmA.snoc {ns : List AttD} {n : Nat} (h : SmA ns n) {a : AttD} (h1 : a.1.size ≤ 5000) : SmA (ns ++ [a]) (n + 1) := by
  refine ⟨by have := h.1; simp; omega, fun x hx => ?_⟩
  rcases List.mem_append.1 hx with hx | hx
  · exact h.2 x hx
  · simp at hx; rw [hx]; exact h1
theorem SmF.up {fs : List FldD} {n m : Nat} (h : SmF fs n) (hm : n ≤ m) : SmF fs m := ⟨Nat.le_trans h.1 hm, h.2⟩
theorem SmA.up {ns : List AttD} {n m : Nat} (h : SmA ns n) (hm : n ≤ m) : SmA ns m := ⟨Nat.le_trans h.1 hm, h.2⟩
theorem sm_doc {id : Int} {fs : List FldD} {ns : List AttD} {n m : Nat} (h1 : SmF fs n) (h2 : SmA ns m) (hn : n ≤ 100) (hm : m ≤ 100) : SmD ⟨id, fs, ns⟩ :=
  ⟨by have := h1.1; show fs.length ≤ _; omega, by have := h2.1; show ns.length ≤ _; omega, fun f hf => by have := (h1.2 f hf).1; omega, fun f hf => by have := (h1.2 f hf).2; omega, fun a ha => by have := h2.2 a ha; omega⟩
def OwnD (w : World) (base : Nat) (d : DocD) (A1 : Option Addr) (c1 : Nat) (A2 : Option Addr) (c2 : Nat) : Prop :=
  w.ownsRow base 117 2 (.slice A1 d.fs.length c1) d.fs.length (d.fs.flatMap encF) ∧ w.ownsRow base 88 2 (.slice A2 d.ns.length c2) d.ns.length (d.ns.flatMap encA)
/-- the block of a row is not block D, which holds cells of another type. -/
def TypAt (w : World) (D : Nat) : Prop := ∃ cs, w.heap[D]? = some (.cells cs 42 (0, 0))
theorem typAt_new (w : World) (cs : Array Value) (D : Nat) (hD : D = w.heap.size) : TypAt (w.alloc (.cells cs 42)) D := by subst hD; exact ⟨_, heap_alloc_new _ _⟩
theorem ne_own {w : World} {D base E F n : Nat} {v : Value} {xs : List Value} (h : w.ownsRow base E F v n xs) (hD : TypAt w D) (hne : E ≠ 42) : ∀ k, v.ownBlock = some k → k ≠ D := by
  intro k hk e
  subst e
  obtain ⟨cs, hD⟩ := hD
  rcases h.2 with ⟨rfl, _⟩ | ⟨g, cap, cur, rfl, _, hh, _⟩
  · simp [Value.ownBlock] at hk
  · simp [Value.ownBlock] at hk
    subst hk
    rw [hD] at hh
    injection hh with hh
    injection hh with _ hh
    exact hne hh.symm
theorem grown_at {w w' : World} {D base E F n : Nat} {v : Value} {xs : List Value} (h : w.ownsRow base E F v n xs) (hg : w.grownBy w' v.ownBlock) (hD : TypAt w D) (hlt : D < w.heap.size) (hne : E ≠ 42) : w'.heap[D]? = w.heap[D]? :=
  hg.block D hlt (fun e => ne_own h hD hne D e.symm rfl)
/-- a document in the making: block D holds it, block Rb waits for the result; its rows lie above. -/
structure DocP (w wx : World) (g q Rb D : Nat) (id : Int) (v1 v2 : Value) (fs : List FldD) (ns : List AttD) : Prop where
  rd : Rd wx g q
  out : Outer w.heap.size g w wx
  gl : g < w.heap.size
  hR : Rb = w.heap.size
  hD : Rb < D
  hDs : D < wx.heap.size
  hDt : TypAt wx D
  c0 : wx.cell? ⟨D, 0, none⟩ = some (.int .i64 id)
  c1 : wx.cell? ⟨D, 1, none⟩ = some v1
  c2 : wx.cell? ⟨D, 2, none⟩ = some v2
  z : ∀ j, wx.frozen? ⟨D, j, none⟩ = false
  r0 : wx.cell? ⟨Rb, 0, none⟩ = some (.int .i64 0)
  r1 : wx.cell? ⟨Rb, 1, none⟩ = some (.slice none 0 0)
  r2 : wx.cell? ⟨Rb, 2, none⟩ = some (.slice none 0 0)
  zr : ∀ j, wx.frozen? ⟨Rb, j, none⟩ = false
  o1 : wx.ownsRow (w.heap.size + 1) 117 2 v1 fs.length (fs.flatMap encF)
  o2 : wx.ownsRow (w.heap.size + 1) 88 2 v2 ns.length (ns.flatMap encA)
section
variable {w wx w' : World} {g q q' Rb D : Nat} {id : Int} {v1 v2 : Value} {fs : List FldD} {ns : List AttD}
theorem DocP.sz (h : DocP w wx g q Rb D id v1 v2 fs ns) : w.heap.size + 2 ≤ wx.heap.size := by
  have h1 := h.hR
  have h2 := h.hD
  have h3 := h.hDs
  omega
theorem DocP.gen (h : DocP w wx g q Rb D id v1 v2 fs ns) (hr : Rd w' g q') (ho : Outer wx.heap.size g wx w') : DocP w w' g q' Rb D id v1 v2 fs ns := by
  have hg := h.gl
  have hR := h.hR
  have hD := h.hD
  have hDs := h.hDs
  have hs := h.sz
  obtain ⟨hc, hf⟩ := ho.cells
  obtain ⟨cs, hcs⟩ := h.hDt
  exact ⟨hr, h.out.trans (ho.mono h.out.2.1), hg, hR, hD, Nat.lt_of_lt_of_le hDs ho.2.1, ⟨cs, (ho.2.2 D hDs (by omega)).trans hcs⟩, (hc _ _ (by omega) (by omega)).trans h.c0, (hc _ _ (by omega) (by omega)).trans h.c1, (hc _ _ (by omega) (by omega)).trans h.c2, fun j => (hf _ _ (by omega) (by omega)).trans (h.z j),
    (hc _ _ (by omega) (by omega)).trans h.r0, (hc _ _ (by omega) (by omega)).trans h.r1, (hc _ _ (by omega) (by omega)).trans h.r2, fun j => (hf _ _ (by omega) (by omega)).trans (h.zr j), own_gen h.o1 (by omega) ho, own_gen h.o2 (by omega) ho⟩
theorem DocP.below (h : DocP w wx g q Rb D id v1 v2 fs ns) (hb : Below wx.heap.size wx w') : DocP w w' g q Rb D id v1 v2 fs ns :=
  h.gen (h.rd.below (hb.mono (by have := h.rd.lt; omega))) (Outer.of hb)
/-- after an append to a row the document's own cell is as before. -/
theorem DocP.appF (h : DocP w wx g q Rb D id v1 v2 fs ns) (hg7 : wx.grownBy w' v1.ownBlock) : w'.cell? ⟨D, 1, none⟩ = some v1 ∧ w'.frozen? ⟨D, 1, none⟩ = false := by
  have e := grown_at h.o1 hg7 h.hDt h.hDs (by decide)
  exact ⟨(World.cell?_of_block (w := wx) (a := ⟨D, 1, none⟩) e).trans h.c1, (World.frozen?_of_block (w := wx) (a := ⟨D, 1, none⟩) e).trans (h.z 1)⟩
theorem DocP.appA (h : DocP w wx g q Rb D id v1 v2 fs ns) (hg7 : wx.grownBy w' v2.ownBlock) : w'.cell? ⟨D, 2, none⟩ = some v2 ∧ w'.frozen? ⟨D, 2, none⟩ = false := by
  have e := grown_at h.o2 hg7 h.hDt h.hDs (by decide)
  exact ⟨(World.cell?_of_block (w := wx) (a := ⟨D, 2, none⟩) e).trans h.c2, (World.frozen?_of_block (w := wx) (a := ⟨D, 2, none⟩) e).trans (h.z 2)⟩
/-- what a store into the document's own block leaves. -/
theorem DocP.setF {v1' : Value} {fs' : List FldD} (h : DocP w wx g q Rb D id v1 v2 fs ns) (hg7 : wx.grownBy w' v1.ownBlock) (ho : w'.ownsRow (w.heap.size + 1) 117 2 v1' fs'.length (fs'.flatMap encF)) :
    DocP w (w'.setCell ⟨D, 1, none⟩ v1') g q Rb D id v1' v2 fs' ns := by
  have hg := h.gl
  have hR := h.hR
  have hD := h.hD
  have hDs := h.hDs
  have hs := h.sz
  have eD := grown_at h.o1 hg7 h.hDt h.hDs (by decide)
  have hb : Below (w.heap.size + 1) wx w' := (Below.refl _ _).grown hg7 (by omega) (fun k hk => (h.o1.lt k hk).1)
  have hz : ZoneR D (D + 1) w' (w'.setCell ⟨D, 1, none⟩ v1') := ZoneR.setCell w' v1' (Nat.le_refl _) (by omega)
  have hb2 : Below (w.heap.size + 1) wx (w'.setCell ⟨D, 1, none⟩ v1') := (hb).setCell (p := ⟨D, 1, none⟩) (by show _ ≤ D; omega) v1'
  have cD : ∀ j, w'.cell? ⟨D, j, none⟩ = wx.cell? ⟨D, j, none⟩ := fun j => World.cell?_of_block (w := wx) (a := ⟨D, j, none⟩) eD
  have hDt' : TypAt w' D := by obtain ⟨cs, hcs⟩ := h.hDt; exact ⟨cs, eD.trans hcs⟩
  have o2' : w'.ownsRow (w.heap.size + 1) 88 2 v2 ns.length (ns.flatMap encA) := own_kept h.o2 hg7 (own_ne h.o2 h.o1 (by decide))
  refine ⟨h.rd.below (hb2.mono (by omega)), h.out.trans (Outer.of (hb2.mono (by omega))), hg, hR, hD, Nat.lt_of_lt_of_le hDs (Nat.le_trans hb.size (by simp [World.setCell])), ?_, ?_, ?_, ?_, fun j => ?_, ?_, ?_, ?_, fun j => ?_, ?_, ?_⟩
  · obtain ⟨cs, hcs⟩ := hDt'; obtain ⟨cs', hcs', _⟩ := heap_setCell_at w' D 1 v1' cs _ hcs; exact ⟨cs', hcs'⟩
  · rw [World.cell?_setCell_other _ _ _ _ (by intro h; injection h; omega)]; exact (cD 0).trans h.c0
  · exact World.cell?_setCell_same _ _ _ (by rw [cD 1, h.c1])
  · rw [World.cell?_setCell_other _ _ _ _ (by intro h; injection h; omega)]; exact (cD 2).trans h.c2
  · rw [World.frozen?_setCell]; exact (World.frozen?_of_block (w := wx) (a := ⟨D, j, none⟩) eD).trans (h.z j)
  · exact (hb2.cell (p := ⟨Rb, 0, none⟩) (by show Rb < _; omega)).trans h.r0
  · exact (hb2.cell (p := ⟨Rb, 1, none⟩) (by show Rb < _; omega)).trans h.r1
  · exact (hb2.cell (p := ⟨Rb, 2, none⟩) (by show Rb < _; omega)).trans h.r2
  · exact (hb2.frozen (p := ⟨Rb, j, none⟩) (by show Rb < _; omega)).trans (h.zr j)
  · exact own_zoneR ho hz (fun k hk => by have := ne_own ho hDt' (by decide) k hk; omega)
  · exact own_zoneR o2' hz (fun k hk => by have := ne_own o2' hDt' (by decide) k hk; omega)
theorem DocP.setA {v2' : Value} {ns' : List AttD} (h : DocP w wx g q Rb D id v1 v2 fs ns) (hg7 : wx.grownBy w' v2.ownBlock) (ho : w'.ownsRow (w.heap.size + 1) 88 2 v2' ns'.length (ns'.flatMap encA)) :
    DocP w (w'.setCell ⟨D, 2, none⟩ v2') g q Rb D id v1 v2' fs ns' := by
  have hg := h.gl
  have hR := h.hR
  have hD := h.hD
  have hDs := h.hDs
  have hs := h.sz
  have eD := grown_at h.o2 hg7 h.hDt h.hDs (by decide)
  have hb : Below (w.heap.size + 1) wx w' := (Below.refl _ _).grown hg7 (by omega) (fun k hk => (h.o2.lt k hk).1)
  have hz : ZoneR D (D + 1) w' (w'.setCell ⟨D, 2, none⟩ v2') := ZoneR.setCell w' v2' (Nat.le_refl _) (by omega)
  have hb2 : Below (w.heap.size + 1) wx (w'.setCell ⟨D, 2, none⟩ v2') := (hb).setCell (p := ⟨D, 2, none⟩) (by show _ ≤ D; omega) v2'
  have cD : ∀ j, w'.cell? ⟨D, j, none⟩ = wx.cell? ⟨D, j, none⟩ := fun j => World.cell?_of_block (w := wx) (a := ⟨D, j, none⟩) eD
  have hDt' : TypAt w' D := by obtain ⟨cs, hcs⟩ := h.hDt; exact ⟨cs, eD.trans hcs⟩
  have o1' : w'.ownsRow (w.heap.size + 1) 117 2 v1 fs.length (fs.flatMap encF) := own_kept h.o1 hg7 (own_ne h.o1 h.o2 (by decide))
  refine ⟨h.rd.below (hb2.mono (by omega)), h.out.trans (Outer.of (hb2.mono (by omega))), hg, hR, hD, Nat.lt_of_lt_of_le hDs (Nat.le_trans hb.size (by simp [World.setCell])), ?_, ?_, ?_, ?_, fun j => ?_, ?_, ?_, ?_, fun j => ?_, ?_, ?_⟩
  · obtain ⟨cs, hcs⟩ := hDt'; obtain ⟨cs', hcs', _⟩ := heap_setCell_at w' D 2 v2' cs _ hcs; exact ⟨cs', hcs'⟩
  · rw [World.cell?_setCell_other _ _ _ _ (by intro h; injection h; omega)]; exact (cD 0).trans h.c0
  · rw [World.cell?_setCell_other _ _ _ _ (by intro h; injection h; omega)]; exact (cD 1).trans h.c1
  · exact World.cell?_setCell_same _ _ _ (by rw [cD 2, h.c2])
  · rw [World.frozen?_setCell]; exact (World.frozen?_of_block (w := wx) (a := ⟨D, j, none⟩) eD).trans (h.z j)
  · exact (hb2.cell (p := ⟨Rb, 0, none⟩) (by show Rb < _; omega)).trans h.r0
  · exact (hb2.cell (p := ⟨Rb, 1, none⟩) (by show Rb < _; omega)).trans h.r1
  · exact (hb2.cell (p := ⟨Rb, 2, none⟩) (by show Rb < _; omega)).trans h.r2
  · exact (hb2.frozen (p := ⟨Rb, j, none⟩) (by show Rb < _; omega)).trans (h.zr j)
  · exact own_zoneR o1' hz (fun k hk => by have := ne_own o1' hDt' (by decide) k hk; omega)
  · exact own_zoneR ho hz (fun k hk => by have := ne_own ho hDt' (by decide) k hk; omega)
/-- what a store of the document's number leaves. -/
theorem DocP.setI (h : DocP w wx g q Rb D id v1 v2 fs ns) (id' : Int) : DocP w (wx.setCell ⟨D, 0, none⟩ (.int .i64 id')) g q Rb D id' v1 v2 fs ns := by
  have hg := h.gl
  have hR := h.hR
  have hD := h.hD
  have hDs := h.hDs
  have hs := h.sz
  have hz : ZoneR D (D + 1) wx (wx.setCell ⟨D, 0, none⟩ (.int .i64 id')) := ZoneR.setCell wx _ (Nat.le_refl _) (by omega)
  have hb2 : Below (w.heap.size + 1) wx (wx.setCell ⟨D, 0, none⟩ (.int .i64 id')) := (Below.refl _ _).setCell (p := ⟨D, 0, none⟩) (by show _ ≤ D; omega) _
  have hDt' := h.hDt
  refine ⟨h.rd.below (hb2.mono (by omega)), h.out.trans (Outer.of (hb2.mono (by omega))), hg, hR, hD, by simpa [World.setCell] using hDs, ?_, ?_, ?_, ?_, fun j => ?_, ?_, ?_, ?_, fun j => ?_, ?_, ?_⟩
  · obtain ⟨cs, hcs⟩ := hDt'; obtain ⟨cs', hcs', _⟩ := heap_setCell_at wx D 0 (.int .i64 id') cs _ hcs; exact ⟨cs', hcs'⟩
  · exact World.cell?_setCell_same _ _ _ (by rw [h.c0])
  · rw [World.cell?_setCell_other _ _ _ _ (by intro h; injection h; omega)]; exact h.c1
  · rw [World.cell?_setCell_other _ _ _ _ (by intro h; injection h; omega)]; exact h.c2
  · rw [World.frozen?_setCell]; exact h.z j
  · exact (hb2.cell (p := ⟨Rb, 0, none⟩) (by show Rb < _; omega)).trans h.r0
  · exact (hb2.cell (p := ⟨Rb, 1, none⟩) (by show Rb < _; omega)).trans h.r1
  · exact (hb2.cell (p := ⟨Rb, 2, none⟩) (by show Rb < _; omega)).trans h.r2
  · exact (hb2.frozen (p := ⟨Rb, j, none⟩) (by show Rb < _; omega)).trans (h.zr j)
  · exact own_zoneR h.o1 hz (fun k hk => by have := ne_own h.o1 hDt' (by decide) k hk; omega)
  · exact own_zoneR h.o2 hz (fun k hk => by have := ne_own h.o2 hDt' (by decide) k hk; omega)
/-- the result's three stores. -/
theorem DocP.last {v1 v2 : Value} (h : DocP w wx g q Rb D id v1 v2 fs ns) :
    ∃ (A1 : Option Addr) (c1 : Nat) (A2 : Option Addr) (c2 : Nat), v1 = .slice A1 fs.length c1 ∧ v2 = .slice A2 ns.length c2 ∧
      OwnD (((wx.setCell ⟨Rb, 0, none⟩ (.int .i64 id)).setCell ⟨Rb, 1, none⟩ v1).setCell ⟨Rb, 2, none⟩ v2) w.heap.size ⟨id, fs, ns⟩ A1 c1 A2 c2 ∧
      Rd (((wx.setCell ⟨Rb, 0, none⟩ (.int .i64 id)).setCell ⟨Rb, 1, none⟩ v1).setCell ⟨Rb, 2, none⟩ v2) g q ∧
      Outer w.heap.size g w (((wx.setCell ⟨Rb, 0, none⟩ (.int .i64 id)).setCell ⟨Rb, 1, none⟩ v1).setCell ⟨Rb, 2, none⟩ v2) := by
  have hg := h.gl
  have hR := h.hR
  have hs := h.sz
  have ho1 := h.o1
  have ho2 := h.o2
  have hrd := h.rd
  have hout := h.out
  clear h
  obtain ⟨A1, c1, rfl⟩ := own_form ho1
  obtain ⟨A2, c2, rfl⟩ := own_form ho2
  have hz : ZoneR w.heap.size (w.heap.size + 1) wx (((wx.setCell ⟨Rb, 0, none⟩ (.int .i64 id)).setCell ⟨Rb, 1, none⟩ (.slice A1 fs.length c1)).setCell ⟨Rb, 2, none⟩ (.slice A2 ns.length c2)) := ((ZoneR.setCell wx _ (by omega) (by omega)).trans (ZoneR.setCell _ _ (by omega) (by omega))).trans (ZoneR.setCell _ _ (by omega) (by omega))
  have hB := hz.below (B := w.heap.size) (Nat.le_refl _) (by omega)
  have R1 := own_monoZ (own_zoneR ho1 hz (fun k hk => .inr (ho1.lt k hk).1)) (show w.heap.size ≤ w.heap.size + 1 by omega)
  have R2 := own_monoZ (own_zoneR ho2 hz (fun k hk => .inr (ho2.lt k hk).1)) (show w.heap.size ≤ w.heap.size + 1 by omega)
  exact ⟨A1, c1, A2, c2, rfl, rfl, ⟨R1, R2⟩, hrd.below (hB.mono hg), hout.trans (Outer.of hB)⟩
/-- a document in the making, with bounds. -/
def DocF (w wx : World) (g qm Rb D : Nat) (id : Int) (nf nn : Nat) : Prop := ∃ (q : Nat) (v1 v2 : Value) (fs : List FldD) (ns : List AttD), q ≤ qm ∧ DocP w wx g q Rb D id v1 v2 fs ns ∧ SmF fs nf ∧ SmA ns nn
end
end Go.Proofs.Yteomiaffdbbpoaa
