/-
  What is drawn of questions: contract of l30Query: printed by mk_drawq2.py.
-/
import Derived.Test.YtaobgliimbmemaaGreatDoorDrawQ
import Derived.Deep.RegionLaw
namespace Go.Proofs.YtaobgliimbmemaaGreatDoor
open Go.RowKit Go.Sort
set_option linter.unusedVariables false
set_option linter.unusedSimpArgs false

/-- the header of a question. -/
structure HdX where
  q : QD
  A : Option Addr
  B : Option Addr
  d : Nat
  lo : Nat
  hi : Nat
def encX (h : HdX) : List Value := encQ h.q h.A h.q.ws.length h.B h.d
theorem encX_ok : Enc encX 6 := ⟨fun _ => rfl, fun a u hu => by simp [encX, encQ] at hu; rcases hu with rfl | rfl | rfl | rfl | rfl | rfl <;> rfl⟩
theorem rowTQ : RowT Tryz.prog 25 27 6 88 := rowT_of Tryz.underlying25 infoQ rfl
/-- its memory lies from block lo up to block hi. -/
def Kid (n : Nat) (w : World) (m : HdX) : Prop := ∀ w', SameR m.lo m.hi w w' → HasQ n w' m.q m.A m.q.ws.length m.B
theorem Kid.same {n : Nat} {w w' : World} {m : HdX} (h : Kid n w m) (hs : SameR m.lo m.hi w w') : Kid n w' m := fun w'' h2 => h w'' (hs.trans h2 (Nat.le_refl _))
theorem Kid.now {n : Nat} {w : World} {m : HdX} (h : Kid n w m) (hh : m.hi ≤ w.heap.size) : HasQ n w m.q m.A m.q.ws.length m.B := h w ⟨hh, fun _ _ _ => rfl⟩
theorem SameR.out2 {lo hi g : Nat} {w w' : World} (h : Outer w.heap.size g w w') (hg : g < lo) (hh : hi ≤ w.heap.size) : SameR lo hi w w' := ⟨Nat.le_trans hh h.2.1, fun k h1 h2 => h.2.2 k (by omega) (by omega)⟩
/-- a row of questions reads as they are. -/
theorem rdK_cells {n : Nat} {w : World} {b off : Nat} {hv : List HdX} (hb : b < w.heap.size) (hc : ∀ j u, (hv.flatMap encX)[j]? = some u → w.cell? ⟨b, off + j, none⟩ = some u) (hq : ∀ m ∈ hv, HasQ n w m.q m.A m.q.ws.length m.B) :
    RdK (HasQ n) w (some ⟨b, off, none⟩) (hv.map (·.q)) := fun k hk => by
  have hk' : k < hv.length := by simpa using hk
  have hg := List.getElem?_eq_getElem hk'
  refine ⟨b, off, hv[k].A, hv[k].q.ws.length, hv[k].B, hv[k].d, rfl, hb, fun j u hu => ?_, ?_⟩
  · rw [List.getElem_map] at hu
    have hj : j < 6 := by have := (List.getElem?_eq_some_iff.1 hu).1; simpa [encQ] using this
    rw [Nat.add_assoc]
    exact hc _ u (by rw [flat_get (enc := encX) (F := 6) (fun _ => rfl) hg hj]; exact hu)
  · rw [List.getElem_map]; exact hq _ (List.getElem_mem _)
theorem rdK_blk {n : Nat} {w : World} {b : Nat} {cs : Array Value} {hv : List HdX} (h : w.heap[b]? = some (.cells cs 27 (0, 0))) (hcs : cs.toList = hv.flatMap encX) (hq : ∀ m ∈ hv, HasQ n w m.q m.A m.q.ws.length m.B) :
    RdK (HasQ n) w (some ⟨b, 0, none⟩) (hv.map (·.q)) := rdK_cells (Array.getElem?_eq_some_iff.1 h).1 (fun j u hu => by rw [Nat.zero_add, cell_of_row _ _ j cs _ (0, 0) h, ← Array.getElem?_toList, hcs]; exact hu) hq
theorem sm_node {n : Nat} {kd fr : Int} {ks : List QD} (h4 : 0 ≤ kd) (h5 : kd ≤ 100) (hl : ks.length ≤ 1000) (hk : ∀ k ∈ ks, SmQ n k) : SmQ (n + 1) ⟨kd, ⟨#[]⟩, [], fr, 0, ks⟩
  | 0 => ⟨trivial, trivial⟩
  | j + 1 => ⟨⟨by show (0 : Nat) ≤ _; omega, by simp, fun s hs => by simp at hs, hl, fun k hkm => (hk k hkm j).1⟩, show (Lit.int .i64 kd).wf = true from Go.WalkArith.wf_i64 ⟨by omega, by omega⟩, fun k hkm => (hk k hkm j).2⟩
theorem own_genQ {w w' : World} {base e size n g : Nat} {v : Value} {xs : List Value} (h : w.ownsRow base e size v n xs) (hb : g < base) (ho : Outer w.heap.size g w w') : w'.ownsRow base e size v n xs := by
  refine h.kept (row := some g) ⟨ho.1.1, ho.1.2.1, ho.1.2.2, ho.2.1, fun k hk hne => ho.2.2 k hk (fun e => hne (by rw [e]))⟩ ?_
  cases hv : v.ownBlock with
  | none => exact .inl rfl
  | some k => exact .inr (by have := (h.lt k hv).1; intro e; injection e; omega)
theorem own_formQ {w : World} {base e size n : Nat} {v : Value} {xs : List Value} (h : w.ownsRow base e size v n xs) : ∃ B d, v = .slice B n d ∧ NilOr B d := by
  rcases h.2 with ⟨h1, h0⟩ | ⟨g', cap, cur, h1, _⟩
  · subst h0; exact ⟨none, 0, h1, .inl ⟨rfl, rfl⟩⟩
  · exact ⟨_, _, h1, .inr ⟨_, _, rfl⟩⟩
section
variable {α : Type} {enc : α → List Value} {F : Nat} {P : Program} {w : World} {ops : Array Oper} {o : Oper} {a : Act} {Q : Exit → Act → World → Prop}
theorem step_append_w {ST E : TypeId} {B : Nat} {K : Act → World → Prop} {EE : Prop} (T : RowT P ST E F B) (he : Enc enc F) (hF : 0 < F) (hgd : o.guard = none) (s x : Operand) (ho : o.op = .call { callee := .builtin .append, args := #[s, x], argTypes := #[ST, ST] })
    (base : Nat) (v : Value) (L : List α) (hs : a.eval s = v) (hown : w.ownsRow base E F v L.length (L.flatMap enc))
    (ad : Addr) (m c : Nat) (M : List α) (hm : m = M.length) (hx : a.eval x = .slice (some ad) m c) (hM : SrcE enc F w (some ad) c M) (hn : L.length + M.length ≤ 16777216) (hB : B ≤ 4096) (hbase : base ≤ w.heap.size)
    (h : ∀ v' w', w'.ownsRow base E F v' (L ++ M).length ((L ++ M).flatMap enc) → w.grownBy w' v.ownBlock → (v'.ownBlock = v.ownBlock ∨ v'.ownBlock = some w.heap.size) → K (a.put o.dst v') w') :
    if Region.wanted o (yielded ops a.tmps) = true then Oper.wp P o a w K Q else EE := by
  subst hm
  obtain ⟨i0, z, hi, hz0, hz1, hz2, hzs⟩ := T.info
  have hnews : ∀ j u, (M.flatMap enc)[j]? = some u → w.cell? (ad.add j) = some u := by
    intro j u hu
    have hj : 0 < M.length := by
      have := (List.getElem?_eq_some_iff.1 hu).1
      rw [he.flat] at this
      rcases Nat.eq_zero_or_pos M.length with h0 | h0
      · rw [h0] at this; omega
      · exact h0
    obtain ⟨b, off, e, _, hc⟩ := hM.1.2 hj
    simp only [Option.some.injEq] at e
    subst e
    have e2 : (Addr.add ⟨b, off, none⟩ j) = ⟨b, off + j, none⟩ := by
      unfold Addr.add; split
      · rename_i h; subst h; rfl
      · rfl
    rw [e2]; exact hc j u hu
  obtain ⟨v', w', hrun, h1, h2, h3, h4⟩ := run_append_own_at (P := P) w base ST o.type E i0 z F B T.und hi hz0 hz1 hz2 hzs hF v _ _ hown ad M.length c (M.flatMap enc) (he.flat M) hnews (he.flat_one M) (by unfold maxLen; omega) (Nat.le_trans (Nat.mul_le_mul hn hB) (by omega)) hbase
  have h1' : w'.ownsRow base E F v' (L ++ M).length ((L ++ M).flatMap enc) := by rw [List.length_append, List.flatMap_append]; exact h1
  have hw : Region.wanted o (yielded ops a.tmps) = true := by simp [Region.wanted, hgd]
  rw [if_pos hw]
  unfold Oper.wp execOp
  simp only [ho, resolve, invoke, builtin, Sem.run_bind, Sem.run_pure, Result.andThen_ok, List.map_toArray, List.map_cons, List.map_nil, hs, hx, hrun]
  exact h _ _ h1' h2 h4
end
theorem own_setQ {w : World} {base e size n b j : Nat} {v u : Value} {xs : List Value} (h : w.ownsRow base e size v n xs) (hb : b < base) : (w.setCell ⟨b, j, none⟩ u).ownsRow base e size v n xs := by
  refine h.kept (row := some b) ⟨rfl, rfl, rfl, by simp, fun k hk hne => heap_setCell_other w ⟨b, j, none⟩ k u (fun e => hne (by have e2 : k = b := e; rw [e2]))⟩ ?_
  cases hv : v.ownBlock with
  | none => exact .inl rfl
  | some k => exact .inr (by have := (h.lt k hv).1; intro e; injection e; omega)
/-- the kids of an 'or' as they are drawn: the question's variable in block q5. -/
structure OrS (n : Nat) (w : World) (g : Nat) (wr : World) (qq q5 : Nat) (hv : List HdX) (vv : Value) : Prop where
  s : QS w g wr qq
  lo : w.heap.size < q5
  cq : wr.heap[q5]? = some (.cells #[.int .i64 8, .string ⟨#[]⟩, .slice none 0 0, .int .i64 0, .int .i64 0, vv] 27 (0, 0))
  own : wr.ownsRow (q5 + 1) 27 6 vv hv.length (hv.flatMap encX)
  kid : ∀ m ∈ hv, Kid n wr m ∧ q5 < m.lo ∧ m.hi ≤ wr.heap.size ∧ ∀ gg, vv.ownBlock = some gg → gg < m.lo ∨ m.hi ≤ gg
  sm : ∀ m ∈ hv, SmQ n m.q
theorem OrS.lt {n g qq q5 : Nat} {w wr : World} {hv : List HdX} {vv : Value} (h : OrS n w g wr qq q5 hv vv) : q5 < wr.heap.size := (Array.getElem?_eq_some_iff.1 h.cq).1
theorem OrS.gen {n g qq qq2 q5 : Nat} {w wr wj : World} {hv : List HdX} {vv : Value} (h : OrS n w g wr qq q5 hv vv) (r : Rd wj g qq2) (o : Outer wr.heap.size g wr wj) : OrS n w g wj qq2 q5 hv vv := by
  have hlt := h.lt
  have hg0 := h.s.g0
  have hlo := h.lo
  have hs := o.2.1
  exact ⟨h.s.gen r o, hlo, (o.2.2 q5 hlt (by omega)).trans h.cq, own_genQ h.own (by omega) o, fun m hm => by
    obtain ⟨k1, k2, k3, k4⟩ := h.kid m hm
    exact ⟨k1.same (SameR.out2 o (by omega) k3), k2, by omega, k4⟩, h.sm⟩
theorem OrS.blk7 {n g qq q5 : Nat} {w wr w9 wX w7 : World} {hv : List HdX} {vv : Value} (h : OrS n w g wr qq q5 hv vv) (o9 : Outer wr.heap.size g wr w9) (hX : Below w9.heap.size w9 wX) (g7 : wX.grownBy w7 vv.ownBlock) :
    w7.heap[q5]? = some (.cells #[.int .i64 8, .string ⟨#[]⟩, .slice none 0 0, .int .i64 0, .int .i64 0, vv] 27 (0, 0)) := by
  have hlt := h.lt
  have hg0 := h.s.g0
  have hlo := h.lo
  have h9 := o9.2.1
  have hXs := hX.size
  exact (g7.block q5 (by omega) (fun e => by have := (h.own.lt q5 e.symm).1; omega)).trans ((hX.block q5 (by omega)).trans ((o9.2.2 q5 hlt (by omega)).trans h.cq))
theorem own_sameQ {w w' : World} {base e size n : Nat} {v : Value} {xs : List Value} (h : w.ownsRow base e size v n xs) (hs : ∀ k, base ≤ k → k < w.heap.size → w'.heap[k]? = w.heap[k]?) : w'.ownsRow base e size v n xs := by
  rcases h.2 with h0 | ⟨g', cap, cur, h1, h2, h3, h4⟩
  · exact ⟨h.1, .inl h0⟩
  · exact ⟨h.1, .inr ⟨g', cap, cur, h1, h2, (hs g' h2 (Array.getElem?_eq_some_iff.1 h3).1).trans h3, h4⟩⟩
theorem OrS.has {n g qq q5 d : Nat} {w wr w' : World} {hv : List HdX} {B : Option Addr} (h : OrS n w g wr qq q5 hv (.slice B hv.length d)) (hs : SameR (w.heap.size + 1) wr.heap.size wr w') : HasQ (n + 1) w' ⟨8, ⟨#[]⟩, [], 0, 0, hv.map (·.q)⟩ none 0 B := by
  have hlo := h.lo
  refine ⟨srcQ_nil w', ?_⟩
  have hown := own_sameQ h.own (fun k k1 k2 => hs.2 k (by omega) k2)
  rcases Nat.eq_zero_or_pos hv.length with h0 | h0
  · obtain rfl := List.length_eq_zero_iff.1 h0
    exact rdK_nil
  · obtain ⟨b, off, rfl, hb, hc⟩ := (Rds.own hown).2 h0
    exact rdK_cells hb hc (fun m hm => by
      obtain ⟨k1, k2, k3, _⟩ := h.kid m hm
      exact k1 w' ⟨by have := hs.1; omega, fun k k4 k5 => hs.2 k (by omega) (by omega)⟩)
theorem OrS.next {n g qq q5 p9 d : Nat} {w wr w9 wX w7 : World} {hv : List HdX} {vv v7 : Value} {y : QD} {A B : Option Addr} (h : OrS n w g wr qq q5 hv vv) (r9 : Rd w9 g p9) (o9 : Outer wr.heap.size g wr w9) (k9 : KeptQ n wr w9 y A y.ws.length B) (hsm : SmQ n y)
    (hX : Below w9.heap.size w9 wX) (o7 : w7.ownsRow (q5 + 1) 27 6 v7 (hv ++ [(⟨y, A, B, d, wr.heap.size, w9.heap.size⟩ : HdX)]).length ((hv ++ [(⟨y, A, B, d, wr.heap.size, w9.heap.size⟩ : HdX)]).flatMap encX)) (g7 : wX.grownBy w7 vv.ownBlock) (h7 : v7.ownBlock = vv.ownBlock ∨ v7.ownBlock = some wX.heap.size) :
    OrS n w g (w7.setCell ⟨q5, 5, none⟩ v7) p9 q5 (hv ++ [(⟨y, A, B, d, wr.heap.size, w9.heap.size⟩ : HdX)]) v7 := by
  have hlt := h.lt
  have hg0 := h.s.g0
  have hlo := h.lo
  have s9 := h.s.gen r9 o9
  have sX := s9.grow hX
  have hvb : ∀ k, vv.ownBlock = some k → q5 + 1 ≤ k ∧ k < wr.heap.size := fun k hk => h.own.lt k hk
  have h9 := o9.2.1
  have hXs := hX.size
  have h7s := g7.size
  have o7g : Outer wX.heap.size g wX w7 → True := fun _ => trivial
  have rX := sX.r
  have hB7 : Below (q5 + 1) wX w7 := (Below.refl _ _).grown g7 (by omega) (fun k hk => (hvb k hk).1)
  have r7 : Rd w7 g p9 := rX.below (hB7.mono (by omega))
  have O7 : Outer (w.heap.size + 1) g wX w7 := Outer.of (hB7.mono (by omega))
  have s7 : QS w g w7 p9 := ⟨r7, sX.o.trans (O7.mono (by omega)), hg0, by have := sX.sz; omega, (hB7.block w.heap.size (by omega)).trans sX.rb⟩
  have c9 := (o9.2.2 q5 hlt (by omega)).trans h.cq
  have c7 := (hB7.block q5 (by omega)).trans ((hX.block q5 (by omega)).trans c9)
  have hset := heap_setCell_same w7 q5 5 _ _ v7 c7
  have hsame : ∀ lo hi, q5 < lo → hi ≤ w9.heap.size → (∀ gg, vv.ownBlock = some gg → gg < lo ∨ hi ≤ gg) → SameR lo hi w9 (w7.setCell ⟨q5, 5, none⟩ v7) := fun lo hi h1 h2 h3 => by
    have a1 : SameR lo hi w9 wX := ⟨by omega, fun k k1 k2 => hX.block k (by omega)⟩
    have a2 : SameR lo hi wX w7 := ⟨by omega, fun k k1 k2 => g7.block k (by omega) (fun e => by rcases h3 k e.symm with h4 | h4 <;> omega)⟩
    exact (a1.trans a2 (Nat.le_refl _)).set2 _ h1
  refine ⟨⟨rdQ_set s7.r (by omega) _, s7.o.trans (Outer.of ((Below.refl _ w7).setCell (p := ⟨q5, 5, none⟩) (by show _ ≤ q5; omega) _)), hg0, by simpa using s7.sz, (heap_setCell_other w7 ⟨q5, 5, none⟩ w.heap.size _ (by simp; omega)).trans s7.rb⟩, hlo, hset, ?_, ?_, ?_⟩
  · exact own_setQ o7 (by omega)
  · intro m hm
    rcases List.mem_append.1 hm with hm | hm
    · obtain ⟨k1, k2, k3, k4⟩ := h.kid m hm
      refine ⟨(k1.same (SameR.out2 o9 (by omega) k3)).same (hsame _ _ k2 (by omega) k4), k2, by simp; omega, fun gg hgg => ?_⟩
      rcases h7 with e | e
      · exact k4 gg (e.symm.trans hgg)
      · rw [e] at hgg; injection hgg with hgg; right; omega
    · simp only [List.mem_cons, List.not_mem_nil, or_false] at hm
      subst hm
      refine ⟨fun w'' h2 => k9 w'' ((hsame _ _ (by omega) (Nat.le_refl _) (fun gg hgg => .inl (hvb gg hgg).2)).trans h2 (Nat.le_refl _)), by omega, by simp; omega, fun gg hgg => ?_⟩
      rcases h7 with e | e
      · left; exact (hvb gg (e.symm.trans hgg)).2
      · rw [e] at hgg; injection hgg with hgg; right; show w9.heap.size ≤ gg; omega
  · intro m hm
    rcases List.mem_append.1 hm with hm | hm
    · exact h.sm m hm
    · simp only [List.mem_cons, List.not_mem_nil, or_false] at hm
      subst hm
      exact hsm
def QgC (n m K : Nat) : Prop := ∀ (g p : Nat) (w : World), Rd w g p → p + K + 100 < 1000000 →
  Calls Tryz.prog 13 #[.pointer (some ⟨g, 0, none⟩), .int .i64 (m : Int)] w (QueryG (n + m) w g p K)

set_option maxRecDepth 8000 in
set_option maxHeartbeats 3200000 in
theorem l30Query_one (n : Nat) : QgC n 1 20 := by
  intro g p w hr hp
  have S0 := QS.start w g p hr
  have hgl := hr.lt
  have hd1 : decide (((1 : Nat) : Int) ≤ 1) = true := by decide
  go_enter Tryz.func13, Tryz.ntmps13
  go_wp2_with fail
  generalize (w.alloc (.cells #[.int .i64 0, .string ⟨#[]⟩, .slice none 0 0, .int .i64 0, .int .i64 0, .slice none 0 0] 27)) = W0 at S0 ⊢
  refine (l30Leaf_gen n g p _ S0.r (by omega)).mono ?_
  rintro e w9 ⟨q, A, B, d, ⟨rfl, hsm, hnil, hwa, hwb, hwc, hk⟩, p9, hp9, r9, o9⟩
  have S9 := S0.gen r9 o9
  have hs9 := S0.sz
  have ho9 := o9.2.1
  obtain ⟨s0, s1, s2, s3, s4, s5⟩ := blk6 S9.rb
  have t0 := frozen_blk S9.rb 0
  have t1 := frozen_blk S9.rb 1
  have t2 := frozen_blk S9.rb 2
  have t3 := frozen_blk S9.rb 3
  have t4 := frozen_blk S9.rb 4
  have t5 := frozen_blk S9.rb 5
  have HF := Lib.hid (QS.fin (n := n + 1) S9 q A B d (fun w' hs => hk w' (hs.lo (by omega))) (.int .i64 q.kd) (.string q.fd) (.slice A q.ws.length q.ws.length) (.int .i64 q.fr) (.int .i64 q.tgt) (.slice B q.ks.length d))
  have HSM : Hid (SmQ (n + 1) q) := hsm
  have HNL := Lib.hid hnil
  have HWA := Lib.hid hwa
  have HWB : Hid (∀ b off, A = some ⟨b, off, none⟩ → w.heap.size ≤ b ∧ b < w9.heap.size) := fun b off e => by have := hwb b off e; omega
  have HWC : Hid (∀ b off, B = some ⟨b, off, none⟩ → w.heap.size ≤ b ∧ b < w9.heap.size) := fun b off e => by have := hwc b off e; omega
  clear S9 S0 hk hsm hnil hwa hwb hwc o9 r9 ho9 hs9
  go_wp2
  exact bodyPost_ret (v := .agg #[.int .i64 q.kd, .string q.fd, .slice A q.ws.length q.ws.length, .int .i64 q.fr, .int .i64 q.tgt, .slice B q.ks.length d]) (by simp [results, Tryz.results13, go_sem, *]) rfl (queryG_mk (wi := w9) q A B d HSM.out HNL.out HWA.out HWB.out HWC.out HF.out (by omega))
set_option maxRecDepth 8000 in
set_option maxHeartbeats 6400000 in
theorem l30Query_step (n m K : Nat) (hm1 : 1 ≤ m) (hm3 : m ≤ 2) (hK : K ≤ 2000) (hK1 : 10 ≤ K) (IH : Hid (QgC n m K)) : QgC n (m + 1) (3 * K + 10) := by
  intro g p w hr hp
  have S0 := QS.start w g p hr
  have hgl := hr.lt
  have hd1 : decide (((m + 1 : Nat) : Int) ≤ 1) = false := by rw [decide_eq_false_iff_not]; omega
  have hd2 : decide ((m : Int) + 1 ≤ 1) = false := by rw [decide_eq_false_iff_not]; omega
  have hpw : IntKind.i64.wrap (((m + 1 : Nat) : Int) - 1) = (m : Int) := by rw [IntKind.wrap_i64] <;> omega
  have hpw2 : IntKind.i64.wrap ((m : Int) + 1 - 1) = (m : Int) := by rw [IntKind.wrap_i64] <;> omega
  have hpw3 : IntKind.i64.wrap (m : Int) = (m : Int) := by rw [IntKind.wrap_i64] <;> omega
  go_enter Tryz.func13, Tryz.ntmps13
  go_wp2_with fail
  generalize (w.alloc (.cells #[.int .i64 0, .string ⟨#[]⟩, .slice none 0 0, .int .i64 0, .int .i64 0, .slice none 0 0] 27)) = W0 at S0 ⊢
  refine (pick_gen g p 3 (by omega) (by omega) _ S0.r (by omega)).mono ?_
  rintro e w1 ⟨t, ⟨rfl, ht1, ht2⟩, p1, hp1, r1, o1⟩
  have S1 := S0.gen r1 o1
  clear S0 o1 r1
  by_cases c0 : t = 0
  · subst c0
    go_wp2_with fail
    refine (l30Leaf_gen (n + m) g p1 _ S1.r (by omega)).mono ?_
    rintro e w9 ⟨q, A, B, d, ⟨rfl, hsm, hnil, hwa, hwb, hwc, hk⟩, p9, hp9, r9, o9⟩
    have S9 := S1.gen r9 o9
    have hs9 := S1.sz
    have ho9 := o9.2.1
    obtain ⟨s0, s1, s2, s3, s4, s5⟩ := blk6 S9.rb
    have t0 := frozen_blk S9.rb 0
    have t1 := frozen_blk S9.rb 1
    have t2 := frozen_blk S9.rb 2
    have t3 := frozen_blk S9.rb 3
    have t4 := frozen_blk S9.rb 4
    have t5 := frozen_blk S9.rb 5
    have HF := Lib.hid (QS.fin (n := n + m + 1) S9 q A B d (fun w' hs => hk w' (hs.lo (by omega))) (.int .i64 q.kd) (.string q.fd) (.slice A q.ws.length q.ws.length) (.int .i64 q.fr) (.int .i64 q.tgt) (.slice B q.ks.length d))
    have HSM : Hid (SmQ (n + m + 1) q) := hsm
    have HNL := Lib.hid hnil
    have HWA := Lib.hid hwa
    have HWB : Hid (∀ b off, A = some ⟨b, off, none⟩ → w.heap.size ≤ b ∧ b < w9.heap.size) := fun b off e => by have := hwb b off e; omega
    have HWC : Hid (∀ b off, B = some ⟨b, off, none⟩ → w.heap.size ≤ b ∧ b < w9.heap.size) := fun b off e => by have := hwc b off e; omega
    clear S9 S1 hk hsm hnil hwa hwb hwc o9 r9 ho9 hs9
    go_wp2
    exact bodyPost_ret (v := .agg #[.int .i64 q.kd, .string q.fd, .slice A q.ws.length q.ws.length, .int .i64 q.fr, .int .i64 q.tgt, .slice B q.ks.length d]) (by simp [results, Tryz.results13, go_sem, *]) rfl (queryG_mk (wi := w9) q A B d HSM.out HNL.out HWA.out HWB.out HWC.out HF.out (by omega))
  have n0 : (t == 0) = false := by rw [beq_eq_false_iff_ne]; exact c0
  go_wp2_with fail
  refine (pick_gen g p1 6 (by omega) (by omega) _ S1.r (by omega)).mono ?_
  rintro e w2 ⟨v, ⟨rfl, hv1, hv2⟩, p2, hp2, r2, o2⟩
  have S2 := S1.gen r2 o2
  clear S1 o2 r2
  have q2 := S2.sz
  by_cases c1 : v = 0
  · subst c1
    go_wp2_with fail
    refine (IH.out g p2 _ S2.r (by omega)).mono ?_
    rintro e w3 ⟨y1, A1, B1, d1, ⟨rfl, hsm1, hnil1, hwa1, hwb1, hwc1, hk1⟩, p3, hpp3, r1, o1⟩
    have S3 := S2.gen r1 o1
    have ho1 := o1.2.1
    clear S2
    go_wp2_with fail
    refine (IH.out g p3 _ S3.r (by omega)).mono ?_
    rintro e w4 ⟨y2, A2, B2, d2, ⟨rfl, hsm2, hnil2, hwa2, hwb2, hwc2, hk2⟩, p4, hpp4, r2, o2⟩
    have S4 := S3.gen r2 o2
    have ho2 := o2.2.1
    have o2' := o2
    have q3 := S3.sz
    clear S3 o1 o2 r1 r2
    have hX := alloc_new w4 (.cells #[.int .i64 y1.kd, .string y1.fd, .slice A1 y1.ws.length y1.ws.length, .int .i64 y1.fr, .int .i64 y1.tgt, .slice B1 y1.ks.length d1, .int .i64 y2.kd, .string y2.fd, .slice A2 y2.ws.length y2.ws.length, .int .i64 y2.fr, .int .i64 y2.tgt, .slice B2 y2.ks.length d2] 27)
    have S7 := S4.grow (wj := (w4.alloc (.cells #[.int .i64 y1.kd, .string y1.fd, .slice A1 y1.ws.length y1.ws.length, .int .i64 y1.fr, .int .i64 y1.tgt, .slice B1 y1.ks.length d1, .int .i64 y2.kd, .string y2.fd, .slice A2 y2.ws.length y2.ws.length, .int .i64 y2.fr, .int .i64 y2.tgt, .slice B2 y2.ks.length d2] 27))) (by (repeat' (first | exact Below.refl _ _ | apply Below.alloc | apply Below.setCell | apply Below.drew | apply below_draws)) <;> (first | omega | (simp <;> omega)))
    have q7 : w4.heap.size < (w4.alloc (.cells #[.int .i64 y1.kd, .string y1.fd, .slice A1 y1.ws.length y1.ws.length, .int .i64 y1.fr, .int .i64 y1.tgt, .slice B1 y1.ks.length d1, .int .i64 y2.kd, .string y2.fd, .slice A2 y2.ws.length y2.ws.length, .int .i64 y2.fr, .int .i64 y2.tgt, .slice B2 y2.ks.length d2] 27)).heap.size := by simp
    have qW := S4.sz
    have hbl : Below w4.heap.size w4 (w4.alloc (.cells #[.int .i64 y1.kd, .string y1.fd, .slice A1 y1.ws.length y1.ws.length, .int .i64 y1.fr, .int .i64 y1.tgt, .slice B1 y1.ks.length d1, .int .i64 y2.kd, .string y2.fd, .slice A2 y2.ws.length y2.ws.length, .int .i64 y2.fr, .int .i64 y2.tgt, .slice B2 y2.ks.length d2] 27)) := (Below.refl _ _).alloc (Nat.le_refl _) _
    have hfin : ∀ w', SameR (w.heap.size + 1) (w4.alloc (.cells #[.int .i64 y1.kd, .string y1.fd, .slice A1 y1.ws.length y1.ws.length, .int .i64 y1.fr, .int .i64 y1.tgt, .slice B1 y1.ks.length d1, .int .i64 y2.kd, .string y2.fd, .slice A2 y2.ws.length y2.ws.length, .int .i64 y2.fr, .int .i64 y2.tgt, .slice B2 y2.ks.length d2] 27)).heap.size (w4.alloc (.cells #[.int .i64 y1.kd, .string y1.fd, .slice A1 y1.ws.length y1.ws.length, .int .i64 y1.fr, .int .i64 y1.tgt, .slice B1 y1.ks.length d1, .int .i64 y2.kd, .string y2.fd, .slice A2 y2.ws.length y2.ws.length, .int .i64 y2.fr, .int .i64 y2.tgt, .slice B2 y2.ks.length d2] 27)) w' → HasQ (n + m + 1) w' ⟨9, ⟨#[]⟩, [], 0, 0, [y1, y2]⟩ none 0 (some ⟨w4.heap.size, 0, none⟩) := fun w' hs => by
      have hsb : ∀ lo hi, w.heap.size + 1 ≤ lo → hi ≤ w4.heap.size → SameR lo hi w4 w' := fun lo hi h1 h2 => ⟨by have := hs.1; omega, fun k k1 k2 => (hs.2 k (by omega) (by omega)).trans (hbl.block k (by omega))⟩
      refine ⟨srcQ_nil w', rdK_blk (hv := [⟨y1, A1, B1, d1, w2.heap.size, w3.heap.size⟩, ⟨y2, A2, B2, d2, w3.heap.size, w4.heap.size⟩]) ((hs.2 w4.heap.size (by omega) q7).trans hX) rfl (fun x hx => ?_)⟩
      simp only [List.mem_cons, List.not_mem_nil, or_false] at hx
      rcases hx with rfl | rfl
      · exact hk1 w' ((SameR.out2 o2' (by omega) (Nat.le_refl _)).trans (hsb _ _ (by omega) (by omega)) (by omega))
      · exact hk2 w' (hsb _ _ (by omega) (by omega))
    obtain ⟨s0, s1, s2, s3, s4, s5⟩ := blk6 S7.rb
    have t0 := frozen_blk S7.rb 0
    have t1 := frozen_blk S7.rb 1
    have t2 := frozen_blk S7.rb 2
    have t3 := frozen_blk S7.rb 3
    have t4 := frozen_blk S7.rb 4
    have t5 := frozen_blk S7.rb 5
    obtain ⟨v0, v1, v2, v3, v4, v5⟩ := blk6 S4.rb
    have z0 := frozen_blk S4.rb 0
    have z1 := frozen_blk S4.rb 1
    have z2 := frozen_blk S4.rb 2
    have z3 := frozen_blk S4.rb 3
    have z4 := frozen_blk S4.rb 4
    have z5 := frozen_blk S4.rb 5
    have hF := QS.fin (n := n + m + 1) S7 ⟨9, ⟨#[]⟩, [], 0, 0, [y1, y2]⟩ none (some ⟨w4.heap.size, 0, none⟩) 2 hfin (.int .i64 9) (.string ⟨#[]⟩) (.slice none 0 0) (.int .i64 0) (.int .i64 0) (.slice (some ⟨w4.heap.size, 0, none⟩) 2 2)
    rw [World.setCell_alloc_past (hn := qW), World.setCell_alloc_past (hn := by simpa using qW), World.setCell_alloc_past (hn := by simpa using qW), World.setCell_alloc_past (hn := by simpa using qW), World.setCell_alloc_past (hn := by simpa using qW), World.setCell_alloc_past (hn := by simpa using qW)] at hF
    have HF := Lib.hid hF
    have HSM : Hid (SmQ (n + m + 1) ⟨9, ⟨#[]⟩, [], 0, 0, [y1, y2]⟩) := sm_node (by omega) (by omega) (by show _ ≤ 1000; simp) (fun k hk => by simp only [List.mem_cons, List.not_mem_nil, or_false] at hk; rcases hk with rfl | rfl; exact hsm1; exact hsm2)
    have HWC : Hid (∀ b off, (some ⟨w4.heap.size, 0, none⟩ : Option Addr) = some ⟨b, off, none⟩ → w.heap.size ≤ b ∧ b < (w4.alloc (.cells #[.int .i64 y1.kd, .string y1.fd, .slice A1 y1.ws.length y1.ws.length, .int .i64 y1.fr, .int .i64 y1.tgt, .slice B1 y1.ks.length d1, .int .i64 y2.kd, .string y2.fd, .slice A2 y2.ws.length y2.ws.length, .int .i64 y2.fr, .int .i64 y2.tgt, .slice B2 y2.ks.length d2] 27)).heap.size) := fun b off e => by simp only [Option.some.injEq, Addr.mk.injEq] at e; have := e.1; omega
    clear hF hfin hbl S7 S4 hX hk1 hsm1 hnil1 hwa1 hwb1 hwc1 hk2 hsm2 hnil2 hwa2 hwb2 hwc2 o2'
    go_wp2
    exact bodyPost_ret (v := .agg #[.int .i64 9, .string ⟨#[]⟩, .slice none 0 0, .int .i64 0, .int .i64 0, .slice (some ⟨w4.heap.size, 0, none⟩) 2 2]) (by simp [results, Tryz.results13, go_sem, *]) rfl (queryG_mk (wi := (w4.alloc (.cells #[.int .i64 y1.kd, .string y1.fd, .slice A1 y1.ws.length y1.ws.length, .int .i64 y1.fr, .int .i64 y1.tgt, .slice B1 y1.ks.length d1, .int .i64 y2.kd, .string y2.fd, .slice A2 y2.ws.length y2.ws.length, .int .i64 y2.fr, .int .i64 y2.tgt, .slice B2 y2.ks.length d2] 27))) ⟨9, ⟨#[]⟩, [], 0, 0, [y1, y2]⟩ none (some ⟨w4.heap.size, 0, none⟩) 2 HSM.out (.inr ⟨_, _, rfl⟩) (fun _ => rfl) (fun b off e => by cases e) HWC.out HF.out (by omega))
  have n1 : (v == 0) = false := by rw [beq_eq_false_iff_ne]; exact c1
  by_cases c2 : v = 1
  · subst c2
    go_wp2_with fail
    refine (pick_gen g p2 4 (by omega) (by omega) _ S2.r (by omega)).mono ?_
    rintro e w3 ⟨f, ⟨rfl, hf1, hf2⟩, p3, hp3, r3, o3⟩
    have S3 := S2.gen r3 o3
    clear S2 o3 r3
    have hfw : IntKind.i64.wrap (2 + f) = 2 + f := by rw [IntKind.wrap_i64] <;> omega
    have q3 := S3.sz
    go_wp2_with fail
    refine (IH.out g p3 _ S3.r (by omega)).mono ?_
    rintro e w4 ⟨y1, A1, B1, d1, ⟨rfl, hsm1, hnil1, hwa1, hwb1, hwc1, hk1⟩, p4, hpp4, r1, o1⟩
    have S4 := S3.gen r1 o1
    have ho1 := o1.2.1
    clear S3 o1 r1
    have hX := alloc_new w4 (.cells #[.int .i64 y1.kd, .string y1.fd, .slice A1 y1.ws.length y1.ws.length, .int .i64 y1.fr, .int .i64 y1.tgt, .slice B1 y1.ks.length d1] 27)
    have S7 := S4.grow (wj := (w4.alloc (.cells #[.int .i64 y1.kd, .string y1.fd, .slice A1 y1.ws.length y1.ws.length, .int .i64 y1.fr, .int .i64 y1.tgt, .slice B1 y1.ks.length d1] 27))) (by (repeat' (first | exact Below.refl _ _ | apply Below.alloc | apply Below.setCell | apply Below.drew | apply below_draws)) <;> (first | omega | (simp <;> omega)))
    have q7 : w4.heap.size < (w4.alloc (.cells #[.int .i64 y1.kd, .string y1.fd, .slice A1 y1.ws.length y1.ws.length, .int .i64 y1.fr, .int .i64 y1.tgt, .slice B1 y1.ks.length d1] 27)).heap.size := by simp
    have qW := S4.sz
    have hbl : Below w4.heap.size w4 (w4.alloc (.cells #[.int .i64 y1.kd, .string y1.fd, .slice A1 y1.ws.length y1.ws.length, .int .i64 y1.fr, .int .i64 y1.tgt, .slice B1 y1.ks.length d1] 27)) := (Below.refl _ _).alloc (Nat.le_refl _) _
    have hfin : ∀ w', SameR (w.heap.size + 1) (w4.alloc (.cells #[.int .i64 y1.kd, .string y1.fd, .slice A1 y1.ws.length y1.ws.length, .int .i64 y1.fr, .int .i64 y1.tgt, .slice B1 y1.ks.length d1] 27)).heap.size (w4.alloc (.cells #[.int .i64 y1.kd, .string y1.fd, .slice A1 y1.ws.length y1.ws.length, .int .i64 y1.fr, .int .i64 y1.tgt, .slice B1 y1.ks.length d1] 27)) w' → HasQ (n + m + 1) w' ⟨10, ⟨#[]⟩, [], 2 + f, 0, [y1]⟩ none 0 (some ⟨w4.heap.size, 0, none⟩) := fun w' hs => by
      have hsb : ∀ lo hi, w.heap.size + 1 ≤ lo → hi ≤ w4.heap.size → SameR lo hi w4 w' := fun lo hi h1 h2 => ⟨by have := hs.1; omega, fun k k1 k2 => (hs.2 k (by omega) (by omega)).trans (hbl.block k (by omega))⟩
      refine ⟨srcQ_nil w', rdK_blk (hv := [⟨y1, A1, B1, d1, w3.heap.size, w4.heap.size⟩]) ((hs.2 w4.heap.size (by omega) q7).trans hX) rfl (fun x hx => ?_)⟩
      simp only [List.mem_cons, List.not_mem_nil, or_false] at hx
      subst hx
      exact hk1 w' (hsb _ _ (by omega) (by omega))
    obtain ⟨s0, s1, s2, s3, s4, s5⟩ := blk6 S7.rb
    have t0 := frozen_blk S7.rb 0
    have t1 := frozen_blk S7.rb 1
    have t2 := frozen_blk S7.rb 2
    have t3 := frozen_blk S7.rb 3
    have t4 := frozen_blk S7.rb 4
    have t5 := frozen_blk S7.rb 5
    obtain ⟨v0, v1, v2, v3, v4, v5⟩ := blk6 S4.rb
    have z0 := frozen_blk S4.rb 0
    have z1 := frozen_blk S4.rb 1
    have z2 := frozen_blk S4.rb 2
    have z3 := frozen_blk S4.rb 3
    have z4 := frozen_blk S4.rb 4
    have z5 := frozen_blk S4.rb 5
    have hF := QS.fin (n := n + m + 1) S7 ⟨10, ⟨#[]⟩, [], 2 + f, 0, [y1]⟩ none (some ⟨w4.heap.size, 0, none⟩) 1 hfin (.int .i64 10) (.string ⟨#[]⟩) (.slice none 0 0) (.int .i64 (2 + f)) (.int .i64 0) (.slice (some ⟨w4.heap.size, 0, none⟩) 1 1)
    rw [World.setCell_alloc_past (hn := qW), World.setCell_alloc_past (hn := by simpa using qW), World.setCell_alloc_past (hn := by simpa using qW), World.setCell_alloc_past (hn := by simpa using qW), World.setCell_alloc_past (hn := by simpa using qW), World.setCell_alloc_past (hn := by simpa using qW)] at hF
    have HF := Lib.hid hF
    have HSM : Hid (SmQ (n + m + 1) ⟨10, ⟨#[]⟩, [], 2 + f, 0, [y1]⟩) := sm_node (by omega) (by omega) (by show _ ≤ 1000; simp) (fun k hk => by simp only [List.mem_cons, List.not_mem_nil, or_false] at hk; subst hk; exact hsm1)
    have HWC : Hid (∀ b off, (some ⟨w4.heap.size, 0, none⟩ : Option Addr) = some ⟨b, off, none⟩ → w.heap.size ≤ b ∧ b < (w4.alloc (.cells #[.int .i64 y1.kd, .string y1.fd, .slice A1 y1.ws.length y1.ws.length, .int .i64 y1.fr, .int .i64 y1.tgt, .slice B1 y1.ks.length d1] 27)).heap.size) := fun b off e => by simp only [Option.some.injEq, Addr.mk.injEq] at e; have := e.1; omega
    clear hF hfin hbl S7 S4 hX hk1 hsm1 hnil1 hwa1 hwb1 hwc1
    go_wp2
    exact bodyPost_ret (v := .agg #[.int .i64 10, .string ⟨#[]⟩, .slice none 0 0, .int .i64 (2 + f), .int .i64 0, .slice (some ⟨w4.heap.size, 0, none⟩) 1 1]) (by simp [results, Tryz.results13, go_sem, *]) rfl (queryG_mk (wi := (w4.alloc (.cells #[.int .i64 y1.kd, .string y1.fd, .slice A1 y1.ws.length y1.ws.length, .int .i64 y1.fr, .int .i64 y1.tgt, .slice B1 y1.ks.length d1] 27))) ⟨10, ⟨#[]⟩, [], 2 + f, 0, [y1]⟩ none (some ⟨w4.heap.size, 0, none⟩) 1 HSM.out (.inr ⟨_, _, rfl⟩) (fun _ => rfl) (fun b off e => by cases e) HWC.out HF.out (by omega))
  have n2 : (v == 1) = false := by rw [beq_eq_false_iff_ne]; exact c2
  by_cases c3 : v = 2
  · subst c3
    go_wp2_with fail
    refine (IH.out g p2 _ S2.r (by omega)).mono ?_
    rintro e w3 ⟨y1, A1, B1, d1, ⟨rfl, hsm1, hnil1, hwa1, hwb1, hwc1, hk1⟩, p3, hpp3, r1, o1⟩
    have S3 := S2.gen r1 o1
    have ho1 := o1.2.1
    clear S2
    go_wp2_with fail
    refine (IH.out g p3 _ S3.r (by omega)).mono ?_
    rintro e w4 ⟨y2, A2, B2, d2, ⟨rfl, hsm2, hnil2, hwa2, hwb2, hwc2, hk2⟩, p4, hpp4, r2, o2⟩
    have S4 := S3.gen r2 o2
    have ho2 := o2.2.1
    have o2' := o2
    have q3 := S3.sz
    clear S3 o1 o2 r1 r2
    have hX := alloc_new w4 (.cells #[.int .i64 y1.kd, .string y1.fd, .slice A1 y1.ws.length y1.ws.length, .int .i64 y1.fr, .int .i64 y1.tgt, .slice B1 y1.ks.length d1, .int .i64 y2.kd, .string y2.fd, .slice A2 y2.ws.length y2.ws.length, .int .i64 y2.fr, .int .i64 y2.tgt, .slice B2 y2.ks.length d2] 27)
    have S7 := S4.grow (wj := (w4.alloc (.cells #[.int .i64 y1.kd, .string y1.fd, .slice A1 y1.ws.length y1.ws.length, .int .i64 y1.fr, .int .i64 y1.tgt, .slice B1 y1.ks.length d1, .int .i64 y2.kd, .string y2.fd, .slice A2 y2.ws.length y2.ws.length, .int .i64 y2.fr, .int .i64 y2.tgt, .slice B2 y2.ks.length d2] 27))) (by (repeat' (first | exact Below.refl _ _ | apply Below.alloc | apply Below.setCell | apply Below.drew | apply below_draws)) <;> (first | omega | (simp <;> omega)))
    have q7 : w4.heap.size < (w4.alloc (.cells #[.int .i64 y1.kd, .string y1.fd, .slice A1 y1.ws.length y1.ws.length, .int .i64 y1.fr, .int .i64 y1.tgt, .slice B1 y1.ks.length d1, .int .i64 y2.kd, .string y2.fd, .slice A2 y2.ws.length y2.ws.length, .int .i64 y2.fr, .int .i64 y2.tgt, .slice B2 y2.ks.length d2] 27)).heap.size := by simp
    have qW := S4.sz
    have hbl : Below w4.heap.size w4 (w4.alloc (.cells #[.int .i64 y1.kd, .string y1.fd, .slice A1 y1.ws.length y1.ws.length, .int .i64 y1.fr, .int .i64 y1.tgt, .slice B1 y1.ks.length d1, .int .i64 y2.kd, .string y2.fd, .slice A2 y2.ws.length y2.ws.length, .int .i64 y2.fr, .int .i64 y2.tgt, .slice B2 y2.ks.length d2] 27)) := (Below.refl _ _).alloc (Nat.le_refl _) _
    have hfin : ∀ w', SameR (w.heap.size + 1) (w4.alloc (.cells #[.int .i64 y1.kd, .string y1.fd, .slice A1 y1.ws.length y1.ws.length, .int .i64 y1.fr, .int .i64 y1.tgt, .slice B1 y1.ks.length d1, .int .i64 y2.kd, .string y2.fd, .slice A2 y2.ws.length y2.ws.length, .int .i64 y2.fr, .int .i64 y2.tgt, .slice B2 y2.ks.length d2] 27)).heap.size (w4.alloc (.cells #[.int .i64 y1.kd, .string y1.fd, .slice A1 y1.ws.length y1.ws.length, .int .i64 y1.fr, .int .i64 y1.tgt, .slice B1 y1.ks.length d1, .int .i64 y2.kd, .string y2.fd, .slice A2 y2.ws.length y2.ws.length, .int .i64 y2.fr, .int .i64 y2.tgt, .slice B2 y2.ks.length d2] 27)) w' → HasQ (n + m + 1) w' ⟨7, ⟨#[]⟩, [], 0, 0, [y1, y2]⟩ none 0 (some ⟨w4.heap.size, 0, none⟩) := fun w' hs => by
      have hsb : ∀ lo hi, w.heap.size + 1 ≤ lo → hi ≤ w4.heap.size → SameR lo hi w4 w' := fun lo hi h1 h2 => ⟨by have := hs.1; omega, fun k k1 k2 => (hs.2 k (by omega) (by omega)).trans (hbl.block k (by omega))⟩
      refine ⟨srcQ_nil w', rdK_blk (hv := [⟨y1, A1, B1, d1, w2.heap.size, w3.heap.size⟩, ⟨y2, A2, B2, d2, w3.heap.size, w4.heap.size⟩]) ((hs.2 w4.heap.size (by omega) q7).trans hX) rfl (fun x hx => ?_)⟩
      simp only [List.mem_cons, List.not_mem_nil, or_false] at hx
      rcases hx with rfl | rfl
      · exact hk1 w' ((SameR.out2 o2' (by omega) (Nat.le_refl _)).trans (hsb _ _ (by omega) (by omega)) (by omega))
      · exact hk2 w' (hsb _ _ (by omega) (by omega))
    obtain ⟨s0, s1, s2, s3, s4, s5⟩ := blk6 S7.rb
    have t0 := frozen_blk S7.rb 0
    have t1 := frozen_blk S7.rb 1
    have t2 := frozen_blk S7.rb 2
    have t3 := frozen_blk S7.rb 3
    have t4 := frozen_blk S7.rb 4
    have t5 := frozen_blk S7.rb 5
    obtain ⟨v0, v1, v2, v3, v4, v5⟩ := blk6 S4.rb
    have z0 := frozen_blk S4.rb 0
    have z1 := frozen_blk S4.rb 1
    have z2 := frozen_blk S4.rb 2
    have z3 := frozen_blk S4.rb 3
    have z4 := frozen_blk S4.rb 4
    have z5 := frozen_blk S4.rb 5
    have hF := QS.fin (n := n + m + 1) S7 ⟨7, ⟨#[]⟩, [], 0, 0, [y1, y2]⟩ none (some ⟨w4.heap.size, 0, none⟩) 2 hfin (.int .i64 7) (.string ⟨#[]⟩) (.slice none 0 0) (.int .i64 0) (.int .i64 0) (.slice (some ⟨w4.heap.size, 0, none⟩) 2 2)
    rw [World.setCell_alloc_past (hn := qW), World.setCell_alloc_past (hn := by simpa using qW), World.setCell_alloc_past (hn := by simpa using qW), World.setCell_alloc_past (hn := by simpa using qW), World.setCell_alloc_past (hn := by simpa using qW), World.setCell_alloc_past (hn := by simpa using qW)] at hF
    have HF := Lib.hid hF
    have HSM : Hid (SmQ (n + m + 1) ⟨7, ⟨#[]⟩, [], 0, 0, [y1, y2]⟩) := sm_node (by omega) (by omega) (by show _ ≤ 1000; simp) (fun k hk => by simp only [List.mem_cons, List.not_mem_nil, or_false] at hk; rcases hk with rfl | rfl; exact hsm1; exact hsm2)
    have HWC : Hid (∀ b off, (some ⟨w4.heap.size, 0, none⟩ : Option Addr) = some ⟨b, off, none⟩ → w.heap.size ≤ b ∧ b < (w4.alloc (.cells #[.int .i64 y1.kd, .string y1.fd, .slice A1 y1.ws.length y1.ws.length, .int .i64 y1.fr, .int .i64 y1.tgt, .slice B1 y1.ks.length d1, .int .i64 y2.kd, .string y2.fd, .slice A2 y2.ws.length y2.ws.length, .int .i64 y2.fr, .int .i64 y2.tgt, .slice B2 y2.ks.length d2] 27)).heap.size) := fun b off e => by simp only [Option.some.injEq, Addr.mk.injEq] at e; have := e.1; omega
    clear hF hfin hbl S7 S4 hX hk1 hsm1 hnil1 hwa1 hwb1 hwc1 hk2 hsm2 hnil2 hwa2 hwb2 hwc2 o2'
    go_wp2
    exact bodyPost_ret (v := .agg #[.int .i64 7, .string ⟨#[]⟩, .slice none 0 0, .int .i64 0, .int .i64 0, .slice (some ⟨w4.heap.size, 0, none⟩) 2 2]) (by simp [results, Tryz.results13, go_sem, *]) rfl (queryG_mk (wi := (w4.alloc (.cells #[.int .i64 y1.kd, .string y1.fd, .slice A1 y1.ws.length y1.ws.length, .int .i64 y1.fr, .int .i64 y1.tgt, .slice B1 y1.ks.length d1, .int .i64 y2.kd, .string y2.fd, .slice A2 y2.ws.length y2.ws.length, .int .i64 y2.fr, .int .i64 y2.tgt, .slice B2 y2.ks.length d2] 27))) ⟨7, ⟨#[]⟩, [], 0, 0, [y1, y2]⟩ none (some ⟨w4.heap.size, 0, none⟩) 2 HSM.out (.inr ⟨_, _, rfl⟩) (fun _ => rfl) (fun b off e => by cases e) HWC.out HF.out (by omega))
  have n3 : (v == 2) = false := by rw [beq_eq_false_iff_ne]; exact c3
  by_cases c4 : v = 3
  · subst c4
    go_wp2_with fail
    refine (IH.out g p2 _ S2.r (by omega)).mono ?_
    rintro e w3 ⟨y1, A1, B1, d1, ⟨rfl, hsm1, hnil1, hwa1, hwb1, hwc1, hk1⟩, p3, hpp3, r1, o1⟩
    have S3 := S2.gen r1 o1
    have ho1 := o1.2.1
    clear S2
    go_wp2_with fail
    refine (IH.out g p3 _ S3.r (by omega)).mono ?_
    rintro e w4 ⟨y2, A2, B2, d2, ⟨rfl, hsm2, hnil2, hwa2, hwb2, hwc2, hk2⟩, p4, hpp4, r2, o2⟩
    have S4 := S3.gen r2 o2
    have ho2 := o2.2.1
    have o2' := o2
    have q3 := S3.sz
    clear S3 o1 o2 r1 r2
    have hX := alloc_new w4 (.cells #[.int .i64 y1.kd, .string y1.fd, .slice A1 y1.ws.length y1.ws.length, .int .i64 y1.fr, .int .i64 y1.tgt, .slice B1 y1.ks.length d1, .int .i64 y2.kd, .string y2.fd, .slice A2 y2.ws.length y2.ws.length, .int .i64 y2.fr, .int .i64 y2.tgt, .slice B2 y2.ks.length d2] 27)
    have S7 := S4.grow (wj := (w4.alloc (.cells #[.int .i64 y1.kd, .string y1.fd, .slice A1 y1.ws.length y1.ws.length, .int .i64 y1.fr, .int .i64 y1.tgt, .slice B1 y1.ks.length d1, .int .i64 y2.kd, .string y2.fd, .slice A2 y2.ws.length y2.ws.length, .int .i64 y2.fr, .int .i64 y2.tgt, .slice B2 y2.ks.length d2] 27))) (by (repeat' (first | exact Below.refl _ _ | apply Below.alloc | apply Below.setCell | apply Below.drew | apply below_draws)) <;> (first | omega | (simp <;> omega)))
    have q7 : w4.heap.size < (w4.alloc (.cells #[.int .i64 y1.kd, .string y1.fd, .slice A1 y1.ws.length y1.ws.length, .int .i64 y1.fr, .int .i64 y1.tgt, .slice B1 y1.ks.length d1, .int .i64 y2.kd, .string y2.fd, .slice A2 y2.ws.length y2.ws.length, .int .i64 y2.fr, .int .i64 y2.tgt, .slice B2 y2.ks.length d2] 27)).heap.size := by simp
    have qW := S4.sz
    have hbl : Below w4.heap.size w4 (w4.alloc (.cells #[.int .i64 y1.kd, .string y1.fd, .slice A1 y1.ws.length y1.ws.length, .int .i64 y1.fr, .int .i64 y1.tgt, .slice B1 y1.ks.length d1, .int .i64 y2.kd, .string y2.fd, .slice A2 y2.ws.length y2.ws.length, .int .i64 y2.fr, .int .i64 y2.tgt, .slice B2 y2.ks.length d2] 27)) := (Below.refl _ _).alloc (Nat.le_refl _) _
    have hfin : ∀ w', SameR (w.heap.size + 1) (w4.alloc (.cells #[.int .i64 y1.kd, .string y1.fd, .slice A1 y1.ws.length y1.ws.length, .int .i64 y1.fr, .int .i64 y1.tgt, .slice B1 y1.ks.length d1, .int .i64 y2.kd, .string y2.fd, .slice A2 y2.ws.length y2.ws.length, .int .i64 y2.fr, .int .i64 y2.tgt, .slice B2 y2.ks.length d2] 27)).heap.size (w4.alloc (.cells #[.int .i64 y1.kd, .string y1.fd, .slice A1 y1.ws.length y1.ws.length, .int .i64 y1.fr, .int .i64 y1.tgt, .slice B1 y1.ks.length d1, .int .i64 y2.kd, .string y2.fd, .slice A2 y2.ws.length y2.ws.length, .int .i64 y2.fr, .int .i64 y2.tgt, .slice B2 y2.ks.length d2] 27)) w' → HasQ (n + m + 1) w' ⟨7, ⟨#[]⟩, [], 0, 0, [y1, y2]⟩ none 0 (some ⟨w4.heap.size, 0, none⟩) := fun w' hs => by
      have hsb : ∀ lo hi, w.heap.size + 1 ≤ lo → hi ≤ w4.heap.size → SameR lo hi w4 w' := fun lo hi h1 h2 => ⟨by have := hs.1; omega, fun k k1 k2 => (hs.2 k (by omega) (by omega)).trans (hbl.block k (by omega))⟩
      refine ⟨srcQ_nil w', rdK_blk (hv := [⟨y1, A1, B1, d1, w2.heap.size, w3.heap.size⟩, ⟨y2, A2, B2, d2, w3.heap.size, w4.heap.size⟩]) ((hs.2 w4.heap.size (by omega) q7).trans hX) rfl (fun x hx => ?_)⟩
      simp only [List.mem_cons, List.not_mem_nil, or_false] at hx
      rcases hx with rfl | rfl
      · exact hk1 w' ((SameR.out2 o2' (by omega) (Nat.le_refl _)).trans (hsb _ _ (by omega) (by omega)) (by omega))
      · exact hk2 w' (hsb _ _ (by omega) (by omega))
    obtain ⟨s0, s1, s2, s3, s4, s5⟩ := blk6 S7.rb
    have t0 := frozen_blk S7.rb 0
    have t1 := frozen_blk S7.rb 1
    have t2 := frozen_blk S7.rb 2
    have t3 := frozen_blk S7.rb 3
    have t4 := frozen_blk S7.rb 4
    have t5 := frozen_blk S7.rb 5
    obtain ⟨v0, v1, v2, v3, v4, v5⟩ := blk6 S4.rb
    have z0 := frozen_blk S4.rb 0
    have z1 := frozen_blk S4.rb 1
    have z2 := frozen_blk S4.rb 2
    have z3 := frozen_blk S4.rb 3
    have z4 := frozen_blk S4.rb 4
    have z5 := frozen_blk S4.rb 5
    have hF := QS.fin (n := n + m + 1) S7 ⟨7, ⟨#[]⟩, [], 0, 0, [y1, y2]⟩ none (some ⟨w4.heap.size, 0, none⟩) 2 hfin (.int .i64 7) (.string ⟨#[]⟩) (.slice none 0 0) (.int .i64 0) (.int .i64 0) (.slice (some ⟨w4.heap.size, 0, none⟩) 2 2)
    rw [World.setCell_alloc_past (hn := qW), World.setCell_alloc_past (hn := by simpa using qW), World.setCell_alloc_past (hn := by simpa using qW), World.setCell_alloc_past (hn := by simpa using qW), World.setCell_alloc_past (hn := by simpa using qW), World.setCell_alloc_past (hn := by simpa using qW)] at hF
    have HF := Lib.hid hF
    have HSM : Hid (SmQ (n + m + 1) ⟨7, ⟨#[]⟩, [], 0, 0, [y1, y2]⟩) := sm_node (by omega) (by omega) (by show _ ≤ 1000; simp) (fun k hk => by simp only [List.mem_cons, List.not_mem_nil, or_false] at hk; rcases hk with rfl | rfl; exact hsm1; exact hsm2)
    have HWC : Hid (∀ b off, (some ⟨w4.heap.size, 0, none⟩ : Option Addr) = some ⟨b, off, none⟩ → w.heap.size ≤ b ∧ b < (w4.alloc (.cells #[.int .i64 y1.kd, .string y1.fd, .slice A1 y1.ws.length y1.ws.length, .int .i64 y1.fr, .int .i64 y1.tgt, .slice B1 y1.ks.length d1, .int .i64 y2.kd, .string y2.fd, .slice A2 y2.ws.length y2.ws.length, .int .i64 y2.fr, .int .i64 y2.tgt, .slice B2 y2.ks.length d2] 27)).heap.size) := fun b off e => by simp only [Option.some.injEq, Addr.mk.injEq] at e; have := e.1; omega
    clear hF hfin hbl S7 S4 hX hk1 hsm1 hnil1 hwa1 hwb1 hwc1 hk2 hsm2 hnil2 hwa2 hwb2 hwc2 o2'
    go_wp2
    exact bodyPost_ret (v := .agg #[.int .i64 7, .string ⟨#[]⟩, .slice none 0 0, .int .i64 0, .int .i64 0, .slice (some ⟨w4.heap.size, 0, none⟩) 2 2]) (by simp [results, Tryz.results13, go_sem, *]) rfl (queryG_mk (wi := (w4.alloc (.cells #[.int .i64 y1.kd, .string y1.fd, .slice A1 y1.ws.length y1.ws.length, .int .i64 y1.fr, .int .i64 y1.tgt, .slice B1 y1.ks.length d1, .int .i64 y2.kd, .string y2.fd, .slice A2 y2.ws.length y2.ws.length, .int .i64 y2.fr, .int .i64 y2.tgt, .slice B2 y2.ks.length d2] 27))) ⟨7, ⟨#[]⟩, [], 0, 0, [y1, y2]⟩ none (some ⟨w4.heap.size, 0, none⟩) 2 HSM.out (.inr ⟨_, _, rfl⟩) (fun _ => rfl) (fun b off e => by cases e) HWC.out HF.out (by omega))
  have n4 : (v == 3) = false := by rw [beq_eq_false_iff_ne]; exact c4
  have hq5 := alloc_new w2 (.cells #[.int .i64 8, .string ⟨#[]⟩, .slice none 0 0, .int .i64 0, .int .i64 0, .slice none 0 0] 27)
  have S3 := S2.grow (wj := (w2.alloc (.cells #[.int .i64 8, .string ⟨#[]⟩, .slice none 0 0, .int .i64 0, .int .i64 0, .slice none 0 0] 27))) (by (repeat' (first | exact Below.refl _ _ | apply Below.alloc | apply Below.setCell | apply Below.drew | apply below_draws)) <;> (first | omega | (simp <;> omega)))
  have s5 : w2.heap.size < (w2.alloc (.cells #[.int .i64 8, .string ⟨#[]⟩, .slice none 0 0, .int .i64 0, .int .i64 0, .slice none 0 0] 27)).heap.size := by simp
  have O3 : OrS (n + m) w g (w2.alloc (.cells #[.int .i64 8, .string ⟨#[]⟩, .slice none 0 0, .int .i64 0, .int .i64 0, .slice none 0 0] 27)) p2 w2.heap.size [] (.slice none 0 0) :=
    ⟨S3, q2, hq5, World.ownsRow_nil _ _ _ _, fun m hm => by simp at hm, fun m hm => by simp at hm⟩
  go_wp2_with fail
  generalize (w2.alloc (.cells #[.int .i64 8, .string ⟨#[]⟩, .slice none 0 0, .int .i64 0, .int .i64 0, .slice none 0 0] 27)) = W3 at O3 S3 hq5 s5 ⊢
  refine (pick_gen g p2 2 (by omega) (by omega) _ S3.r (by omega)).mono ?_
  rintro e w3 ⟨f, ⟨rfl, hf1, hf2⟩, p3, hp3, r3, o3⟩
  have O4 := O3.gen r3 o3
  clear O3 S3 hq5 S2 o3 r3
  obtain ⟨c, rfl⟩ := Int.eq_ofNat_of_zero_le hf1
  have hc3 : c ≤ 1 := by omega
  have hfw : IntKind.i64.wrap (2 + (c : Int)) = ((2 + c : Nat) : Int) := by rw [IntKind.wrap_i64] <;> omega
  have hKc : K * (2 + c) ≤ K * 3 := Nat.mul_le_mul_left _ (by omega)
  generalize w2.heap.size = q5 at O4 q2 s5 ⊢
  go_wp2_with fail
  go_loopw [6] (fun nv wr => ∃ (a qq : Nat) (hv : List HdX) (vv : Value), nv = .int .i64 (a : Int) ∧ hv.length + a ≤ 3 ∧ qq + K * a ≤ p + 3 + 3 * K ∧ OrS (n + m) w g wr qq q5 hv vv) (fun nv _ => (intOf nv).toNat)
  case atStart => exact ⟨2 + c, p3, [], _, rfl, by simp; omega, by omega, O4⟩
  case round =>
    clear O4
    obtain ⟨a, qq, hv, vv, rfl, hl, hq, O⟩ := hrel
    have hlo := O.lo
    have hlt := O.lt
    have hvl : hv.length ≤ 3 := by omega
    rcases Nat.eq_zero_or_pos a with rfl | ha0
    · obtain ⟨B, d, rfl, hnl⟩ := own_formQ O.own
      obtain ⟨x0, x1, x2, x3, x4, x5⟩ := blk6 O.cq
      obtain ⟨s0, s1, s2, s3, s4, s5⟩ := blk6 O.s.rb
      have t0 := frozen_blk O.s.rb 0
      have t1 := frozen_blk O.s.rb 1
      have t2 := frozen_blk O.s.rb 2
      have t3 := frozen_blk O.s.rb 3
      have t4 := frozen_blk O.s.rb 4
      have t5 := frozen_blk O.s.rb 5
      have HF := Lib.hid (QS.fin (n := n + m + 1) O.s ⟨8, ⟨#[]⟩, [], 0, 0, hv.map (·.q)⟩ none B d (fun w' hs => O.has hs) (.int .i64 8) (.string ⟨#[]⟩) (.slice none 0 0) (.int .i64 0) (.int .i64 0) (.slice B hv.length d))
      have HSM : Hid (SmQ (n + m + 1) ⟨8, ⟨#[]⟩, [], 0, 0, hv.map (·.q)⟩) := sm_node (by omega) (by omega) (by rw [List.length_map]; omega) (fun k hk => by obtain ⟨x, hx, rfl⟩ := List.mem_map.1 hk; exact O.sm x hx)
      have HNL := Lib.hid hnl
      have HWC : Hid (∀ b off, B = some ⟨b, off, none⟩ → w.heap.size ≤ b ∧ b < wr.heap.size) := fun b off e => by
        subst e
        rcases O.own.2 with ⟨h1, h0⟩ | ⟨g', cap, cur, h1, h2, h3, _⟩
        · simp at h1
        · simp only [Value.slice.injEq, Option.some.injEq, Addr.mk.injEq] at h1
          have h4 := (Array.getElem?_eq_some_iff.1 h3).1
          have h5 := h1.1.1
          omega
      have HQ : Hid (qq ≤ p + (3 * K + 10)) := by show _ ≤ _; omega
      clear O hnl hq
      go_wp2
      exact bodyPost_ret (v := .agg #[.int .i64 8, .string ⟨#[]⟩, .slice none 0 0, .int .i64 0, .int .i64 0, .slice B (hv.map (·.q)).length d]) (by simp [results, Tryz.results13, go_sem, *]) rfl (queryG_mk (wi := wr) ⟨8, ⟨#[]⟩, [], 0, 0, hv.map (·.q)⟩ none B d HSM.out HNL.out (fun _ => rfl) (fun b off e => by cases e) HWC.out HF.out HQ.out)
    · obtain ⟨a2, rfl⟩ : ∃ a2, a = a2 + 1 := ⟨a - 1, by omega⟩
      have hgt : (0 : Int) < ((a2 + 1 : Nat) : Int) := by omega
      have hgt2 : (0 : Int) < (a2 : Int) + 1 := by omega
      have haw : IntKind.i64.wrap (((a2 + 1 : Nat) : Int) - 1) = (a2 : Int) := by rw [IntKind.wrap_i64] <;> omega
      have haw2 : IntKind.i64.wrap ((a2 : Int) + 1 - 1) = (a2 : Int) := by rw [IntKind.wrap_i64] <;> omega
      have hKm : K * (a2 + 1) = K * a2 + K := Nat.mul_succ K a2
      obtain ⟨x0, x1, x2, x3, x4, x5⟩ := blk6 O.cq
      have hrd := O.s.r
      have hg0 := O.s.g0
      clear x0 x1 x2 x3 x4
      go_wp2_with fail
      go_region_law (first | (refine step_append_w rowTQ encX_ok (by decide) rfl (.tmp 63) (.tmp 68) rfl (q5 + 1) vv hv (by simp [Act.eval]) ((own_genQ O.own (by omega) o9b).alloc _) ⟨w9.heap.size, 0, none⟩ 1 1 [(⟨y, A, B, d, wr.heap.size, w9.heap.size⟩ : HdX)] rfl (by simp [Act.eval]) (SrcE.lit encX_ok w9 27 #[.int .i64 y.kd, .string y.fd, .slice A y.ws.length y.ws.length, .int .i64 y.fr, .int .i64 y.tgt, .slice B y.ks.length d] [(⟨y, A, B, d, wr.heap.size, w9.heap.size⟩ : HdX)] rfl 1) (by show _ + 1 ≤ _; omega) (by omega) (by rw [show (w9.alloc _).heap.size = w9.heap.size + 1 by simp]; omega) ?_; intro v7 w7 o7 g7 h7; have b7 := O.blk7 o9b ((Below.refl _ w9).alloc (Nat.le_refl _) _) g7; obtain ⟨_, _, _, _, _, y7⟩ := blk6 b7; have z7 := frozen_blk b7 5; obtain ⟨B7, d7, rfl, hnl7⟩ := own_formQ o7) | (go_simp; go_at_call 13; refine (IH.out g qq _ (by exact hrd) (by omega)).mono ?_; rintro e w9 ⟨y, A, B, d, ⟨rfl, hsm9, hnil9, hwa9, hwb9, hwc9, hk9⟩, p9, hp9, r9, o9⟩; have o9b : Outer wr.heap.size g wr w9 := o9; have k9b : KeptQ (n + m) wr w9 y A y.ws.length B := hk9; have h9s := o9b.2.1; have c5 := (o9b.cells.1 q5 5 hlt (by omega)).trans x5; have h59 : q5 < w9.heap.size := (by omega); have c6 : ∀ x, (w9.alloc x).cell? ⟨q5, 5, none⟩ = some vv := fun x => (belowL ((Below.refl _ w9).alloc (Nat.le_refl _) x) h59).trans c5))
      all_goals (have oN := O.next r9 o9b k9b hsm9 ((Below.refl _ w9).alloc (Nat.le_refl _) _) o7 g7 h7)
      all_goals (rw [List.length_append, List.length_singleton] at oN)
      all_goals (have ON := Lib.hid oN)
      all_goals (clear oN)
      all_goals (clear O o7 g7 h7 b7 hk9 k9b o9 o9b hwb9 hwc9 hwa9)
      all_goals (go_wp2)
      all_goals (go_roundw)
      all_goals (first | exact ⟨a2, p9, hv ++ [(⟨y, A, B, d, wr.heap.size, w9.heap.size⟩ : HdX)], .slice B7 (hv.length + 1) d7, rfl, by (simp <;> omega), by omega, ON.out⟩ | (simp [intOf]; done) | (simp [intOf]; omega))
theorem l30Query_gen (n : Nat) : QgC n 3 220 := l30Query_step n 2 70 (by omega) (by omega) (by omega) (by omega) (l30Query_step n 1 20 (by omega) (by omega) (by omega) (by omega) (l30Query_one n))
end Go.Proofs.YtaobgliimbmemaaGreatDoor
