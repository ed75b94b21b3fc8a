/-
  impl's reader: a question. (Printed by mk_queryi.py.)
-/
import Derived.Test.YtaobgliimbmemaaGreatDoorLeafI
import Derived.Maps.RangeWalk
import Derived.Deep.RegionLaw
namespace Go.Proofs.YtaobgliimbmemaaGreatDoor
open Go.RowKit Go.Sort Go.Maps
set_option linter.unusedVariables false
set_option linter.unusedSimpArgs false

theorem OnlyS.fit {g : Nat} {w w' : World} (h : OnlyS (fun k => k = g ∨ w.heap.size ≤ k) w w') : OnlyS (fun k => k = g) w w' := ⟨h.1, h.2.1, fun k hk hn => h.2.2 k hk (fun e => e.elim hn (fun e => absurd hk (by omega)))⟩
theorem OnlyS.six (w : World) (r : Nat) (u0 u1 u2 u3 u4 u5 : Value) : OnlyS (fun k => k = r) w ((((((w.setCell ⟨r, 0, none⟩ u0).setCell ⟨r, 1, none⟩ u1).setCell ⟨r, 2, none⟩ u2).setCell ⟨r, 3, none⟩ u3).setCell ⟨r, 4, none⟩ u4).setCell ⟨r, 5, none⟩ u5) :=
  ((((((OnlyS.set _ _ _ _).trans (OnlyS.set _ _ _ _)).trans (OnlyS.set _ _ _ _)).trans (OnlyS.set _ _ _ _)).trans (OnlyS.set _ _ _ _)).trans (OnlyS.set _ _ _ _))
/-- what the reader hands back: a question of the call's own; the reader stands behind it. -/
def QyR (n g : Nat) (s : ByteArray) (q : QD) (l : Tx) (w : World) (e : Ending) (w' : World) : Prop := ∃ (A : Option Addr) (c : Nat) (B : Option Addr) (d p' : Nat),
  (e = .returned (.agg #[.int .i64 q.kd, .string q.fd, .slice A q.ws.length c, .int .i64 q.fr, .int .i64 q.tgt, .slice B q.ks.length d]) ∧ OwnQ (n + 1) (fun k => w.heap.size ≤ k ∧ k < w'.heap.size) w' ⟨q, A, c, B, d⟩ ∧ RdQ w' g s p' ∧ p' ≤ s.size ∧ rest s p' = l) ∧ OnlyS (fun k => k = g) w w'
theorem QyR.mk {n g : Nat} {s : ByteArray} {q : QD} {l : Tx} {w w3 W : World} {A : Option Addr} {c : Nat} {B : Option Addr} {d p' : Nat} {S : PS} (ho : OwnQ (n + 1) S w3 ⟨q, A, c, B, d⟩) (hS : ∀ k, S k → w.heap.size < k ∧ k < w3.heap.size) (hr : RdQ w3 g s p') (hp : p' ≤ s.size) (hl : rest s p' = l) (hg : g < w.heap.size)
    (hz : OnlyS (fun k => k = g ∨ w.heap.size ≤ k) w w3) (h6 : OnlyS (fun k => k = w.heap.size) w3 W) :
    QyR n g s q l w (.returned (.agg #[.int .i64 q.kd, .string q.fd, .slice A q.ws.length c, .int .i64 q.fr, .int .i64 q.tgt, .slice B q.ks.length d])) W :=
  ⟨A, c, B, d, p', ⟨rfl, (OwnQ.same _ _ _ _ ho (SameS.only h6 (fun k hk e => by have := (hS k hk).1; omega))).sup (fun k hk => by have := hS k hk; have := h6.2.1; exact ⟨by omega, by omega⟩),
    (h6.2.2 g hr.lt (by omega)).trans hr, hp, hl⟩, (hz.trans (h6.wide (fun k hk => .inr (by omega)))).fit⟩
theorem head_at {s : ByteArray} {p : Nat} {b : UInt8} (h : (rest s p).head? = some b) : ∃ hp : p < s.size, s[p] = b := by
  rcases Nat.lt_or_ge p s.size with hp | hp
  · rw [rest_cons hp, List.head?_cons] at h
    exact ⟨hp, Option.some.inj h⟩
  · rw [rest_end hp] at h; cases h
theorem head_no {s : ByteArray} {p : Nat} {b : UInt8} (h : (rest s p).head? ≠ some b) : ∀ hp : p < s.size, s[p] ≠ b := fun hp e => h (by rw [rest_cons hp, List.head?_cons, e])
theorem rest_tail (s : ByteArray) (p : Nat) : (rest s p).tail = rest s (p + 1) := by unfold rest; rw [List.tail_drop]
set_option maxRecDepth 8000 in
set_option maxHeartbeats 3200000 in
theorem query_leaf (n g p : Nat) (s : ByteArray) (w w0 : World) (HL : Hid (LaidR w0)) (h : RdQ w g s p) (hp : p ≤ s.size) (hs : s.size ≤ 1000) (hh : (rest s p).head? ≠ some 40) (hg : w0.heap.size ≤ g) (hB : Below w0.heap.size w0 w) :
    Calls Tryz.prog 14 #[.pointer (some ⟨g, 0, none⟩)] w (QyR n g s (leafI (tokL (rest s p))) (rstL (rest s p)) w) := by
  have HH := Lib.hid (head_no hh)
  have HT := Lib.hid (rest_rst s p)
  have hgl := h.lt
  have htl : (tokL (rest s p)).length ≤ s.size - p := by have := tok_le (rest s p); rwa [rest_len] at this
  have CL := Lib.hid (fun V (hV : LaidR V) => leaf_any n (tokL (rest s p)) _ rfl (by omega) V hV)
  have CT := Lib.hid (fun V (hV : RdQ V g s p) => token_any g p s V hV hp (by omega))
  generalize (tokL (rest s p)) = t at HT CL CT htl ⊢
  generalize rstL (rest s p) = l at HT ⊢
  generalize leafI t = q at CL ⊢
  have hB0 : Below w.heap.size w (w.alloc (.cells #[.int .i64 0, .string ⟨#[]⟩, .slice none 0 0, .int .i64 0, .int .i64 0, .slice none 0 0] 27)) := (Below.refl _ _).alloc (Nat.le_refl _) _
  have r0 := alloc_new w (.cells #[.int .i64 0, .string ⟨#[]⟩, .slice none 0 0, .int .i64 0, .int .i64 0, .slice none 0 0] 27)
  have z0 : w.heap.size < (w.alloc (.cells #[.int .i64 0, .string ⟨#[]⟩, .slice none 0 0, .int .i64 0, .int .i64 0, .slice none 0 0] 27)).heap.size := by simp
  have h0 := h.below hB0
  clear hh h
  go_enter Tryz.func14, Tryz.ntmps14
  go_wp2_with fail
  generalize (w.alloc (.cells #[.int .i64 0, .string ⟨#[]⟩, .slice none 0 0, .int .i64 0, .int .i64 0, .slice none 0 0] 27)) = W0 at hB0 r0 z0 h0 ⊢
  refine (skip_no g p s 40 _ rfl W0 h0 hp HH.out (by omega)).mono ?_
  rintro e w1 ⟨⟨rfl, h1⟩, o1⟩
  go_wp2_with fail
  refine (CT.out _ h1).mono ?_
  rintro e w2 ⟨⟨rfl, h2⟩, o2⟩
  have o12 := o1.trans o2
  have z2 := o12.2.1
  have hz2 : OnlyS (fun k => k = g ∨ w.heap.size ≤ k) w w2 := (OnlyS.of hB0).trans (o12.wide (fun k hk => .inl hk))
  have hB2 : Below w0.heap.size w0 w2 := hB.trans (hz2.base (fun k hk => hk.elim (fun e => e ▸ hg) (fun e => Nat.le_trans hB.size e)) hB.size)
  have r2 := (o12.2.2 w.heap.size z0 (by omega)).trans r0
  clear h0 h1 o1 o2 o12 hB0 r0
  go_wp2_with fail
  refine (CL.out _ (HL.out.below hB2)).mono ?_
  rintro e w3 ⟨A, c, B, d, ⟨rfl, ho⟩, hb3⟩
  have r3 := (hb3.block w.heap.size (by omega)).trans r2
  have h3 := Lib.hid (h2.below hb3)
  have HO := Lib.hid ho
  have hz3 := Lib.hid (hz2.trans (OnlyS.of hb3))
  obtain ⟨s0, s1, s2, s3, s4, s5⟩ := blk6 r3
  have t0 := frozen_blk r3 0
  have t1 := frozen_blk r3 1
  have t2 := frozen_blk r3 2
  have t3 := frozen_blk r3 3
  have t4 := frozen_blk r3 4
  have t5 := frozen_blk r3 5
  have z3 := hb3.size
  clear ho hb3 h2 hz2 hB2 r2 r3
  have HF := Lib.hid (fun W (h6 : OnlyS (fun k => k = w.heap.size) w3 W) => QyR.mk (w := w) HO.out (fun k hk => ⟨by have := hk.1; omega, hk.2⟩) h3.out (by omega) HT.out hgl hz3.out h6)
  clear HO h3 hz3
  go_wp2
  exact bodyPost_ret (v := .agg #[.int .i64 q.kd, .string q.fd, .slice A q.ws.length c, .int .i64 q.fr, .int .i64 q.tgt, .slice B q.ks.length d]) (by simp [results, Tryz.results14, go_sem, *]) rfl (HF.out _ (OnlyS.six _ _ _ _ _ _ _ _))

/-! the table of names -/
theorem ops_other {x : Int} (h7 : x ≠ 7) (h8 : x ≠ 8) (h9 : x ≠ 9) (h10 : x ≠ 10) (z : DataW Unit) : Rows.laid_loop_example_fossick_impl_opNames.atKey (.int .i64 x) z = z := by
  have e7 : ¬ (7 : Int) = x := fun e => h7 e.symm
  have e8 : ¬ (8 : Int) = x := fun e => h8 e.symm
  have e9 : ¬ (9 : Int) = x := fun e => h9 e.symm
  have e10 : ¬ (10 : Int) = x := fun e => h10 e.symm
  simp [DataW.atKey, Rows.laid_loop_example_fossick_impl_opNames, Lit.sameKey, e7, e8, e9, e10]
theorem ops_inv {x : Int} {c : ByteArray} (h : ∀ zd : DataW Unit, Rows.laid_loop_example_fossick_impl_opNames.atKey (.int .i64 x) zd = .lit (.string c.data.toList)) : (x = 7 ∨ x = 8 ∨ x = 9 ∨ x = 10) ∧ c = tb (nameL x) := by
  have hx : x = 7 ∨ x = 8 ∨ x = 9 ∨ x = 10 := by
    rcases Classical.em (x = 7) with e | h7
    · exact .inl e
    rcases Classical.em (x = 8) with e | h8
    · exact .inr (.inl e)
    rcases Classical.em (x = 9) with e | h9
    · exact .inr (.inr (.inl e))
    rcases Classical.em (x = 10) with e | h10
    · exact .inr (.inr (.inr e))
    have := h (.lit (.int .i64 0))
    rw [ops_other h7 h8 h9 h10] at this
    cases this
  refine ⟨hx, ?_⟩
  have h1 := h (.lit (.int .i64 0))
  rw [ops_at hx] at h1
  simp only [DataW.lit.injEq, Lit.string.injEq] at h1
  exact tb_eq h1.symm
/-- what the range has found so far: k is the kind, or its name is still to come. -/
def FndO (l : Tx) (left : Lit → Bool) (k : Int) : Prop := k = kindOf l ∨ (k = 0 ∧ ∀ x : Int, (x = 7 ∨ x = 8 ∨ x = 9 ∨ x = 10) → nameL x = l → left (.int .i64 x) = true)
theorem kindOf_none {l : Tx} (h : ∀ x : Int, (x = 7 ∨ x = 8 ∨ x = 9 ∨ x = 10) → nameL x ≠ l) : kindOf l = 0 := by
  unfold kindOf
  rw [if_neg (fun e => h 7 (.inl rfl) e.symm), if_neg (fun e => h 8 (.inr (.inl rfl)) e.symm), if_neg (fun e => h 9 (.inr (.inr (.inl rfl))) e.symm), if_neg (fun e => h 10 (.inr (.inr (.inr rfl))) e.symm)]
theorem FndO.start (l : Tx) : FndO l (Maps.has (Rows.laid_loop_example_fossick_impl_opNames : DataW Unit)) 0 := .inr ⟨rfl, fun x hx _ => by rcases hx with rfl | rfl | rfl | rfl <;> rfl⟩
theorem FndO.done {l : Tx} {left : Lit → Bool} {k : Int} (h : FndO l left k) (hl : ∀ z, left z = false) : k = kindOf l := by
  rcases h with h | ⟨rfl, h⟩
  · exact h
  · refine (kindOf_none fun x hx e => ?_).symm
    have := h x hx e
    rw [hl] at this; cases this
theorem FndO.hit {l : Tx} {left : Lit → Bool} {x : Int} (hx : x = 7 ∨ x = 8 ∨ x = 9 ∨ x = 10) (hn : nameL x = l) : FndO l left x := .inl (by rw [← hn, kindOf_name hx])
theorem FndO.miss {l : Tx} {left : Lit → Bool} {k x : Int} (h : FndO l left k) (hn : nameL x ≠ l) : FndO l (fun z => left z && !z.sameKey (.int .i64 x)) k := by
  rcases h with h | ⟨h0, h⟩
  · exact .inl h
  · refine .inr ⟨h0, fun y hy e => ?_⟩
    have h1 := h y hy e
    have h2 : y ≠ x := fun e2 => hn (e2 ▸ e)
    simp only [h1, Bool.true_and, Bool.not_eq_true']
    simp [Lit.sameKey]
    exact h2


theorem set_grownK (w : World) (g j : Nat) (v : Value) : w.grownBy (w.setCell ⟨g, j, none⟩ v) (some g) :=
  ⟨rfl, rfl, rfl, by simp, fun k hk hne => heap_setCell_other w ⟨g, j, none⟩ k v (fun e => hne (by have e2 : k = g := e; rw [e2]))⟩
theorem own_gK {w w' : World} {base e size n g : Nat} {v : Value} {xs : List Value} (h : w.ownsRow base e size v n xs) (hb : g < base) (ho : OnlyS (fun k => k = g) w w') : w'.ownsRow base e size v n xs := by
  refine h.kept (row := some g) ⟨ho.1.1, ho.1.2.1, ho.1.2.2, ho.2.1, fun k hk hne => ho.2.2 k hk (fun e => hne (by rw [e]))⟩ ?_
  cases hv : v.ownBlock with
  | none => exact .inl rfl
  | some k => exact .inr (by have := (h.lt k hv).1; intro e; injection e; omega)
theorem own_formK {w : World} {base e size n : Nat} {v : Value} {xs : List Value} (h : w.ownsRow base e size v n xs) : ∃ B d, v = .slice B n d := by
  rcases h.2 with ⟨h1, h0⟩ | ⟨g', cap, cur, h1, _⟩
  · subst h0; exact ⟨none, 0, h1⟩
  · exact ⟨_, _, h1⟩
theorem rowTK : RowT Tryz.prog 25 27 6 88 := rowT_of Tryz.underlying25 infoQ rfl
section
variable {α : Type} {enc : α → List Value} {F : Nat} {P : Program} {w : World} {ops : Array Oper} {o : Oper} {a : Act} {Q : Exit → Act → World → Prop}
theorem step_append_k {ST E : TypeId} {B : Nat} {K : Act → World → Prop} {EE : Prop} (T : RowT P ST E F B) (he : Enc enc F) (hF : 0 < F) (hgd : o.guard = none) (s x : Operand) (ho : o.op = .call { callee := .builtin .append, args := #[s, x], argTypes := #[ST, ST] })
    (base : Nat) (v : Value) (L : List α) (hs : a.eval s = v) (hown : w.ownsRow base E F v L.length (L.flatMap enc))
    (ad : Addr) (m c : Nat) (M : List α) (hm : m = M.length) (hx : a.eval x = .slice (some ad) m c) (hM : SrcE enc F w (some ad) c M) (hn : L.length + M.length ≤ 16777216) (hB : B ≤ 4096) (hbase : base ≤ w.heap.size)
    (h : ∀ v' w', w'.ownsRow base E F v' (L ++ M).length ((L ++ M).flatMap enc) → w.grownBy w' v.ownBlock → (v'.ownBlock = v.ownBlock ∨ v'.ownBlock = some w.heap.size) → K (a.put o.dst v') w') :
    if Region.wanted o (yielded ops a.tmps) = true then Oper.wp P o a w K Q else EE := by
  subst hm
  obtain ⟨i0, z, hi, hz0, hz1, hz2, hzs⟩ := T.info
  have hnews : ∀ j u, (M.flatMap enc)[j]? = some u → w.cell? (ad.add j) = some u := by
    intro j u hu
    have hj : 0 < M.length := by
      have := (List.getElem?_eq_some_iff.1 hu).1
      rw [he.flat] at this
      rcases Nat.eq_zero_or_pos M.length with h0 | h0
      · rw [h0] at this; omega
      · exact h0
    obtain ⟨b, off, e, _, hc⟩ := hM.1.2 hj
    simp only [Option.some.injEq] at e
    subst e
    have e2 : (Addr.add ⟨b, off, none⟩ j) = ⟨b, off + j, none⟩ := by
      unfold Addr.add; split
      · rename_i h; subst h; rfl
      · rfl
    rw [e2]; exact hc j u hu
  obtain ⟨v', w', hrun, h1, h2, h3, h4⟩ := run_append_own_at (P := P) w base ST o.type E i0 z F B T.und hi hz0 hz1 hz2 hzs hF v _ _ hown ad M.length c (M.flatMap enc) (he.flat M) hnews (he.flat_one M) (by unfold maxLen; omega) (Nat.le_trans (Nat.mul_le_mul hn hB) (by omega)) hbase
  have h1' : w'.ownsRow base E F v' (L ++ M).length ((L ++ M).flatMap enc) := by rw [List.length_append, List.flatMap_append]; exact h1
  have hw : Region.wanted o (yielded ops a.tmps) = true := by simp [Region.wanted, hgd]
  rw [if_pos hw]
  unfold Oper.wp execOp
  simp only [ho, resolve, invoke, builtin, Sem.run_bind, Sem.run_pure, Result.andThen_ok, List.map_toArray, List.map_cons, List.map_nil, hs, hx, hrun]
  exact h _ _ h1' h2 h4
end
/-- the reader between two kids: the question's variable lies in block q3. -/
structure KidS (n g : Nat) (s : ByteArray) (q3 : Nat) (kd fr : Int) (w wr : World) (pp : Nat) (hv : List HdR) (vv : Value) (S' : PS) : Prop where
  r : RdQ wr g s pp
  le : pp ≤ s.size
  q : wr.heap[q3]? = some (.cells #[.int .i64 kd, .string ⟨#[]⟩, .slice none 0 0, .int .i64 fr, .int .i64 0, vv] 27 (0, 0))
  r0 : wr.heap[w.heap.size]? = some (.cells #[.int .i64 0, .string ⟨#[]⟩, .slice none 0 0, .int .i64 0, .int .i64 0, .slice none 0 0] 27)
  z : OnlyS (fun k => k = g ∨ w.heap.size ≤ k) w wr
  own : wr.ownsRow (q3 + 1) 27 6 vv hv.length (hv.flatMap encHR)
  zn : ZnQ (OwnQ (n + 1)) wr S' hv
  sub : ∀ k, S' k → q3 < k ∧ k < wr.heap.size
  ne : ∀ gg, vv.ownBlock = some gg → ¬ S' gg
  lo : g < w.heap.size ∧ w.heap.size < q3
theorem KidS.qlt {n g : Nat} {s : ByteArray} {q3 : Nat} {kd fr : Int} {w wr : World} {pp : Nat} {hv : List HdR} {vv : Value} {S' : PS} (h : KidS n g s q3 kd fr w wr pp hv vv S') : q3 < wr.heap.size := (Array.getElem?_eq_some_iff.1 h.q).1
theorem KidS.start {n g : Nat} {s : ByteArray} {q3 : Nat} {kd fr : Int} {w wr : World} {pp : Nat} (r : RdQ wr g s pp) (le : pp ≤ s.size) (q : wr.heap[q3]? = some (.cells #[.int .i64 kd, .string ⟨#[]⟩, .slice none 0 0, .int .i64 fr, .int .i64 0, .slice none 0 0] 27 (0, 0))) (r0 : wr.heap[w.heap.size]? = some (.cells #[.int .i64 0, .string ⟨#[]⟩, .slice none 0 0, .int .i64 0, .int .i64 0, .slice none 0 0] 27))
    (z : OnlyS (fun k => k = g ∨ w.heap.size ≤ k) w wr) (lo : g < w.heap.size ∧ w.heap.size < q3) : KidS n g s q3 kd fr w wr pp [] (.slice none 0 0) (fun _ => False) :=
  ⟨r, le, q, r0, z, World.ownsRow_nil _ _ _ _, trivial, fun _ h => h.elim, fun _ h => by simp [Value.ownBlock] at h, lo⟩
theorem KidS.move {n g : Nat} {s : ByteArray} {q3 : Nat} {kd fr : Int} {w wr w1 : World} {pp p2 : Nat} {hv : List HdR} {vv : Value} {S' : PS} (h : KidS n g s q3 kd fr w wr pp hv vv S') (o : OnlyS (fun k => k = g) wr w1) (r : RdQ w1 g s p2) (hp : p2 ≤ s.size) : KidS n g s q3 kd fr w w1 p2 hv vv S' := by
  have hlo := h.lo
  have hlt := h.qlt
  have hs := o.2.1
  exact ⟨r, hp, (o.2.2 q3 hlt (by omega)).trans h.q, (o.2.2 w.heap.size (by omega) (by omega)).trans h.r0, h.z.trans (o.wide (fun k hk => .inl hk)), own_gK h.own (by omega) o,
    ZnQ.same OwnQ.same h.zn (SameS.only o (fun k hk e => by have := h.sub k hk; omega)), fun k hk => by have := h.sub k hk; exact ⟨this.1, by omega⟩, h.ne, hlo⟩
theorem KidS.blk7 {n g : Nat} {s : ByteArray} {q3 : Nat} {kd fr : Int} {w wr w9 wX w7 : World} {pp : Nat} {hv : List HdR} {vv : Value} {S' : PS} (h : KidS n g s q3 kd fr w wr pp hv vv S') (o9 : OnlyS (fun k => k = g) wr w9) (hX : Below w9.heap.size w9 wX) (g7 : wX.grownBy w7 vv.ownBlock) :
    w7.heap[q3]? = some (.cells #[.int .i64 kd, .string ⟨#[]⟩, .slice none 0 0, .int .i64 fr, .int .i64 0, vv] 27 (0, 0)) := by
  have hlo := h.lo
  have hlt := h.qlt
  have h1 := o9.2.1
  have h2 := hX.size
  refine (g7.block q3 (by omega) ?_).trans ((hX.block q3 (by omega)).trans ((o9.2.2 q3 hlt (by omega)).trans h.q))
  intro e
  have := (h.own.lt q3 e.symm).1
  omega
theorem KidS.next {n g : Nat} {s : ByteArray} {q3 : Nat} {kd fr : Int} {w wr w9 wX w7 : World} {pp p9 : Nat} {hv : List HdR} {vv v7 : Value} {S' : PS} {m : HdR} (h : KidS n g s q3 kd fr w wr pp hv vv S') (o9 : OnlyS (fun k => k = g) wr w9) (hm : OwnQ (n + 1) (fun k => wr.heap.size ≤ k ∧ k < w9.heap.size) w9 m)
    (r9 : RdQ w9 g s p9) (hp9 : p9 ≤ s.size) (hX : Below w9.heap.size w9 wX) (o7 : w7.ownsRow (q3 + 1) 27 6 v7 (hv ++ [m]).length ((hv ++ [m]).flatMap encHR)) (g7 : wX.grownBy w7 vv.ownBlock) (h7 : v7.ownBlock = vv.ownBlock ∨ v7.ownBlock = some wX.heap.size) :
    KidS n g s q3 kd fr w (w7.setCell ⟨q3, 5, none⟩ v7) p9 (hv ++ [m]) v7 (fun k => S' k ∨ (wr.heap.size ≤ k ∧ k < w9.heap.size)) := by
  have hlo := h.lo
  have hlt := h.qlt
  have h1 := o9.2.1
  have h2 := hX.size
  have h3 := g7.size
  have hvb : ∀ k, vv.ownBlock = some k → q3 < k ∧ k < wr.heap.size := fun k hk => by have := h.own.lt k hk; omega
  have hb7 := h.blk7 o9 hX g7
  have hsz : (w7.setCell ⟨q3, 5, none⟩ v7).heap.size = w7.heap.size := by simp
  -- a block of w9 that is neither the question's nor the elder row's stands
  have keep : ∀ k, k < w9.heap.size → k ≠ q3 → (vv.ownBlock ≠ some k) → (w7.setCell ⟨q3, 5, none⟩ v7).heap[k]? = w9.heap[k]? := fun k hk hne hv2 =>
    (heap_setCell_other w7 ⟨q3, 5, none⟩ k v7 (fun e => hne e)).trans ((g7.block k (by omega) (fun e => hv2 e.symm)).trans (hX.block k hk))
  refine ⟨?_, hp9, ?_, ?_, ?_, ?_, ?_, ?_, ?_, hlo⟩
  · exact (keep g r9.lt (by omega) (fun e => by have := hvb g e; omega)).trans r9
  · exact heap_setCell_same w7 q3 5 _ _ v7 hb7
  · exact (keep w.heap.size (by omega) (by omega) (fun e => by have := hvb _ e; omega)).trans ((o9.2.2 w.heap.size (by omega) (by omega)).trans h.r0)
  · refine h.z.trans ((o9.wide (fun k hk => .inl hk)).trans ?_)
    refine ⟨⟨?_, ?_, ?_⟩, by omega, fun k hk hn => keep k hk (fun e => hn (.inr (by omega))) (fun e => hn (.inr (by have := hvb k e; omega)))⟩
    · exact g7.os.trans hX.os
    · exact g7.tape.trans hX.tape
    · exact g7.output.trans hX.output
  · refine o7.kept (row := some q3) (set_grownK w7 q3 5 v7) ?_
    cases hv3 : v7.ownBlock with
    | none => exact .inl rfl
    | some k => exact .inr (by have := (o7.lt k hv3).1; intro e; injection e; omega)
  · refine ZnQ.snoc (S := S') (S' := fun k => wr.heap.size ≤ k ∧ k < w9.heap.size) ?_ ?_ (fun k h4 h5 => by have := h.sub k h4; omega) (fun k hk => .inl hk) (fun k hk => .inr hk)
    · refine ZnQ.same OwnQ.same (ZnQ.same OwnQ.same h.zn (SameS.only o9 (fun k hk e => by have := h.sub k hk; omega))) (fun k hk hk2 => keep k hk2 (by have := h.sub k hk; omega) (fun e => h.ne k e hk))
    · exact OwnQ.same _ _ _ _ hm (fun k hk hk2 => keep k hk2 (by omega) (fun e => by have := hvb k e; omega))
  · rintro k (hk | hk)
    · have := h.sub k hk; exact ⟨this.1, by omega⟩
    · exact ⟨by omega, by omega⟩
  · intro gg hgg hS
    rcases h7 with h7 | h7
    · rw [h7] at hgg
      rcases hS with hS | hS
      · exact h.ne gg hgg hS
      · have := hvb gg hgg; omega
    · rw [h7] at hgg
      injection hgg with hgg
      rcases hS with hS | hS
      · have := h.sub gg hS; omega
      · omega
theorem KidS.whole {n g : Nat} {s : ByteArray} {q3 : Nat} {kd fr : Int} {w wr : World} {pp : Nat} {hv : List HdR} {B : Option Addr} {d : Nat} {S' : PS} (h : KidS n g s q3 kd fr w wr pp hv (.slice B hv.length d) S') :
    OwnQ (n + 2) (fun k => q3 < k ∧ k < wr.heap.size) wr ⟨⟨kd, ⟨#[]⟩, [], fr, 0, hv.map (·.q)⟩, none, 0, B, d⟩ := by
  refine ⟨fun _ => False, fun k => q3 < k ∧ k < wr.heap.size, fun _ h => h.elim, fun _ h => h, fun _ h => h.elim, .inl ⟨rfl, rfl, rfl⟩, ?_⟩
  rcases h.own.2 with ⟨h1, h0⟩ | ⟨g', cap, cur, h1, h2, h3, _⟩
  · simp only [Value.slice.injEq] at h1
    obtain ⟨rfl, _, rfl⟩ := h1
    have e : hv = [] := List.length_eq_zero_iff.1 h0
    exact .inl ⟨rfl, rfl, by rw [e]; rfl⟩
  · have hown := h.own
    simp only [Value.slice.injEq] at h1
    obtain ⟨rfl, _, rfl⟩ := h1
    have hgl := (Array.getElem?_eq_some_iff.1 h3).1
    exact .inr ⟨g', hv, S', rfl, ⟨by omega, hgl⟩, fun k hk => h.sub k hk, h.ne g' rfl, rfl, own_monoZ hown (Nat.zero_le _), h.zn⟩
theorem QyR.node {n g : Nat} {s : ByteArray} {q : QD} {l : Tx} {w wr W : World} {q3 : Nat} {kd fr : Int} {pp : Nat} {hv : List HdR} {B : Option Addr} {d : Nat} {S' : PS} (h : KidS n g s q3 kd fr w wr pp hv (.slice B hv.length d) S') (hq : q = ⟨kd, ⟨#[]⟩, [], fr, 0, hv.map (·.q)⟩) (hl : rest s pp = l) (h6 : OnlyS (fun k => k = w.heap.size) wr W) :
    QyR (n + 1) g s q l w (.returned (.agg #[.int .i64 kd, .string ⟨#[]⟩, .slice none 0 0, .int .i64 fr, .int .i64 0, .slice B hv.length d])) W := by
  have hlo := h.lo
  have := QyR.mk (w := w) h.whole (fun k hk => ⟨by omega, hk.2⟩) h.r h.le hl hlo.1 h.z h6
  rw [hq]
  simp only [List.length_map, List.length_nil] at this
  exact this
theorem kidsI_end (f : Tx → QD × Tx) (c : Nat) {l : Tx} (h : l.head? ≠ some 32) : kidsI f c l = ([], l) := by
  cases l with
  | nil => cases c <;> rfl
  | cons b r =>
    have hb : b ≠ 32 := fun e => h (by rw [e]; rfl)
    rw [kidsI]
    intro l' e
    simp at e
    exact hb e.1


def QyC (w0 : World) (n : Nat) : Prop := ∀ (g p : Nat) (s : ByteArray) (w : World), RdQ w g s p → p ≤ s.size → s.size ≤ 1000 → s.size - p ≤ n → w0.heap.size ≤ g → Below w0.heap.size w0 w →
  Calls Tryz.prog 14 #[.pointer (some ⟨g, 0, none⟩)] w (QyR n g s (queryI n (rest s p)).1 (queryI n (rest s p)).2 w)
set_option maxRecDepth 20000 in
set_option maxHeartbeats 12800000 in
theorem query_node (n g p : Nat) (s : ByteArray) (w w0 : World) (HL : Hid (LaidR w0)) (IH : Hid (QyC w0 n)) (h : RdQ w g s p) (hp : p ≤ s.size) (hs : s.size ≤ 1000) (hn : s.size - p ≤ n + 1) (hh : (rest s p).head? = some 40) (hg : w0.heap.size ≤ g) (hB : Below w0.heap.size w0 w) :
    Calls Tryz.prog 14 #[.pointer (some ⟨g, 0, none⟩)] w (QyR (n + 1) g s (nodeI (queryI n) (rest s (p + 1))).1 (nodeI (queryI n) (rest s (p + 1))).2 w) := by
  obtain ⟨hlt, hb⟩ := head_at hh
  obtain ⟨bo, hop⟩ := HL.out.op
  have hbo : bo < w0.heap.size := by obtain ⟨_, ho⟩ := hop.own; exact ho.lt
  have hgl := h.lt
  have HT0 := rest_rst s (p + 1)
  have htl : p + 1 + (tokL (rest s (p + 1))).length ≤ s.size := by have := tok_le (rest s (p + 1)); rw [rest_len] at this; omega
  have CT := Lib.hid (fun V (hV : RdQ V g s (p + 1)) => token_any g (p + 1) s V hV (by omega) (by omega))
  have HFR0 : Hid (∀ (kd fr : Int) (l3 : Tx) (ks : List QD) (l4 : Tx), kd = kindOf (tokL (rest s (p + 1))) → frI kd (rstL (rest s (p + 1))) = (fr, l3) → kidsI (queryI n) 200 l3 = (ks, l4) → nodeI (queryI n) (rest s (p + 1)) = (⟨kd, ⟨#[]⟩, [], fr, 0, ks⟩, skipL 41 l4)) := by
    intro kd fr l3 ks l4 e1 e2 e3
    subst e1
    unfold nodeI
    simp only [e2, e3]
  rw [← HT0] at HFR0
  generalize nodeI (queryI n) (rest s (p + 1)) = QN at HFR0 ⊢
  clear HT0
  obtain ⟨p2, hp2⟩ : ∃ p2, p2 = p + 1 + (tokL (rest s (p + 1))).length := ⟨_, rfl⟩
  rw [← hp2] at HFR0 htl CT
  have hpp2 : p + 1 ≤ p2 := by omega
  clear hp2
  generalize tokL (rest s (p + 1)) = tk at HFR0 CT
  have hB0 : Below w.heap.size w (w.alloc (.cells #[.int .i64 0, .string ⟨#[]⟩, .slice none 0 0, .int .i64 0, .int .i64 0, .slice none 0 0] 27)) := (Below.refl _ _).alloc (Nat.le_refl _) _
  have r0 := alloc_new w (.cells #[.int .i64 0, .string ⟨#[]⟩, .slice none 0 0, .int .i64 0, .int .i64 0, .slice none 0 0] 27)
  have z0 : w.heap.size < (w.alloc (.cells #[.int .i64 0, .string ⟨#[]⟩, .slice none 0 0, .int .i64 0, .int .i64 0, .slice none 0 0] 27)).heap.size := by simp
  have h0 := h.below hB0
  have HOP := Lib.hid hop
  clear hh h hop
  go_enter Tryz.func14, Tryz.ntmps14
  go_wp2_with fail
  generalize (w.alloc (.cells #[.int .i64 0, .string ⟨#[]⟩, .slice none 0 0, .int .i64 0, .int .i64 0, .slice none 0 0] 27)) = W0 at hB0 r0 z0 h0 ⊢
  refine (skip_yes g p s 40 _ rfl W0 h0 hlt hb (by omega)).mono ?_
  rintro e w1 ⟨⟨rfl, h1⟩, o1⟩
  have fW : Below w1.heap.size w1 (w1.alloc (.cells #[.int .i64 0, .string ⟨#[]⟩, .slice none 0 0, .int .i64 0, .int .i64 0, .slice none 0 0] 27)) := (Below.refl _ _).alloc (Nat.le_refl _) _
  have v2 := alloc_new w1 (.cells #[.int .i64 0, .string ⟨#[]⟩, .slice none 0 0, .int .i64 0, .int .i64 0, .slice none 0 0] 27)
  have zz2 : w1.heap.size < (w1.alloc (.cells #[.int .i64 0, .string ⟨#[]⟩, .slice none 0 0, .int .i64 0, .int .i64 0, .slice none 0 0] 27)).heap.size := by simp
  have h2 := h1.below fW
  have r2 : (w1.alloc (.cells #[.int .i64 0, .string ⟨#[]⟩, .slice none 0 0, .int .i64 0, .int .i64 0, .slice none 0 0] 27)).heap[w.heap.size]? = some (.cells #[.int .i64 0, .string ⟨#[]⟩, .slice none 0 0, .int .i64 0, .int .i64 0, .slice none 0 0] 27) := (fW.block w.heap.size (by have := o1.2.1; omega)).trans ((o1.2.2 w.heap.size z0 (by omega)).trans r0)
  have hz2 : OnlyS (fun k => k = g ∨ w.heap.size ≤ k) w (w1.alloc (.cells #[.int .i64 0, .string ⟨#[]⟩, .slice none 0 0, .int .i64 0, .int .i64 0, .slice none 0 0] 27)) := ((OnlyS.of hB0).trans (o1.wide (fun k hk => .inl hk))).trans (OnlyS.of fW)
  have hq3 : w.heap.size < w1.heap.size := by have := o1.2.1; omega
  clear h0 h1 o1 hB0 r0 fW hb
  go_wp2_with fail
  generalize (w1.alloc (.cells #[.int .i64 0, .string ⟨#[]⟩, .slice none 0 0, .int .i64 0, .int .i64 0, .slice none 0 0] 27)) = W2 at v2 zz2 h2 r2 hz2 ⊢
  generalize w1.heap.size = q3 at v2 zz2 hq3 ⊢
  refine (CT.out _ h2).mono ?_
  rintro e w3 ⟨⟨rfl, h3⟩, o3⟩
  have z3 := o3.2.1
  have v3 := (o3.2.2 q3 zz2 (by omega)).trans v2
  have r3 := (o3.2.2 w.heap.size (by omega) (by omega)).trans r2
  have hz3 := hz2.trans (o3.wide (fun k hk => .inl hk))
  have hB3 : Below w0.heap.size w0 w3 := hB.trans (hz3.base (fun k hk => hk.elim (fun e => e ▸ hg) (fun e => Nat.le_trans hB.size e)) hB.size)
  have hlo := HOP.out.below hB3
  have gl := hlo.cell
  obtain ⟨no, hmo⟩ := hlo.own
  clear v2 h2 r2 hz2 o3 CT hlo hB3
  go_wp2_with (first
    | (at_range; refine wpList_range_own _ rfl _ 53 rfl 3 9 keyedInt Tryz.underlying53 _ bo no _ rfl hmo ?_; intro w4 hrg0 hg0 hs0)
    | go_in)
  go_frame
  have hb4 : Below w3.heap.size w3 w4 := (Below.refl _ w3).grown hg0 (Nat.le_refl _) (fun k hk => by cases hk)
  have v4 := (hb4.block q3 (by omega)).trans v3
  have r4 := (hb4.block w.heap.size (by omega)).trans r3
  have h4 := h3.below hb4
  have hz4 := Lib.hid (hz3.trans (OnlyS.of hb4))
  have hrb : q3 < w3.heap.size := by omega
  generalize w3.heap.size = rb at hrg0 hrb ⊢
  clear v3 r3 h3 hz3 hb4 hg0 hs0 hmo gl zz2 z3
  go_loopw [5, 6] (fun _ _ wr => ∃ (left : Lit → Bool) (cnt : Nat) (k : Int), wr.ranges Tryz.prog 3 (plainElem Tryz.prog 9) bo rb no (Rows.laid_loop_example_fossick_impl_opNames : DataW Unit) left cnt ∧ Hid (FndO tk left k) ∧ wr.heap[q3]? = some (.cells #[.int .i64 k, .string ⟨#[]⟩, .slice none 0 0, .int .i64 0, .int .i64 0, .slice none 0 0] 27 (0, 0)) ∧ RdQ wr g s p2 ∧ wr.heap[w.heap.size]? = some (.cells #[.int .i64 0, .string ⟨#[]⟩, .slice none 0 0, .int .i64 0, .int .i64 0, .slice none 0 0] 27) ∧ Hid (OnlyS (fun k => k = g ∨ w.heap.size ≤ k) w wr)) (fun _ _ wr => wr.rangeLeft bo rb)
  case atStart => exact ⟨_, _, 0, hrg0, FndO.start tk, v4, h4, r4, hz4⟩
  case round =>
    clear hrg0 v4 h4 r4 hz4
    obtain ⟨left, cnt, k, hrg, hfo, v4, h4, r4, hz4⟩ := hrel
    obtain ⟨wl, hwl⟩ : ∃ wl, wl = wr := ⟨_, rfl⟩
    subst hwl
    have hq4 := (Array.getElem?_eq_some_iff.1 v4).1
    have hg4 := h4.lt
    have hrl := hrg.lt
    go_wp2_with (first
      | (at_next; refine wpList_next_ranges_is _ rfl _ rfl 3 9 .i64 keyedInt Tryz.underlying3 Tryz.underlying9 bo rb no _ _ _ rfl hrg ?_ ?_)
      | go_in)
    · intro _ hl0
      have hk := hfo.out.done hl0
      have HFR1 := Lib.hid (fun fr l3 ks l4 => HFR0.out k fr l3 ks l4 hk)
      clear hfo hrg hk HFR0
      obtain ⟨x0, _, _, x3, _, _⟩ := blk6 v4
      by_cases hk10 : k = 10
      · have e10 : (k == 10) = true := by rw [hk10]; rfl
        by_cases h32 : (rest s p2).head? = some 32
        · obtain ⟨hlt2, hb2⟩ := head_at h32
          have HT2 := rest_rst s (p2 + 1)
          have htl2 : p2 + 1 + (tokL (rest s (p2 + 1))).length ≤ s.size := by have := tok_le (rest s (p2 + 1)); rw [rest_len] at this; omega
          have hfr : frI k (rest s p2) = (numI (tokL (rest s (p2 + 1))), rest s (p2 + 1 + (tokL (rest s (p2 + 1))).length)) := by unfold frI; rw [if_pos ⟨hk10, h32⟩, rest_tail, HT2]
          have CT2 := Lib.hid (fun V (hV : RdQ V g s (p2 + 1)) => token_any g (p2 + 1) s V hV (by omega) (by omega))
          have CN := Lib.hid (fun V (hV : LaidR V) => readNumber_any (tokL (rest s (p2 + 1))) _ rfl (by omega) V hV)
          have HFR := Lib.hid (fun ks l4 => HFR1.out _ _ ks l4 hfr)
          obtain ⟨p3, hp3e⟩ : ∃ p3, p3 = p2 + 1 + (tokL (rest s (p2 + 1))).length := ⟨_, rfl⟩
          rw [← hp3e] at htl2 CT2 HFR
          have hp3 : p + 1 ≤ p3 := by omega
          have hp3s := htl2
          clear hp3e hfr HT2 h32 HFR1 hk10
          generalize numI (tokL (rest s (p2 + 1))) = fr at HFR CN
          generalize tokL (rest s (p2 + 1)) = t2 at CT2 CN
          go_wp2_with fail
          refine (skip_yes g p2 s 32 _ rfl _ h4 hlt2 hb2 (by omega)).mono ?_
          rintro e w6 ⟨⟨rfl, h6⟩, o6⟩
          go_wp2_with fail
          refine (CT2.out _ h6).mono ?_
          rintro e w7 ⟨⟨rfl, h7⟩, o7⟩
          have o67 := o6.trans o7
          have z7 := o67.2.1
          have v7 := (o67.2.2 q3 hq4 (by omega)).trans v4
          have r7 := (o67.2.2 w.heap.size (by omega) (by omega)).trans r4
          have hz7 := hz4.out.trans (o67.wide (fun k hk => .inl hk))
          have hB7 : Below w0.heap.size w0 w7 := hB.trans (hz7.base (fun k hk => hk.elim (fun e => e ▸ hg) (fun e => Nat.le_trans hB.size e)) hB.size)
          clear h4 h6 o6 o7 o67 v4 r4 hz4 CT2 x0 x3
          go_wp2_with fail
          refine (CN.out _ (HL.out.below hB7)).mono ?_
          rintro e w8 ⟨rfl, hb8⟩
          have v8 := (hb8.block q3 (by omega)).trans v7
          have f3 := frozen_blk v8 3
          obtain ⟨_, _, _, x3, _, _⟩ := blk6 v8
          have QT : (w8.setCell ⟨q3, 3, none⟩ (.int .i64 fr)).heap[q3]? = some (.cells #[.int .i64 k, .string ⟨#[]⟩, .slice none 0 0, .int .i64 fr, .int .i64 0, .slice none 0 0] 27 (0, 0)) := heap_setCell_same w8 q3 3 _ _ (.int .i64 fr) v8
          have RT : RdQ (w8.setCell ⟨q3, 3, none⟩ (.int .i64 fr)) g s p3 := (heap_setCell_other w8 ⟨q3, 3, none⟩ g _ (by show g ≠ q3; omega)).trans (h7.below hb8)
          have RZ : (w8.setCell ⟨q3, 3, none⟩ (.int .i64 fr)).heap[w.heap.size]? = some (.cells #[.int .i64 0, .string ⟨#[]⟩, .slice none 0 0, .int .i64 0, .int .i64 0, .slice none 0 0] 27) := (heap_setCell_other w8 ⟨q3, 3, none⟩ w.heap.size (.int .i64 fr) (by show w.heap.size ≠ q3; omega)).trans ((hb8.block w.heap.size (by omega)).trans r7)
          have ZT : OnlyS (fun k => k = g ∨ w.heap.size ≤ k) w (w8.setCell ⟨q3, 3, none⟩ (.int .i64 fr)) := (hz7.trans (OnlyS.of hb8)).trans ((OnlyS.set w8 q3 3 (.int .i64 fr)).wide (fun k hk => .inr (by omega)))
          clear h7 hz7 hB7 v7 r7 hb8 CN v8
          go_wp2_with fail
          generalize (w8.setCell ⟨q3, 3, none⟩ (.int .i64 fr)) = wt at QT RT RZ ZT ⊢
          have K0 := Lib.hid (KidS.start (n := n) RT hp3s QT RZ ZT ⟨hgl, hq3⟩)
          clear RT QT RZ ZT
          go_loopw [] (fun wr => ∃ (pp : Nat) (hv : List HdR) (vv : Value) (S' : PS), Hid (KidS n g s q3 k fr w wr pp hv vv S') ∧ p + 1 ≤ pp ∧ hv.length ≤ 200 ∧ Hid (kidsI (queryI n) 200 (rest s p3) = (hv.map (·.q) ++ (kidsI (queryI n) (200 - hv.length) (rest s pp)).1, (kidsI (queryI n) (200 - hv.length) (rest s pp)).2)))
            (fun wr => s.size - (match wr.cell? ⟨g, 1, none⟩ with | some v => (intOf v).toNat | none => 0))
          case atStart => exact ⟨p3, [], _, _, K0, hp3, Nat.zero_le _, rfl⟩
          case round =>
            clear K0
            obtain ⟨pp, hv, vv, S', K, hpp, hvl, HK⟩ := hrel
            obtain ⟨wk, hwk⟩ : ∃ wk, wk = wr := ⟨_, rfl⟩
            subst hwk
            obtain ⟨B, d, rfl⟩ := own_formK K.out.own
            have hpl := K.out.le
            by_cases h32 : (rest s pp).head? = some 32
            · obtain ⟨hlt, hb32⟩ := head_at h32
              have hcons : rest s pp = 32 :: rest s (pp + 1) := by rw [rest_cons hlt, hb32]
              have hr1 := K.out.r
              have C1 := Lib.hid K.out.r.c1
              go_wp2_with fail
              refine (skip_yes g pp s 32 _ rfl _ hr1 hlt hb32 (by omega)).mono ?_
              rintro e w1 ⟨⟨rfl, h1⟩, o1⟩
              have K1 := Lib.hid (K.out.move o1 h1 (by omega))
              clear K h1 o1 hr1 h32 hb32
              obtain ⟨_, _, _, _, _, x5⟩ := blk6 K1.out.q
              by_cases h200 : hv.length < 200
              · have hi2 : (hv.length : Int) < 200 := by omega
                have hstep : Hid (kidsI (queryI n) (200 - hv.length) (rest s pp) = ((queryI n (rest s (pp + 1))).1 :: (kidsI (queryI n) (200 - (hv.length + 1)) (queryI n (rest s (pp + 1))).2).1, (kidsI (queryI n) (200 - (hv.length + 1)) (queryI n (rest s (pp + 1))).2).2)) := by
                  show _ = _
                  rw [hcons, show 200 - hv.length = (200 - (hv.length + 1)) + 1 by omega, kidsI]
                have hle := queryI_le n (rest s (pp + 1))
                rw [rest_len] at hle
                have hr1 := K1.out.r
                have hlt1 := K1.out.qlt
                have hB1 : Below w0.heap.size w0 w1 := hB.trans (K1.out.z.base (fun k hk => hk.elim (fun e => e ▸ hg) (fun e => Nat.le_trans hB.size e)) hB.size)
                have hpn : s.size - (pp + 1) ≤ n := by omega
                have hpp1 : pp + 1 ≤ s.size := by omega
                have CIH := Lib.hid (fun V (hr : RdQ V g s (pp + 1)) (hB : Below w0.heap.size w0 V) => IH.out g (pp + 1) s V hr hpp1 hs hpn hg hB)
                generalize queryI n (rest s (pp + 1)) = Y at hstep hle CIH
                obtain ⟨y, ly⟩ := Y
                simp only at hstep hle CIH
                clear hcons
                go_wp2_with fail
                go_region_law (first
                  | (refine step_append_k rowTK encHR_ok (by decide) rfl (.tmp 48) (.tmp 51) rfl (q3 + 1) (.slice B hv.length d) hv (by simp [Act.eval]) ((own_gK K1.out.own (by omega) o9b).alloc _) ⟨w9.heap.size, 0, none⟩ 1 1 [(⟨y, A9, c9, B9, d9⟩ : HdR)] rfl (by simp [Act.eval]) (SrcE.lit encHR_ok w9 27 #[.int .i64 y.kd, .string y.fd, .slice A9 y.ws.length c9, .int .i64 y.fr, .int .i64 y.tgt, .slice B9 y.ks.length d9] [(⟨y, A9, c9, B9, d9⟩ : HdR)] rfl 1) (by show _ + 1 ≤ _; omega) (by omega) (by rw [show (w9.alloc _).heap.size = w9.heap.size + 1 by simp]; omega) ?_; intro v7 w7 o7 g7 h7; have b7 := K1.out.blk7 o9b ((Below.refl _ w9).alloc (Nat.le_refl _) _) g7; obtain ⟨_, _, _, _, _, y7⟩ := blk6 b7; have z7 := frozen_blk b7 5; obtain ⟨B7, d7, rfl⟩ := own_formK o7)
                  | (go_simp; go_at_call 14; refine (CIH.out w1.drew (by exact hr1) ⟨hB1.os, hB1.tape, hB1.output, hB1.size, hB1.block⟩).mono ?_; rintro e w9 ⟨A9, c9, B9, d9, p9, ⟨rfl, oq9, r9, hp9, hl9⟩, o9⟩; have o9b : OnlyS (fun k => k = g) w1 w9 := o9; have oq9b : OwnQ (n + 1) (fun k => w1.heap.size ≤ k ∧ k < w9.heap.size) w9 (⟨y, A9, c9, B9, d9⟩ : HdR) := oq9; have h9s := o9b.2.1; have h59 : q3 < w9.heap.size := (by omega); have c5 := cells_blk (j := 5) ((o9b.2.2 q3 hlt1 (by omega)).trans K1.out.q) rfl; have c6 : ∀ x, (w9.alloc x).cell? ⟨q3, 5, none⟩ = some (.slice B hv.length d) := fun x => (belowL ((Below.refl _ w9).alloc (Nat.le_refl _) x) h59).trans c5))
                all_goals (have kN := K1.out.next o9b oq9b r9 hp9 ((Below.refl _ w9).alloc (Nat.le_refl _) _) o7 g7 h7)
                all_goals (rw [List.length_append, List.length_singleton] at kN)
                all_goals (have KN := Lib.hid kN)
                all_goals (have HKN : Hid (kidsI (queryI n) 200 (rest s p3) = ((hv ++ [(⟨y, A9, c9, B9, d9⟩ : HdR)]).map (·.q) ++ (kidsI (queryI n) (200 - (hv ++ [(⟨y, A9, c9, B9, d9⟩ : HdR)]).length) (rest s p9)).1, (kidsI (queryI n) (200 - (hv ++ [(⟨y, A9, c9, B9, d9⟩ : HdR)]).length) (rest s p9)).2)) := by (show _ = _; rw [HK.out, hstep.out, hl9]; simp))
                all_goals (have hp9b : pp + 1 ≤ p9 := by (have := congrArg List.length hl9; rw [rest_len] at this; omega))
                all_goals (clear kN K1 o7 g7 h7 b7 oq9 oq9b r9 hl9 o9 o9b HK hstep hr1 CIH)
                all_goals (go_wp2)
                all_goals (go_roundw)
                all_goals (first | exact ⟨p9, hv ++ [(⟨y, A9, c9, B9, d9⟩ : HdR)], .slice B7 (hv.length + 1) d7, _, KN, by omega, by (simp; omega), HKN⟩ | (rw [KN.out.r.c1, C1.out]; simp [intOf]; omega))
              · have hi2 : ¬ (hv.length : Int) < 200 := by omega
                have HKE : Hid (kidsI (queryI n) 200 (rest s p3) = (hv.map (·.q), rest s (pp + 1))) := by
                  show _ = _
                  rw [HK.out, hcons, show 200 - hv.length = 0 by omega]
                  simp [kidsI]
                clear HK hcons C1 hpl
                by_cases h41 : (rest s (pp + 1)).head? = some 41
                · obtain ⟨hlt4, hb41⟩ := head_at h41
                  have HSK : Hid (skipL 41 (rest s (pp + 1)) = rest s ((pp + 1) + 1)) := by show _ = _; unfold skipL; rw [if_pos h41, rest_tail]
                  have HEQ : Hid (QN = (⟨k, ⟨#[]⟩, [], fr, 0, hv.map (·.q)⟩, rest s ((pp + 1) + 1))) := by show _ = _; rw [HFR.out _ _ HKE.out, HSK.out]
                  clear HKE HSK h41
                  go_wp2_with fail
                  refine (skip_yes g ((pp + 1)) s 41 _ rfl _ K1.out.r hlt4 hb41 (by omega)).mono ?_
                  rintro e w5 ⟨⟨rfl, h5⟩, o5⟩
                  have K5 := Lib.hid (K1.out.move o5 h5 (by omega))
                  clear K1 h5 o5
                  obtain ⟨y0, y1, y2, y3, y4, y5⟩ := blk6 K5.out.q
                  have r5 := K5.out.r0
                  have hlo5 := K5.out.lo
                  obtain ⟨s0, s1, s2, s3, s4, s5⟩ := blk6 r5
                  have t0 := frozen_blk r5 0
                  have t1 := frozen_blk r5 1
                  have t2 := frozen_blk r5 2
                  have t3 := frozen_blk r5 3
                  have t4 := frozen_blk r5 4
                  have t5 := frozen_blk r5 5
                  have HF := Lib.hid (fun W (h6 : OnlyS (fun k => k = w.heap.size) w5 W) => QyR.node (q := QN.1) (l := QN.2) (w := w) K5.out (by rw [HEQ.out]) (by rw [HEQ.out]) h6)
                  clear K5 HEQ r5
                  go_wp2
                  exact bodyPost_ret (v := .agg #[.int .i64 k, .string ⟨#[]⟩, .slice none 0 0, .int .i64 fr, .int .i64 0, .slice B hv.length d]) (by simp [results, Tryz.results14, go_sem, *]) rfl (HF.out _ (OnlyS.six _ _ _ _ _ _ _ _))
                · have HSK : Hid (skipL 41 (rest s (pp + 1)) = rest s ((pp + 1))) := by show _ = _; unfold skipL; rw [if_neg h41]
                  have HEQ : Hid (QN = (⟨k, ⟨#[]⟩, [], fr, 0, hv.map (·.q)⟩, rest s ((pp + 1)))) := by show _ = _; rw [HFR.out _ _ HKE.out, HSK.out]
                  have hno := head_no h41
                  have hpe := K1.out.le
                  clear HKE HSK h41
                  go_wp2_with fail
                  refine (skip_no g ((pp + 1)) s 41 _ rfl _ K1.out.r hpe hno (by omega)).mono ?_
                  rintro e w5 ⟨⟨rfl, h5⟩, o5⟩
                  have K5 := Lib.hid (K1.out.move o5 h5 hpe)
                  clear K1 h5 o5 hno
                  obtain ⟨y0, y1, y2, y3, y4, y5⟩ := blk6 K5.out.q
                  have r5 := K5.out.r0
                  have hlo5 := K5.out.lo
                  obtain ⟨s0, s1, s2, s3, s4, s5⟩ := blk6 r5
                  have t0 := frozen_blk r5 0
                  have t1 := frozen_blk r5 1
                  have t2 := frozen_blk r5 2
                  have t3 := frozen_blk r5 3
                  have t4 := frozen_blk r5 4
                  have t5 := frozen_blk r5 5
                  have HF := Lib.hid (fun W (h6 : OnlyS (fun k => k = w.heap.size) w5 W) => QyR.node (q := QN.1) (l := QN.2) (w := w) K5.out (by rw [HEQ.out]) (by rw [HEQ.out]) h6)
                  clear K5 HEQ r5
                  go_wp2
                  exact bodyPost_ret (v := .agg #[.int .i64 k, .string ⟨#[]⟩, .slice none 0 0, .int .i64 fr, .int .i64 0, .slice B hv.length d]) (by simp [results, Tryz.results14, go_sem, *]) rfl (HF.out _ (OnlyS.six _ _ _ _ _ _ _ _))
            · have HKE : Hid (kidsI (queryI n) 200 (rest s p3) = (hv.map (·.q), rest s pp)) := by
                show _ = _
                rw [HK.out, kidsI_end _ _ h32]
                simp
              have hno := head_no h32
              have hr1 := K.out.r
              go_wp2_with fail
              refine (skip_no g pp s 32 _ rfl _ hr1 hpl hno (by omega)).mono ?_
              rintro e w1 ⟨⟨rfl, h1⟩, o1⟩
              have K1 := Lib.hid (K.out.move o1 h1 hpl)
              clear K h1 o1 hr1 h32 hno HK
              by_cases h41 : (rest s pp).head? = some 41
              · obtain ⟨hlt4, hb41⟩ := head_at h41
                have HSK : Hid (skipL 41 (rest s pp) = rest s (pp + 1)) := by show _ = _; unfold skipL; rw [if_pos h41, rest_tail]
                have HEQ : Hid (QN = (⟨k, ⟨#[]⟩, [], fr, 0, hv.map (·.q)⟩, rest s (pp + 1))) := by show _ = _; rw [HFR.out _ _ HKE.out, HSK.out]
                clear HKE HSK h41
                go_wp2_with fail
                refine (skip_yes g (pp) s 41 _ rfl _ K1.out.r hlt4 hb41 (by omega)).mono ?_
                rintro e w5 ⟨⟨rfl, h5⟩, o5⟩
                have K5 := Lib.hid (K1.out.move o5 h5 (by omega))
                clear K1 h5 o5
                obtain ⟨y0, y1, y2, y3, y4, y5⟩ := blk6 K5.out.q
                have r5 := K5.out.r0
                have hlo5 := K5.out.lo
                obtain ⟨s0, s1, s2, s3, s4, s5⟩ := blk6 r5
                have t0 := frozen_blk r5 0
                have t1 := frozen_blk r5 1
                have t2 := frozen_blk r5 2
                have t3 := frozen_blk r5 3
                have t4 := frozen_blk r5 4
                have t5 := frozen_blk r5 5
                have HF := Lib.hid (fun W (h6 : OnlyS (fun k => k = w.heap.size) w5 W) => QyR.node (q := QN.1) (l := QN.2) (w := w) K5.out (by rw [HEQ.out]) (by rw [HEQ.out]) h6)
                clear K5 HEQ r5
                go_wp2
                exact bodyPost_ret (v := .agg #[.int .i64 k, .string ⟨#[]⟩, .slice none 0 0, .int .i64 fr, .int .i64 0, .slice B hv.length d]) (by simp [results, Tryz.results14, go_sem, *]) rfl (HF.out _ (OnlyS.six _ _ _ _ _ _ _ _))
              · have HSK : Hid (skipL 41 (rest s pp) = rest s (pp)) := by show _ = _; unfold skipL; rw [if_neg h41]
                have HEQ : Hid (QN = (⟨k, ⟨#[]⟩, [], fr, 0, hv.map (·.q)⟩, rest s (pp))) := by show _ = _; rw [HFR.out _ _ HKE.out, HSK.out]
                have hno := head_no h41
                have hpe := K1.out.le
                clear HKE HSK h41
                go_wp2_with fail
                refine (skip_no g (pp) s 41 _ rfl _ K1.out.r hpe hno (by omega)).mono ?_
                rintro e w5 ⟨⟨rfl, h5⟩, o5⟩
                have K5 := Lib.hid (K1.out.move o5 h5 hpe)
                clear K1 h5 o5 hno
                obtain ⟨y0, y1, y2, y3, y4, y5⟩ := blk6 K5.out.q
                have r5 := K5.out.r0
                have hlo5 := K5.out.lo
                obtain ⟨s0, s1, s2, s3, s4, s5⟩ := blk6 r5
                have t0 := frozen_blk r5 0
                have t1 := frozen_blk r5 1
                have t2 := frozen_blk r5 2
                have t3 := frozen_blk r5 3
                have t4 := frozen_blk r5 4
                have t5 := frozen_blk r5 5
                have HF := Lib.hid (fun W (h6 : OnlyS (fun k => k = w.heap.size) w5 W) => QyR.node (q := QN.1) (l := QN.2) (w := w) K5.out (by rw [HEQ.out]) (by rw [HEQ.out]) h6)
                clear K5 HEQ r5
                go_wp2
                exact bodyPost_ret (v := .agg #[.int .i64 k, .string ⟨#[]⟩, .slice none 0 0, .int .i64 fr, .int .i64 0, .slice B hv.length d]) (by simp [results, Tryz.results14, go_sem, *]) rfl (HF.out _ (OnlyS.six _ _ _ _ _ _ _ _))
        · have HFR := Lib.hid (fun ks l4 => HFR1.out 0 (rest s p2) ks l4 (by unfold frI; rw [if_neg (fun e => h32 e.2)]))
          have hno2 := head_no h32
          clear HFR1 h32 hk10
          go_wp2_with fail
          refine (skip_no g p2 s 32 _ rfl _ h4 htl hno2 (by omega)).mono ?_
          rintro e wt ⟨⟨rfl, h6⟩, o6⟩
          have RT := h6
          have QT := (o6.2.2 q3 hq4 (by omega)).trans v4
          have RZ := (o6.2.2 w.heap.size (by omega) (by omega)).trans r4
          have ZT := hz4.out.trans (o6.wide (fun k hk => .inl hk))
          have hp3s := htl
          have hp3 := hpp2
          clear h4 h6 o6 v4 r4 hz4 hno2 x0 x3
          go_wp2_with fail
          have K0 := Lib.hid (KidS.start (n := n) RT hp3s QT RZ ZT ⟨hgl, hq3⟩)
          clear RT QT RZ ZT
          go_loopw [] (fun wr => ∃ (pp : Nat) (hv : List HdR) (vv : Value) (S' : PS), Hid (KidS n g s q3 k 0 w wr pp hv vv S') ∧ p + 1 ≤ pp ∧ hv.length ≤ 200 ∧ Hid (kidsI (queryI n) 200 (rest s p2) = (hv.map (·.q) ++ (kidsI (queryI n) (200 - hv.length) (rest s pp)).1, (kidsI (queryI n) (200 - hv.length) (rest s pp)).2)))
            (fun wr => s.size - (match wr.cell? ⟨g, 1, none⟩ with | some v => (intOf v).toNat | none => 0))
          case atStart => exact ⟨p2, [], _, _, K0, hp3, Nat.zero_le _, rfl⟩
          case round =>
            clear K0
            obtain ⟨pp, hv, vv, S', K, hpp, hvl, HK⟩ := hrel
            obtain ⟨wk, hwk⟩ : ∃ wk, wk = wr := ⟨_, rfl⟩
            subst hwk
            obtain ⟨B, d, rfl⟩ := own_formK K.out.own
            have hpl := K.out.le
            by_cases h32 : (rest s pp).head? = some 32
            · obtain ⟨hlt, hb32⟩ := head_at h32
              have hcons : rest s pp = 32 :: rest s (pp + 1) := by rw [rest_cons hlt, hb32]
              have hr1 := K.out.r
              have C1 := Lib.hid K.out.r.c1
              go_wp2_with fail
              refine (skip_yes g pp s 32 _ rfl _ hr1 hlt hb32 (by omega)).mono ?_
              rintro e w1 ⟨⟨rfl, h1⟩, o1⟩
              have K1 := Lib.hid (K.out.move o1 h1 (by omega))
              clear K h1 o1 hr1 h32 hb32
              obtain ⟨_, _, _, _, _, x5⟩ := blk6 K1.out.q
              by_cases h200 : hv.length < 200
              · have hi2 : (hv.length : Int) < 200 := by omega
                have hstep : Hid (kidsI (queryI n) (200 - hv.length) (rest s pp) = ((queryI n (rest s (pp + 1))).1 :: (kidsI (queryI n) (200 - (hv.length + 1)) (queryI n (rest s (pp + 1))).2).1, (kidsI (queryI n) (200 - (hv.length + 1)) (queryI n (rest s (pp + 1))).2).2)) := by
                  show _ = _
                  rw [hcons, show 200 - hv.length = (200 - (hv.length + 1)) + 1 by omega, kidsI]
                have hle := queryI_le n (rest s (pp + 1))
                rw [rest_len] at hle
                have hr1 := K1.out.r
                have hlt1 := K1.out.qlt
                have hB1 : Below w0.heap.size w0 w1 := hB.trans (K1.out.z.base (fun k hk => hk.elim (fun e => e ▸ hg) (fun e => Nat.le_trans hB.size e)) hB.size)
                have hpn : s.size - (pp + 1) ≤ n := by omega
                have hpp1 : pp + 1 ≤ s.size := by omega
                have CIH := Lib.hid (fun V (hr : RdQ V g s (pp + 1)) (hB : Below w0.heap.size w0 V) => IH.out g (pp + 1) s V hr hpp1 hs hpn hg hB)
                generalize queryI n (rest s (pp + 1)) = Y at hstep hle CIH
                obtain ⟨y, ly⟩ := Y
                simp only at hstep hle CIH
                clear hcons
                go_wp2_with fail
                go_region_law (first
                  | (refine step_append_k rowTK encHR_ok (by decide) rfl (.tmp 48) (.tmp 51) rfl (q3 + 1) (.slice B hv.length d) hv (by simp [Act.eval]) ((own_gK K1.out.own (by omega) o9b).alloc _) ⟨w9.heap.size, 0, none⟩ 1 1 [(⟨y, A9, c9, B9, d9⟩ : HdR)] rfl (by simp [Act.eval]) (SrcE.lit encHR_ok w9 27 #[.int .i64 y.kd, .string y.fd, .slice A9 y.ws.length c9, .int .i64 y.fr, .int .i64 y.tgt, .slice B9 y.ks.length d9] [(⟨y, A9, c9, B9, d9⟩ : HdR)] rfl 1) (by show _ + 1 ≤ _; omega) (by omega) (by rw [show (w9.alloc _).heap.size = w9.heap.size + 1 by simp]; omega) ?_; intro v7 w7 o7 g7 h7; have b7 := K1.out.blk7 o9b ((Below.refl _ w9).alloc (Nat.le_refl _) _) g7; obtain ⟨_, _, _, _, _, y7⟩ := blk6 b7; have z7 := frozen_blk b7 5; obtain ⟨B7, d7, rfl⟩ := own_formK o7)
                  | (go_simp; go_at_call 14; refine (CIH.out w1.drew (by exact hr1) ⟨hB1.os, hB1.tape, hB1.output, hB1.size, hB1.block⟩).mono ?_; rintro e w9 ⟨A9, c9, B9, d9, p9, ⟨rfl, oq9, r9, hp9, hl9⟩, o9⟩; have o9b : OnlyS (fun k => k = g) w1 w9 := o9; have oq9b : OwnQ (n + 1) (fun k => w1.heap.size ≤ k ∧ k < w9.heap.size) w9 (⟨y, A9, c9, B9, d9⟩ : HdR) := oq9; have h9s := o9b.2.1; have h59 : q3 < w9.heap.size := (by omega); have c5 := cells_blk (j := 5) ((o9b.2.2 q3 hlt1 (by omega)).trans K1.out.q) rfl; have c6 : ∀ x, (w9.alloc x).cell? ⟨q3, 5, none⟩ = some (.slice B hv.length d) := fun x => (belowL ((Below.refl _ w9).alloc (Nat.le_refl _) x) h59).trans c5))
                all_goals (have kN := K1.out.next o9b oq9b r9 hp9 ((Below.refl _ w9).alloc (Nat.le_refl _) _) o7 g7 h7)
                all_goals (rw [List.length_append, List.length_singleton] at kN)
                all_goals (have KN := Lib.hid kN)
                all_goals (have HKN : Hid (kidsI (queryI n) 200 (rest s p2) = ((hv ++ [(⟨y, A9, c9, B9, d9⟩ : HdR)]).map (·.q) ++ (kidsI (queryI n) (200 - (hv ++ [(⟨y, A9, c9, B9, d9⟩ : HdR)]).length) (rest s p9)).1, (kidsI (queryI n) (200 - (hv ++ [(⟨y, A9, c9, B9, d9⟩ : HdR)]).length) (rest s p9)).2)) := by (show _ = _; rw [HK.out, hstep.out, hl9]; simp))
                all_goals (have hp9b : pp + 1 ≤ p9 := by (have := congrArg List.length hl9; rw [rest_len] at this; omega))
                all_goals (clear kN K1 o7 g7 h7 b7 oq9 oq9b r9 hl9 o9 o9b HK hstep hr1 CIH)
                all_goals (go_wp2)
                all_goals (go_roundw)
                all_goals (first | exact ⟨p9, hv ++ [(⟨y, A9, c9, B9, d9⟩ : HdR)], .slice B7 (hv.length + 1) d7, _, KN, by omega, by (simp; omega), HKN⟩ | (rw [KN.out.r.c1, C1.out]; simp [intOf]; omega))
              · have hi2 : ¬ (hv.length : Int) < 200 := by omega
                have HKE : Hid (kidsI (queryI n) 200 (rest s p2) = (hv.map (·.q), rest s (pp + 1))) := by
                  show _ = _
                  rw [HK.out, hcons, show 200 - hv.length = 0 by omega]
                  simp [kidsI]
                clear HK hcons C1 hpl
                by_cases h41 : (rest s (pp + 1)).head? = some 41
                · obtain ⟨hlt4, hb41⟩ := head_at h41
                  have HSK : Hid (skipL 41 (rest s (pp + 1)) = rest s ((pp + 1) + 1)) := by show _ = _; unfold skipL; rw [if_pos h41, rest_tail]
                  have HEQ : Hid (QN = (⟨k, ⟨#[]⟩, [], 0, 0, hv.map (·.q)⟩, rest s ((pp + 1) + 1))) := by show _ = _; rw [HFR.out _ _ HKE.out, HSK.out]
                  clear HKE HSK h41
                  go_wp2_with fail
                  refine (skip_yes g ((pp + 1)) s 41 _ rfl _ K1.out.r hlt4 hb41 (by omega)).mono ?_
                  rintro e w5 ⟨⟨rfl, h5⟩, o5⟩
                  have K5 := Lib.hid (K1.out.move o5 h5 (by omega))
                  clear K1 h5 o5
                  obtain ⟨y0, y1, y2, y3, y4, y5⟩ := blk6 K5.out.q
                  have r5 := K5.out.r0
                  have hlo5 := K5.out.lo
                  obtain ⟨s0, s1, s2, s3, s4, s5⟩ := blk6 r5
                  have t0 := frozen_blk r5 0
                  have t1 := frozen_blk r5 1
                  have t2 := frozen_blk r5 2
                  have t3 := frozen_blk r5 3
                  have t4 := frozen_blk r5 4
                  have t5 := frozen_blk r5 5
                  have HF := Lib.hid (fun W (h6 : OnlyS (fun k => k = w.heap.size) w5 W) => QyR.node (q := QN.1) (l := QN.2) (w := w) K5.out (by rw [HEQ.out]) (by rw [HEQ.out]) h6)
                  clear K5 HEQ r5
                  go_wp2
                  exact bodyPost_ret (v := .agg #[.int .i64 k, .string ⟨#[]⟩, .slice none 0 0, .int .i64 0, .int .i64 0, .slice B hv.length d]) (by simp [results, Tryz.results14, go_sem, *]) rfl (HF.out _ (OnlyS.six _ _ _ _ _ _ _ _))
                · have HSK : Hid (skipL 41 (rest s (pp + 1)) = rest s ((pp + 1))) := by show _ = _; unfold skipL; rw [if_neg h41]
                  have HEQ : Hid (QN = (⟨k, ⟨#[]⟩, [], 0, 0, hv.map (·.q)⟩, rest s ((pp + 1)))) := by show _ = _; rw [HFR.out _ _ HKE.out, HSK.out]
                  have hno := head_no h41
                  have hpe := K1.out.le
                  clear HKE HSK h41
                  go_wp2_with fail
                  refine (skip_no g ((pp + 1)) s 41 _ rfl _ K1.out.r hpe hno (by omega)).mono ?_
                  rintro e w5 ⟨⟨rfl, h5⟩, o5⟩
                  have K5 := Lib.hid (K1.out.move o5 h5 hpe)
                  clear K1 h5 o5 hno
                  obtain ⟨y0, y1, y2, y3, y4, y5⟩ := blk6 K5.out.q
                  have r5 := K5.out.r0
                  have hlo5 := K5.out.lo
                  obtain ⟨s0, s1, s2, s3, s4, s5⟩ := blk6 r5
                  have t0 := frozen_blk r5 0
                  have t1 := frozen_blk r5 1
                  have t2 := frozen_blk r5 2
                  have t3 := frozen_blk r5 3
                  have t4 := frozen_blk r5 4
                  have t5 := frozen_blk r5 5
                  have HF := Lib.hid (fun W (h6 : OnlyS (fun k => k = w.heap.size) w5 W) => QyR.node (q := QN.1) (l := QN.2) (w := w) K5.out (by rw [HEQ.out]) (by rw [HEQ.out]) h6)
                  clear K5 HEQ r5
                  go_wp2
                  exact bodyPost_ret (v := .agg #[.int .i64 k, .string ⟨#[]⟩, .slice none 0 0, .int .i64 0, .int .i64 0, .slice B hv.length d]) (by simp [results, Tryz.results14, go_sem, *]) rfl (HF.out _ (OnlyS.six _ _ _ _ _ _ _ _))
            · have HKE : Hid (kidsI (queryI n) 200 (rest s p2) = (hv.map (·.q), rest s pp)) := by
                show _ = _
                rw [HK.out, kidsI_end _ _ h32]
                simp
              have hno := head_no h32
              have hr1 := K.out.r
              go_wp2_with fail
              refine (skip_no g pp s 32 _ rfl _ hr1 hpl hno (by omega)).mono ?_
              rintro e w1 ⟨⟨rfl, h1⟩, o1⟩
              have K1 := Lib.hid (K.out.move o1 h1 hpl)
              clear K h1 o1 hr1 h32 hno HK
              by_cases h41 : (rest s pp).head? = some 41
              · obtain ⟨hlt4, hb41⟩ := head_at h41
                have HSK : Hid (skipL 41 (rest s pp) = rest s (pp + 1)) := by show _ = _; unfold skipL; rw [if_pos h41, rest_tail]
                have HEQ : Hid (QN = (⟨k, ⟨#[]⟩, [], 0, 0, hv.map (·.q)⟩, rest s (pp + 1))) := by show _ = _; rw [HFR.out _ _ HKE.out, HSK.out]
                clear HKE HSK h41
                go_wp2_with fail
                refine (skip_yes g (pp) s 41 _ rfl _ K1.out.r hlt4 hb41 (by omega)).mono ?_
                rintro e w5 ⟨⟨rfl, h5⟩, o5⟩
                have K5 := Lib.hid (K1.out.move o5 h5 (by omega))
                clear K1 h5 o5
                obtain ⟨y0, y1, y2, y3, y4, y5⟩ := blk6 K5.out.q
                have r5 := K5.out.r0
                have hlo5 := K5.out.lo
                obtain ⟨s0, s1, s2, s3, s4, s5⟩ := blk6 r5
                have t0 := frozen_blk r5 0
                have t1 := frozen_blk r5 1
                have t2 := frozen_blk r5 2
                have t3 := frozen_blk r5 3
                have t4 := frozen_blk r5 4
                have t5 := frozen_blk r5 5
                have HF := Lib.hid (fun W (h6 : OnlyS (fun k => k = w.heap.size) w5 W) => QyR.node (q := QN.1) (l := QN.2) (w := w) K5.out (by rw [HEQ.out]) (by rw [HEQ.out]) h6)
                clear K5 HEQ r5
                go_wp2
                exact bodyPost_ret (v := .agg #[.int .i64 k, .string ⟨#[]⟩, .slice none 0 0, .int .i64 0, .int .i64 0, .slice B hv.length d]) (by simp [results, Tryz.results14, go_sem, *]) rfl (HF.out _ (OnlyS.six _ _ _ _ _ _ _ _))
              · have HSK : Hid (skipL 41 (rest s pp) = rest s (pp)) := by show _ = _; unfold skipL; rw [if_neg h41]
                have HEQ : Hid (QN = (⟨k, ⟨#[]⟩, [], 0, 0, hv.map (·.q)⟩, rest s (pp))) := by show _ = _; rw [HFR.out _ _ HKE.out, HSK.out]
                have hno := head_no h41
                have hpe := K1.out.le
                clear HKE HSK h41
                go_wp2_with fail
                refine (skip_no g (pp) s 41 _ rfl _ K1.out.r hpe hno (by omega)).mono ?_
                rintro e w5 ⟨⟨rfl, h5⟩, o5⟩
                have K5 := Lib.hid (K1.out.move o5 h5 hpe)
                clear K1 h5 o5 hno
                obtain ⟨y0, y1, y2, y3, y4, y5⟩ := blk6 K5.out.q
                have r5 := K5.out.r0
                have hlo5 := K5.out.lo
                obtain ⟨s0, s1, s2, s3, s4, s5⟩ := blk6 r5
                have t0 := frozen_blk r5 0
                have t1 := frozen_blk r5 1
                have t2 := frozen_blk r5 2
                have t3 := frozen_blk r5 3
                have t4 := frozen_blk r5 4
                have t5 := frozen_blk r5 5
                have HF := Lib.hid (fun W (h6 : OnlyS (fun k => k = w.heap.size) w5 W) => QyR.node (q := QN.1) (l := QN.2) (w := w) K5.out (by rw [HEQ.out]) (by rw [HEQ.out]) h6)
                clear K5 HEQ r5
                go_wp2
                exact bodyPost_ret (v := .agg #[.int .i64 k, .string ⟨#[]⟩, .slice none 0 0, .int .i64 0, .int .i64 0, .slice B hv.length d]) (by simp [results, Tryz.results14, go_sem, *]) rfl (HF.out _ (OnlyS.six _ _ _ _ _ _ _ _))
      · have e10 : (k == 10) = false := by rw [beq_eq_false_iff_ne]; exact hk10
        have HFR := Lib.hid (fun ks l4 => HFR1.out 0 (rest s p2) ks l4 (by unfold frI; rw [if_neg (fun e => hk10 e.1)]))
        have RT := h4
        have QT := v4
        have RZ := r4
        have ZT := hz4.out
        have hp3s := htl
        have hp3 := hpp2
        clear HFR1 hk10 h4 v4 r4 hz4 x3
        go_wp2_with fail
        clear x0
        have K0 := Lib.hid (KidS.start (n := n) RT hp3s QT RZ ZT ⟨hgl, hq3⟩)
        clear RT QT RZ ZT
        go_loopw [] (fun wr => ∃ (pp : Nat) (hv : List HdR) (vv : Value) (S' : PS), Hid (KidS n g s q3 k 0 w wr pp hv vv S') ∧ p + 1 ≤ pp ∧ hv.length ≤ 200 ∧ Hid (kidsI (queryI n) 200 (rest s p2) = (hv.map (·.q) ++ (kidsI (queryI n) (200 - hv.length) (rest s pp)).1, (kidsI (queryI n) (200 - hv.length) (rest s pp)).2)))
          (fun wr => s.size - (match wr.cell? ⟨g, 1, none⟩ with | some v => (intOf v).toNat | none => 0))
        case atStart => exact ⟨p2, [], _, _, K0, hp3, Nat.zero_le _, rfl⟩
        case round =>
          clear K0
          obtain ⟨pp, hv, vv, S', K, hpp, hvl, HK⟩ := hrel
          obtain ⟨wk, hwk⟩ : ∃ wk, wk = wr := ⟨_, rfl⟩
          subst hwk
          obtain ⟨B, d, rfl⟩ := own_formK K.out.own
          have hpl := K.out.le
          by_cases h32 : (rest s pp).head? = some 32
          · obtain ⟨hlt, hb32⟩ := head_at h32
            have hcons : rest s pp = 32 :: rest s (pp + 1) := by rw [rest_cons hlt, hb32]
            have hr1 := K.out.r
            have C1 := Lib.hid K.out.r.c1
            go_wp2_with fail
            refine (skip_yes g pp s 32 _ rfl _ hr1 hlt hb32 (by omega)).mono ?_
            rintro e w1 ⟨⟨rfl, h1⟩, o1⟩
            have K1 := Lib.hid (K.out.move o1 h1 (by omega))
            clear K h1 o1 hr1 h32 hb32
            obtain ⟨_, _, _, _, _, x5⟩ := blk6 K1.out.q
            by_cases h200 : hv.length < 200
            · have hi2 : (hv.length : Int) < 200 := by omega
              have hstep : Hid (kidsI (queryI n) (200 - hv.length) (rest s pp) = ((queryI n (rest s (pp + 1))).1 :: (kidsI (queryI n) (200 - (hv.length + 1)) (queryI n (rest s (pp + 1))).2).1, (kidsI (queryI n) (200 - (hv.length + 1)) (queryI n (rest s (pp + 1))).2).2)) := by
                show _ = _
                rw [hcons, show 200 - hv.length = (200 - (hv.length + 1)) + 1 by omega, kidsI]
              have hle := queryI_le n (rest s (pp + 1))
              rw [rest_len] at hle
              have hr1 := K1.out.r
              have hlt1 := K1.out.qlt
              have hB1 : Below w0.heap.size w0 w1 := hB.trans (K1.out.z.base (fun k hk => hk.elim (fun e => e ▸ hg) (fun e => Nat.le_trans hB.size e)) hB.size)
              have hpn : s.size - (pp + 1) ≤ n := by omega
              have hpp1 : pp + 1 ≤ s.size := by omega
              have CIH := Lib.hid (fun V (hr : RdQ V g s (pp + 1)) (hB : Below w0.heap.size w0 V) => IH.out g (pp + 1) s V hr hpp1 hs hpn hg hB)
              generalize queryI n (rest s (pp + 1)) = Y at hstep hle CIH
              obtain ⟨y, ly⟩ := Y
              simp only at hstep hle CIH
              clear hcons
              go_wp2_with fail
              go_region_law (first
                | (refine step_append_k rowTK encHR_ok (by decide) rfl (.tmp 48) (.tmp 51) rfl (q3 + 1) (.slice B hv.length d) hv (by simp [Act.eval]) ((own_gK K1.out.own (by omega) o9b).alloc _) ⟨w9.heap.size, 0, none⟩ 1 1 [(⟨y, A9, c9, B9, d9⟩ : HdR)] rfl (by simp [Act.eval]) (SrcE.lit encHR_ok w9 27 #[.int .i64 y.kd, .string y.fd, .slice A9 y.ws.length c9, .int .i64 y.fr, .int .i64 y.tgt, .slice B9 y.ks.length d9] [(⟨y, A9, c9, B9, d9⟩ : HdR)] rfl 1) (by show _ + 1 ≤ _; omega) (by omega) (by rw [show (w9.alloc _).heap.size = w9.heap.size + 1 by simp]; omega) ?_; intro v7 w7 o7 g7 h7; have b7 := K1.out.blk7 o9b ((Below.refl _ w9).alloc (Nat.le_refl _) _) g7; obtain ⟨_, _, _, _, _, y7⟩ := blk6 b7; have z7 := frozen_blk b7 5; obtain ⟨B7, d7, rfl⟩ := own_formK o7)
                | (go_simp; go_at_call 14; refine (CIH.out w1.drew (by exact hr1) ⟨hB1.os, hB1.tape, hB1.output, hB1.size, hB1.block⟩).mono ?_; rintro e w9 ⟨A9, c9, B9, d9, p9, ⟨rfl, oq9, r9, hp9, hl9⟩, o9⟩; have o9b : OnlyS (fun k => k = g) w1 w9 := o9; have oq9b : OwnQ (n + 1) (fun k => w1.heap.size ≤ k ∧ k < w9.heap.size) w9 (⟨y, A9, c9, B9, d9⟩ : HdR) := oq9; have h9s := o9b.2.1; have h59 : q3 < w9.heap.size := (by omega); have c5 := cells_blk (j := 5) ((o9b.2.2 q3 hlt1 (by omega)).trans K1.out.q) rfl; have c6 : ∀ x, (w9.alloc x).cell? ⟨q3, 5, none⟩ = some (.slice B hv.length d) := fun x => (belowL ((Below.refl _ w9).alloc (Nat.le_refl _) x) h59).trans c5))
              all_goals (have kN := K1.out.next o9b oq9b r9 hp9 ((Below.refl _ w9).alloc (Nat.le_refl _) _) o7 g7 h7)
              all_goals (rw [List.length_append, List.length_singleton] at kN)
              all_goals (have KN := Lib.hid kN)
              all_goals (have HKN : Hid (kidsI (queryI n) 200 (rest s p2) = ((hv ++ [(⟨y, A9, c9, B9, d9⟩ : HdR)]).map (·.q) ++ (kidsI (queryI n) (200 - (hv ++ [(⟨y, A9, c9, B9, d9⟩ : HdR)]).length) (rest s p9)).1, (kidsI (queryI n) (200 - (hv ++ [(⟨y, A9, c9, B9, d9⟩ : HdR)]).length) (rest s p9)).2)) := by (show _ = _; rw [HK.out, hstep.out, hl9]; simp))
              all_goals (have hp9b : pp + 1 ≤ p9 := by (have := congrArg List.length hl9; rw [rest_len] at this; omega))
              all_goals (clear kN K1 o7 g7 h7 b7 oq9 oq9b r9 hl9 o9 o9b HK hstep hr1 CIH)
              all_goals (go_wp2)
              all_goals (go_roundw)
              all_goals (first | exact ⟨p9, hv ++ [(⟨y, A9, c9, B9, d9⟩ : HdR)], .slice B7 (hv.length + 1) d7, _, KN, by omega, by (simp; omega), HKN⟩ | (rw [KN.out.r.c1, C1.out]; simp [intOf]; omega))
            · have hi2 : ¬ (hv.length : Int) < 200 := by omega
              have HKE : Hid (kidsI (queryI n) 200 (rest s p2) = (hv.map (·.q), rest s (pp + 1))) := by
                show _ = _
                rw [HK.out, hcons, show 200 - hv.length = 0 by omega]
                simp [kidsI]
              clear HK hcons C1 hpl
              by_cases h41 : (rest s (pp + 1)).head? = some 41
              · obtain ⟨hlt4, hb41⟩ := head_at h41
                have HSK : Hid (skipL 41 (rest s (pp + 1)) = rest s ((pp + 1) + 1)) := by show _ = _; unfold skipL; rw [if_pos h41, rest_tail]
                have HEQ : Hid (QN = (⟨k, ⟨#[]⟩, [], 0, 0, hv.map (·.q)⟩, rest s ((pp + 1) + 1))) := by show _ = _; rw [HFR.out _ _ HKE.out, HSK.out]
                clear HKE HSK h41
                go_wp2_with fail
                refine (skip_yes g ((pp + 1)) s 41 _ rfl _ K1.out.r hlt4 hb41 (by omega)).mono ?_
                rintro e w5 ⟨⟨rfl, h5⟩, o5⟩
                have K5 := Lib.hid (K1.out.move o5 h5 (by omega))
                clear K1 h5 o5
                obtain ⟨y0, y1, y2, y3, y4, y5⟩ := blk6 K5.out.q
                have r5 := K5.out.r0
                have hlo5 := K5.out.lo
                obtain ⟨s0, s1, s2, s3, s4, s5⟩ := blk6 r5
                have t0 := frozen_blk r5 0
                have t1 := frozen_blk r5 1
                have t2 := frozen_blk r5 2
                have t3 := frozen_blk r5 3
                have t4 := frozen_blk r5 4
                have t5 := frozen_blk r5 5
                have HF := Lib.hid (fun W (h6 : OnlyS (fun k => k = w.heap.size) w5 W) => QyR.node (q := QN.1) (l := QN.2) (w := w) K5.out (by rw [HEQ.out]) (by rw [HEQ.out]) h6)
                clear K5 HEQ r5
                go_wp2
                exact bodyPost_ret (v := .agg #[.int .i64 k, .string ⟨#[]⟩, .slice none 0 0, .int .i64 0, .int .i64 0, .slice B hv.length d]) (by simp [results, Tryz.results14, go_sem, *]) rfl (HF.out _ (OnlyS.six _ _ _ _ _ _ _ _))
              · have HSK : Hid (skipL 41 (rest s (pp + 1)) = rest s ((pp + 1))) := by show _ = _; unfold skipL; rw [if_neg h41]
                have HEQ : Hid (QN = (⟨k, ⟨#[]⟩, [], 0, 0, hv.map (·.q)⟩, rest s ((pp + 1)))) := by show _ = _; rw [HFR.out _ _ HKE.out, HSK.out]
                have hno := head_no h41
                have hpe := K1.out.le
                clear HKE HSK h41
                go_wp2_with fail
                refine (skip_no g ((pp + 1)) s 41 _ rfl _ K1.out.r hpe hno (by omega)).mono ?_
                rintro e w5 ⟨⟨rfl, h5⟩, o5⟩
                have K5 := Lib.hid (K1.out.move o5 h5 hpe)
                clear K1 h5 o5 hno
                obtain ⟨y0, y1, y2, y3, y4, y5⟩ := blk6 K5.out.q
                have r5 := K5.out.r0
                have hlo5 := K5.out.lo
                obtain ⟨s0, s1, s2, s3, s4, s5⟩ := blk6 r5
                have t0 := frozen_blk r5 0
                have t1 := frozen_blk r5 1
                have t2 := frozen_blk r5 2
                have t3 := frozen_blk r5 3
                have t4 := frozen_blk r5 4
                have t5 := frozen_blk r5 5
                have HF := Lib.hid (fun W (h6 : OnlyS (fun k => k = w.heap.size) w5 W) => QyR.node (q := QN.1) (l := QN.2) (w := w) K5.out (by rw [HEQ.out]) (by rw [HEQ.out]) h6)
                clear K5 HEQ r5
                go_wp2
                exact bodyPost_ret (v := .agg #[.int .i64 k, .string ⟨#[]⟩, .slice none 0 0, .int .i64 0, .int .i64 0, .slice B hv.length d]) (by simp [results, Tryz.results14, go_sem, *]) rfl (HF.out _ (OnlyS.six _ _ _ _ _ _ _ _))
          · have HKE : Hid (kidsI (queryI n) 200 (rest s p2) = (hv.map (·.q), rest s pp)) := by
              show _ = _
              rw [HK.out, kidsI_end _ _ h32]
              simp
            have hno := head_no h32
            have hr1 := K.out.r
            go_wp2_with fail
            refine (skip_no g pp s 32 _ rfl _ hr1 hpl hno (by omega)).mono ?_
            rintro e w1 ⟨⟨rfl, h1⟩, o1⟩
            have K1 := Lib.hid (K.out.move o1 h1 hpl)
            clear K h1 o1 hr1 h32 hno HK
            by_cases h41 : (rest s pp).head? = some 41
            · obtain ⟨hlt4, hb41⟩ := head_at h41
              have HSK : Hid (skipL 41 (rest s pp) = rest s (pp + 1)) := by show _ = _; unfold skipL; rw [if_pos h41, rest_tail]
              have HEQ : Hid (QN = (⟨k, ⟨#[]⟩, [], 0, 0, hv.map (·.q)⟩, rest s (pp + 1))) := by show _ = _; rw [HFR.out _ _ HKE.out, HSK.out]
              clear HKE HSK h41
              go_wp2_with fail
              refine (skip_yes g (pp) s 41 _ rfl _ K1.out.r hlt4 hb41 (by omega)).mono ?_
              rintro e w5 ⟨⟨rfl, h5⟩, o5⟩
              have K5 := Lib.hid (K1.out.move o5 h5 (by omega))
              clear K1 h5 o5
              obtain ⟨y0, y1, y2, y3, y4, y5⟩ := blk6 K5.out.q
              have r5 := K5.out.r0
              have hlo5 := K5.out.lo
              obtain ⟨s0, s1, s2, s3, s4, s5⟩ := blk6 r5
              have t0 := frozen_blk r5 0
              have t1 := frozen_blk r5 1
              have t2 := frozen_blk r5 2
              have t3 := frozen_blk r5 3
              have t4 := frozen_blk r5 4
              have t5 := frozen_blk r5 5
              have HF := Lib.hid (fun W (h6 : OnlyS (fun k => k = w.heap.size) w5 W) => QyR.node (q := QN.1) (l := QN.2) (w := w) K5.out (by rw [HEQ.out]) (by rw [HEQ.out]) h6)
              clear K5 HEQ r5
              go_wp2
              exact bodyPost_ret (v := .agg #[.int .i64 k, .string ⟨#[]⟩, .slice none 0 0, .int .i64 0, .int .i64 0, .slice B hv.length d]) (by simp [results, Tryz.results14, go_sem, *]) rfl (HF.out _ (OnlyS.six _ _ _ _ _ _ _ _))
            · have HSK : Hid (skipL 41 (rest s pp) = rest s (pp)) := by show _ = _; unfold skipL; rw [if_neg h41]
              have HEQ : Hid (QN = (⟨k, ⟨#[]⟩, [], 0, 0, hv.map (·.q)⟩, rest s (pp))) := by show _ = _; rw [HFR.out _ _ HKE.out, HSK.out]
              have hno := head_no h41
              have hpe := K1.out.le
              clear HKE HSK h41
              go_wp2_with fail
              refine (skip_no g (pp) s 41 _ rfl _ K1.out.r hpe hno (by omega)).mono ?_
              rintro e w5 ⟨⟨rfl, h5⟩, o5⟩
              have K5 := Lib.hid (K1.out.move o5 h5 hpe)
              clear K1 h5 o5 hno
              obtain ⟨y0, y1, y2, y3, y4, y5⟩ := blk6 K5.out.q
              have r5 := K5.out.r0
              have hlo5 := K5.out.lo
              obtain ⟨s0, s1, s2, s3, s4, s5⟩ := blk6 r5
              have t0 := frozen_blk r5 0
              have t1 := frozen_blk r5 1
              have t2 := frozen_blk r5 2
              have t3 := frozen_blk r5 3
              have t4 := frozen_blk r5 4
              have t5 := frozen_blk r5 5
              have HF := Lib.hid (fun W (h6 : OnlyS (fun k => k = w.heap.size) w5 W) => QyR.node (q := QN.1) (l := QN.2) (w := w) K5.out (by rw [HEQ.out]) (by rw [HEQ.out]) h6)
              clear K5 HEQ r5
              go_wp2
              exact bodyPost_ret (v := .agg #[.int .i64 k, .string ⟨#[]⟩, .slice none 0 0, .int .i64 0, .int .i64 0, .slice B hv.length d]) (by simp [results, Tryz.results14, go_sem, *]) rfl (HF.out _ (OnlyS.six _ _ _ _ _ _ _ _))
    · intro x c w5 cnt1 hwx hwc hlx hat hrg1 hltc hg1 hs1 hen
      obtain ⟨hx, rfl⟩ := ops_inv hat
      have v5 := (hg1.block q3 hq4 (by simp; omega)).trans v4
      have h5 : RdQ w5 g s p2 := (hg1.block g hg4 (by simp; omega)).trans h4
      have r5 := (hg1.block w.heap.size (by omega) (by simp; omega)).trans r4
      have hz5 := Lib.hid (hz4.out.trans (OnlyS.grown hg1 (.inr (by omega))))
      have hm1 := hrg1.left_eq
      have hm0 := hrg.left_eq
      by_cases hnm : nameL x = tk
      · have he : ((tb (nameL x)).toList == (tb tk).toList) = true := by rw [str_is, hnm]; exact decide_eq_true rfl
        have hfo2 := Lib.hid (FndO.hit (left := fun z => left z && !z.sameKey (.int .i64 x)) hx hnm)
        have f5 := frozen_blk v5 0
        obtain ⟨x0, _, _, _, _, _⟩ := blk6 v5
        have v6 : (w5.setCell ⟨q3, 0, none⟩ (.int .i64 x)).heap[q3]? = some (.cells #[.int .i64 x, .string ⟨#[]⟩, .slice none 0 0, .int .i64 0, .int .i64 0, .slice none 0 0] 27 (0, 0)) := heap_setCell_same w5 q3 0 _ _ (.int .i64 x) v5
        have h6 : RdQ (w5.setCell ⟨q3, 0, none⟩ (.int .i64 x)) g s p2 := (heap_setCell_other w5 ⟨q3, 0, none⟩ g _ (by show g ≠ q3; omega)).trans h5
        have r6 := (heap_setCell_other w5 ⟨q3, 0, none⟩ w.heap.size (.int .i64 x) (by show w.heap.size ≠ q3; omega)).trans r5
        have hz6 : Hid (OnlyS (fun k => k = g ∨ w.heap.size ≤ k) w (w5.setCell ⟨q3, 0, none⟩ (.int .i64 x))) := hz5.out.trans ((OnlyS.set w5 q3 0 (.int .i64 x)).wide (fun k hk => .inr (by omega)))
        have hrg6 := hrg1.kept (set_grownK w5 q3 0 (.int .i64 x)) (by simp; omega) (by simp; omega)
        have hm6 := hrg6.left_eq
        clear hfo hrg hat hwc hlx hg1 hs1 hz4 hz5 v4 h4 r4 h5 r5 v5 hrg1 hm1
        go_wp2
        go_roundw
        case rel => exact ⟨_, cnt1, x, hrg6, hfo2, v6, h6, r6, hz6⟩
        case measure => rw [hm6, hm0]; exact hltc
      · have he : ((tb (nameL x)).toList == (tb tk).toList) = false := by rw [str_is]; exact decide_eq_false (tb_ne hnm)
        have hfo2 := Lib.hid (hfo.out.miss hnm)
        clear hfo hrg hat hwc hlx hg1 hs1 hz4 v4 h4 r4
        go_wp2
        go_roundw
        case rel => exact ⟨_, cnt1, k, hrg1, hfo2, v5, h5, r5, hz5⟩
        case measure => rw [hm1, hm0]; exact hltc


theorem query_all (w0 : World) (HL : Hid (LaidR w0)) (n : Nat) : QyC w0 n := by
  induction n with
  | zero =>
    intro g p s w h hp hs hn hg hB
    have hh : (rest s p).head? ≠ some 40 := by rw [rest_end (by omega)]; simp
    exact query_leaf 0 g p s w w0 HL h hp hs hh hg hB
  | succ n ih =>
    intro g p s w h hp hs hn hg hB
    by_cases hh : (rest s p).head? = some 40
    · rw [queryI_node n hh, rest_tail]
      exact query_node n g p s w w0 HL ih h hp hs hn hh hg hB
    · rw [queryI_leaf n hh]
      exact query_leaf (n + 1) g p s w w0 HL h hp hs hh hg hB
end Go.Proofs.YtaobgliimbmemaaGreatDoor
