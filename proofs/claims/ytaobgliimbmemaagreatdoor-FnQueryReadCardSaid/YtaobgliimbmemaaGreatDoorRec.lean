/-
  Rows of records of F cells each: sources, rows of the call's own, the append.
-/
import Derived.Test.YtaobgliimbmemaaGreatDoorSl
import Derived.OwnWalk
import Derived.Laws.AppendOwn
import Derived.Laws.AppendOwnNone
import Derived.Maps.AppendAt
import Derived.RegionTactic
namespace Go.Proofs.YtaobgliimbmemaaGreatDoor
open Go.RowKit
set_option linter.unusedVariables false

/-- how a record stands in cells. -/
structure Enc {α : Type} (enc : α → List Value) (F : Nat) : Prop where
  len : ∀ a, (enc a).length = F
  one : ∀ a, ∀ u ∈ enc a, u.oneCell' = true
/-- a slice type ST of elements E of F cells and B bytes. -/
structure RowT (P : Program) (ST E : TypeId) (F B : Nat) : Prop where
  und : P.underlying ST = some (.slice E)
  info : ∃ i z, P.info? E = some i ∧ i.zero = some z ∧ i.size = F ∧ i.bytes = B ∧ z.cells.size = F
theorem rowT_of {P : Program} {ST E : TypeId} {F B : Nat} {z : Value} (hu : P.underlying ST = some (.slice E)) (h : (P.info? E).map (fun i => (i.zero, i.size, i.bytes)) = some (some z, F, B)) (hz : z.cells.size = F) : RowT P ST E F B := by
  refine ⟨hu, ?_⟩
  cases hi : P.info? E with
  | none => rw [hi] at h; cases h
  | some i =>
    rw [hi] at h
    simp only [Option.map_some, Option.some.injEq, Prod.mk.injEq] at h
    exact ⟨i, z, rfl, h.1, h.2.1, h.2.2, hz⟩

section
variable {α : Type} {enc : α → List Value} {F : Nat}
theorem Enc.flat (h : Enc enc F) (L : List α) : (L.flatMap enc).length = L.length * F := flat_len h.len L
theorem Enc.flat_one (h : Enc enc F) (L : List α) : ∀ u ∈ L.flatMap enc, u.oneCell' = true := by
  intro u hu; rw [List.mem_flatMap] at hu; obtain ⟨a, _, ha⟩ := hu; exact h.one a u ha
theorem Enc.take (h : Enc enc F) (L : List α) (k : Nat) : (L.take k).flatMap enc = (L.flatMap enc).take (k * F) := by
  induction L generalizing k with
  | nil => simp
  | cons x r ih =>
    cases k with
    | zero => simp
    | succ k =>
      have hx := h.len x
      rw [List.take_succ_cons, List.flatMap_cons, List.flatMap_cons, ih, List.take_append, hx, Nat.succ_mul, Nat.add_sub_cancel, List.take_of_length_le (l := enc x) (by omega)]
theorem Enc.drop (h : Enc enc F) (L : List α) (k : Nat) : (L.drop k).flatMap enc = (L.flatMap enc).drop (k * F) := by
  induction L generalizing k with
  | nil => simp
  | cons x r ih =>
    cases k with
    | zero => simp
    | succ k =>
      have hx := h.len x
      rw [List.drop_succ_cons, List.flatMap_cons, ih, List.drop_append, hx, Nat.succ_mul, Nat.add_sub_cancel, List.drop_of_length_le (l := enc x) (by omega), List.nil_append]

/-- a slice that an append can take: it reads as the records L; nil has no cells. -/
def SrcE (enc : α → List Value) (F : Nat) (w : World) (A : Option Addr) (c : Nat) (L : List α) : Prop := Rds w F A L.length (L.flatMap enc) ∧ ((A = none ∧ c = 0) ∨ ∃ ad, A = some ad)
theorem SrcE.below {w w' : World} {A : Option Addr} {c : Nat} {L : List α} (h : SrcE enc F w A c L) (hb : Below w.heap.size w w') : SrcE enc F w' A c L := ⟨h.1.below hb, h.2⟩
theorem SrcE.drawn {w : World} {A : Option Addr} {c : Nat} {L : List α} (h : SrcE enc F w A c L) (q : Nat) : SrcE enc F (w.drewN q) A c L := h
theorem SrcE.take {w : World} {b off c c' : Nat} {L : List α} (he : Enc enc F) (h : SrcE enc F w (some ⟨b, off, none⟩) c L) {k : Nat} (hk : k ≤ L.length) : SrcE enc F w (some ⟨b, off, none⟩) c' (L.take k) := by
  have hl : (L.take k).length = k := by simp; omega
  refine ⟨⟨he.flat _, fun hn => ?_⟩, .inr ⟨_, rfl⟩⟩
  rw [hl] at hn
  obtain ⟨b', off', e, hlt, hc⟩ := h.1.2 (by omega)
  simp only [Option.some.injEq, Addr.mk.injEq, and_true] at e
  obtain ⟨rfl, rfl⟩ := e
  refine ⟨b, off, rfl, hlt, fun j u hu => hc j u ?_⟩
  rw [he.take, List.getElem?_take] at hu
  split at hu
  · exact hu
  · cases hu
theorem SrcE.drop {w : World} {b off c c' : Nat} {L : List α} (he : Enc enc F) (h : SrcE enc F w (some ⟨b, off, none⟩) c L) {k o : Nat} (ho : o = k * F) : SrcE enc F w (some ⟨b, off + o, none⟩) c' (L.drop k) := by
  subst ho
  refine ⟨⟨he.flat _, fun hn => ?_⟩, .inr ⟨_, rfl⟩⟩
  have hk : k < L.length := by rw [List.length_drop] at hn; omega
  obtain ⟨b', off', e, hlt, hc⟩ := h.1.2 (by omega)
  simp only [Option.some.injEq, Addr.mk.injEq, and_true] at e
  obtain ⟨rfl, rfl⟩ := e
  refine ⟨b, off + k * F, rfl, hlt, fun j u hu => ?_⟩
  rw [he.drop, List.getElem?_drop] at hu
  rw [Nat.add_assoc]
  exact hc _ u hu
/-- the cells of one record. -/
theorem SrcE.cells {w : World} {A : Option Addr} {c : Nat} {L : List α} (he : Enc enc F) (h : SrcE enc F w A c L) {k : Nat} (hk : k < L.length) (hF : 0 < F) :
    ∃ b off, A = some ⟨b, off, none⟩ ∧ b < w.heap.size ∧ ∀ j u, (enc L[k])[j]? = some u → w.cell? ⟨b, off + (k * F + j), none⟩ = some u := by
  obtain ⟨b, off, e, hlt, hc⟩ := h.1.2 (by omega)
  refine ⟨b, off, e, hlt, fun j u hu => hc _ u ?_⟩
  have hj : j < F := by have := (List.getElem?_eq_some_iff.1 hu).1; rw [he.len] at this; exact this
  rw [flat_get he.len (List.getElem?_eq_getElem hk) hj]
  exact hu
theorem SrcE.nil_ (w : World) (c : Nat) : SrcE enc F w none 0 ([] : List α) := ⟨⟨by simp, fun h => by simp at h⟩, .inl ⟨rfl, rfl⟩⟩

theorem own_under {w w' : World} {base B e size n : Nat} {v : Value} {xs : List Value} (h : w.ownsRow base e size v n xs) (hb : Below B w w') (hne : ∀ k, v.ownBlock = some k → k < B) : w'.ownsRow base e size v n xs := by
  rcases h.2 with ⟨h', h0⟩ | ⟨g, cap, cur, hv, hg, hh, hnc, hcm, hcs, htake⟩
  · exact ⟨h.1, .inl ⟨h', h0⟩⟩
  · subst hv
    exact ⟨h.1, .inr ⟨g, cap, cur, rfl, hg, (hb.block g (hne g rfl)).trans hh, hnc, hcm, hcs, htake⟩⟩
/-- .. that lies in another block than what has grown. -/
theorem own_other {w w' : World} {base e size n g g2 c : Nat} {xs : List Value} (h : w.ownsRow base e size (.slice (some ⟨g, 0, none⟩) n c) n xs) (hg : w.grownBy w' (some g2)) (hne : g ≠ g2) : w'.ownsRow base e size (.slice (some ⟨g, 0, none⟩) n c) n xs := by
  refine h.kept hg (.inr fun e => ?_)
  simp [Value.ownBlock] at e
  exact hne e
theorem SrcE.lit (he : Enc enc F) (w : World) (E : TypeId) (cs : Array Value) (L : List α) (hcs : cs.toList = L.flatMap enc) (c : Nat) : SrcE enc F (w.alloc (.cells cs E)) (some ⟨w.heap.size, 0, none⟩) c L := by
  refine ⟨⟨he.flat _, fun _ => ⟨_, _, rfl, by simp, fun j u hu => ?_⟩⟩, .inr ⟨_, rfl⟩⟩
  rw [Nat.zero_add, cell_of_row _ _ j cs E (0, 0) (heap_alloc_new w _), ← Array.getElem?_toList, hcs]
  exact hu
/-- rows of different elements lie in different blocks. -/
theorem own_ne {w : World} {b1 b2 e1 e2 s1 s2 n1 n2 : Nat} {v1 v2 : Value} {x1 x2 : List Value} (h1 : w.ownsRow b1 e1 s1 v1 n1 x1) (h2 : w.ownsRow b2 e2 s2 v2 n2 x2) (hne : e1 ≠ e2) : ∀ k k2, v1.ownBlock = some k → v2.ownBlock = some k2 → k ≠ k2 := by
  intro k k2 e3 e4 e
  subst e
  rcases h1.2 with ⟨rfl, _⟩ | ⟨g, cap, cur, rfl, _, hh, _⟩
  · simp [Value.ownBlock] at e3
  · rcases h2.2 with ⟨rfl, _⟩ | ⟨g', cap', cur', rfl, _, hh', _⟩
    · simp [Value.ownBlock] at e4
    · simp [Value.ownBlock] at e3 e4
      subst e3 e4
      rw [hh] at hh'
      injection hh' with hh'
      injection hh' with _ hh'
      exact hne hh'
/-- a row of the call's own, not nil. -/
abbrev OwnE (enc : α → List Value) (E F : Nat) (w : World) (base g c : Nat) (L : List α) : Prop := w.ownsRow base E F (.slice (some ⟨g, 0, none⟩) L.length c) L.length (L.flatMap enc)
theorem OwnE.src {E : Nat} {w : World} {base g c : Nat} {L : List α} (h : OwnE enc E F w base g c L) : SrcE enc F w (some ⟨g, 0, none⟩) c L := ⟨Rds.own h, .inr ⟨_, rfl⟩⟩
theorem ownE_made (E : Nat) (w : World) (base : Nat) (hb : base ≤ w.heap.size) : OwnE enc E F (w.alloc (.cells #[] E)) base w.heap.size 0 ([] : List α) :=
  World.ownsRow_made w #[] 0 hb (by unfold maxLen; omega) (by simp)
theorem OwnE.capOk {E : Nat} {w : World} {base g c : Nat} {L : List α} (h : OwnE enc E F w base g c L) : L.length ≤ c ∧ c ≤ maxLen ∧ base ≤ g ∧ g < w.heap.size := by
  have h2 := h.lt g rfl
  rcases h.2 with ⟨h', _⟩ | ⟨g', cap, cur, hv, hb, hh, hnc, hcm, hcs, htake⟩
  · simp at h'
  · simp only [Value.slice.injEq, true_and] at hv
    obtain ⟨_, rfl⟩ := hv
    exact ⟨hnc, hcm, h2.1, h2.2⟩

variable {P : Program} {w : World} {ops : Array Oper} {rest : List Oper} {o : Oper} {a : Act} {Q : Exit → Act → World → Prop}
/-- 'append(v, x...)': v a row of the call's own, not nil; x a slice, nil or not. -/
theorem append_rec {ST E : TypeId} {B : Nat} (T : RowT P ST E F B) (he : Enc enc F) (hF : 0 < F) (hgd : o.guard = none) (s x : Operand) (ho : o.op = .call { callee := .builtin .append, args := #[s, x], argTypes := #[ST, ST] })
    (base : Nat) (g c0 : Nat) (L : List α) (hs : a.eval s = .slice (some ⟨g, 0, none⟩) L.length c0) (hown : OwnE enc E F w base g c0 L)
    (A : Option Addr) (m c : Nat) (M : List α) (hm : m = M.length) (hx : a.eval x = .slice A m c) (hM : SrcE enc F w A c M) (hn : L.length + M.length ≤ 16777216) (hB : B ≤ 4096) (hbase : base ≤ w.heap.size)
    (h : ∀ N, Hid (N = L ++ M) → ∀ g' c' w', OwnE enc E F w' base g' c' N → w.grownBy w' (some g) → (g' = g ∨ g' = w.heap.size) → Below base w w' → wpList P ops Q rest (a.put o.dst (.slice (some ⟨g', 0, none⟩) N.length c')) w') : wpList P ops Q (o :: rest) a w := by
  subst hm
  obtain ⟨i0, z, hi, hz0, hz1, hz2, hzs⟩ := T.info
  rcases hM.2 with ⟨rfl, rfl⟩ | ⟨ad, rfl⟩
  · have h0 : M = [] := by
      cases M with
      | nil => rfl
      | cons y r => obtain ⟨b, off, e, _⟩ := hM.1.2 (by simp); cases e
    subst h0
    refine wpList_append_own_none hgd s x ST ho base E i0 F T.und hi _ _ _ hs hown hx ?_
    exact h L (by rw [List.append_nil]; exact rfl) g c0 w hown (World.grownBy.refl w _) (.inl rfl) (Below.refl _ _)
  · refine wpList_append_own_at _ hgd s x ST ho base E i0 z F B T.und hi hz0 hz1 hz2 hzs hF _ _ _ hs hown ad M.length c (M.flatMap enc) hx (he.flat M) ?_ (he.flat_one M) (by unfold maxLen; omega) ?_ hbase ?_
    · intro j u hu
      have hj : 0 < M.length := by
        have := (List.getElem?_eq_some_iff.1 hu).1
        rw [he.flat] at this
        rcases Nat.eq_zero_or_pos M.length with h0 | h0
        · rw [h0] at this; omega
        · exact h0
      obtain ⟨b, off, e, _, hc⟩ := hM.1.2 hj
      simp only [Option.some.injEq] at e
      subst e
      have e2 : (Addr.add ⟨b, off, none⟩ j) = ⟨b, off + j, none⟩ := by
        unfold Addr.add; split
        · rename_i h; subst h; rfl
        · rfl
      rw [e2]; exact hc j u hu
    · exact Nat.le_trans (Nat.mul_le_mul hn hB) (by omega)
    · intro v' w' h1 h2 h3 h4
      have h1' : w'.ownsRow base E F v' (L ++ M).length ((L ++ M).flatMap enc) := by rw [List.length_append, List.flatMap_append]; exact h1
      rcases h1'.2 with ⟨hv, _⟩ | ⟨g', cap, cur, hv, _⟩
      · have := (h3.1 hv).1; simp at this
      · subst hv
        exact h _ rfl g' cap w' h1' h2 (by simpa [Value.ownBlock] using h4) ((Below.refl base w).grown h2 hbase (fun k hk => (hown.lt k hk).1))
theorem SrcE.blk {w : World} {g c E : Nat} {cs : Array Value} {L : List α} (he : Enc enc F) (hg : w.heap[g]? = some (.cells cs E (0, 0))) (hcs : cs.toList = L.flatMap enc) : SrcE enc F w (some ⟨g, 0, none⟩) c L := by
  refine ⟨⟨he.flat _, fun _ => ⟨_, _, rfl, ?_, fun j u hu => ?_⟩⟩, .inr ⟨_, rfl⟩⟩
  · rcases Nat.lt_or_ge g w.heap.size with hl | hl
    · exact hl
    · rw [Array.getElem?_eq_none hl] at hg; cases hg
  · rw [Nat.zero_add, cell_of_row _ _ j cs E (0, 0) hg, ← Array.getElem?_toList, hcs]
    exact hu
/-- the same in a region that draws its order. -/
theorem step_append_rec {ST E : TypeId} {B : Nat} {K : Act → World → Prop} {EE : Prop} (T : RowT P ST E F B) (he : Enc enc F) (hF : 0 < F) (hgd : o.guard = none) (s x : Operand) (ho : o.op = .call { callee := .builtin .append, args := #[s, x], argTypes := #[ST, ST] })
    (base : Nat) (g c0 : Nat) (L : List α) (hs : a.eval s = .slice (some ⟨g, 0, none⟩) L.length c0) (hown : OwnE enc E F w base g c0 L)
    (ad : Addr) (m c : Nat) (M : List α) (hm : m = M.length) (hx : a.eval x = .slice (some ad) m c) (hM : SrcE enc F w (some ad) c M) (hn : L.length + M.length ≤ 16777216) (hB : B ≤ 4096) (hbase : base ≤ w.heap.size)
    (h : ∀ N, Hid (N = L ++ M) → ∀ g' c' w', OwnE enc E F w' base g' c' N → w.grownBy w' (some g) → (g' = g ∨ g' = w.heap.size) → Below base w w' → K (a.put o.dst (.slice (some ⟨g', 0, none⟩) N.length c')) w') :
    if Region.wanted o (yielded ops a.tmps) = true then Oper.wp P o a w K Q else EE := by
  subst hm
  obtain ⟨i0, z, hi, hz0, hz1, hz2, hzs⟩ := T.info
  have hnews : ∀ j u, (M.flatMap enc)[j]? = some u → w.cell? (ad.add j) = some u := by
    intro j u hu
    have hj : 0 < M.length := by
      have := (List.getElem?_eq_some_iff.1 hu).1
      rw [he.flat] at this
      rcases Nat.eq_zero_or_pos M.length with h0 | h0
      · rw [h0] at this; omega
      · exact h0
    obtain ⟨b, off, e, _, hc⟩ := hM.1.2 hj
    simp only [Option.some.injEq] at e
    subst e
    have e2 : (Addr.add ⟨b, off, none⟩ j) = ⟨b, off + j, none⟩ := by
      unfold Addr.add; split
      · rename_i h; subst h; rfl
      · rfl
    rw [e2]; exact hc j u hu
  obtain ⟨v', w', hrun, h1, h2, h3, h4⟩ := run_append_own_at (P := P) w base ST o.type E i0 z F B T.und hi hz0 hz1 hz2 hzs hF _ _ _ hown ad M.length c (M.flatMap enc) (he.flat M) hnews (he.flat_one M) (by unfold maxLen; omega) (Nat.le_trans (Nat.mul_le_mul hn hB) (by omega)) hbase
  have h1' : w'.ownsRow base E F v' (L ++ M).length ((L ++ M).flatMap enc) := by rw [List.length_append, List.flatMap_append]; exact h1
  have hw : Region.wanted o (yielded ops a.tmps) = true := by simp [Region.wanted, hgd]
  rw [if_pos hw]
  unfold Oper.wp execOp
  simp only [ho, resolve, invoke, builtin, Sem.run_bind, Sem.run_pure, Result.andThen_ok, List.map_toArray, List.map_cons, List.map_nil, hs, hx, hrun]
  rcases h1'.2 with ⟨hv, _⟩ | ⟨g', cap, cur, hv, _⟩
  · have := (h3.1 hv).1; simp at this
  · subst hv
    exact h _ rfl g' cap w' h1' h2 (by simpa [Value.ownBlock] using h4) ((Below.refl base w).grown h2 hbase (fun k hk => (hown.lt k hk).1))
end
end Go.Proofs.YtaobgliimbmemaaGreatDoor
