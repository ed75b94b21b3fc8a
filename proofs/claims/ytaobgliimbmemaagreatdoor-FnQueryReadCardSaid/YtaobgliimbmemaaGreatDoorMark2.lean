/-
  Contracts of markSynS, heldSynS, markConf, heldConf.
-/
import Derived.Test.YtaobgliimbmemaaGreatDoorMark
namespace Go.Proofs.YtaobgliimbmemaaGreatDoor
open Go.RowKit Go.Sort
set_option linter.unusedVariables false

def mkS : Nat → List SynD → List SynD
  | _, [] => []
  | k, y :: r => ⟨mkL k y.fr.length, mtx (k + y.fr.length)⟩ :: mkS (k + y.fr.length + 1) r
def endS : Nat → List SynD → Nat
  | k, [] => k
  | k, y :: r => endS (k + y.fr.length + 1) r
theorem mkS_len : ∀ (k : Nat) (Ys : List SynD), (mkS k Ys).length = Ys.length
  | _, [] => rfl
  | k, y :: r => by show (mkS _ r).length + 1 = r.length + 1; rw [mkS_len]
theorem endS_succ : ∀ (k : Nat) (Ys : List SynD) (i : Nat) (hi : i < Ys.length), endS k (Ys.take (i + 1)) = endS k (Ys.take i) + Ys[i].fr.length + 1
  | k, y :: r, 0, hi => rfl
  | k, y :: r, i + 1, hi => by
    have hi' : i < r.length := by simpa using hi
    show endS _ (r.take (i + 1)) = endS _ (r.take i) + r[i].fr.length + 1
    exact endS_succ _ r i hi'
theorem mkS_get : ∀ (k : Nat) (Ys : List SynD) (i : Nat) (hi : i < Ys.length), (mkS k Ys)[i]? = some ⟨mkL (endS k (Ys.take i)) Ys[i].fr.length, mtx (endS k (Ys.take i) + Ys[i].fr.length)⟩
  | k, y :: r, 0, hi => rfl
  | k, y :: r, i + 1, hi => by
    show (mkS _ r)[i]? = _
    exact mkS_get _ r i (by simpa using hi)
theorem endS_le : ∀ (k : Nat) (Ys : List SynD), (∀ y ∈ Ys, y.fr.length ≤ 1048576) → endS k Ys ≤ k + 1048577 * Ys.length ∧ k ≤ endS k Ys
  | k, [], _ => ⟨Nat.le_add_right _ _, Nat.le_refl _⟩
  | k, y :: r, h => by
    have h1 := h y (by simp)
    have ih := endS_le (k + y.fr.length + 1) r (fun z hz => h z (List.mem_cons_of_mem _ hz))
    show endS _ r ≤ k + 1048577 * (r.length + 1) ∧ _ ≤ endS _ r
    omega
theorem endS_bd {k : Nat} {Ys : List SynD} (h : ∀ y ∈ Ys, y.fr.length ≤ 1048576) (i : Nat) : endS k (Ys.take i) ≤ k + 1048577 * Ys.length ∧ k ≤ endS k (Ys.take i) := by
  have h1 := endS_le k (Ys.take i) (fun y hy => h y (List.mem_of_mem_take hy))
  have h2 : (Ys.take i).length ≤ Ys.length := by rw [List.length_take]; omega
  have h3 := Nat.mul_le_mul_left 1048577 h2
  omega
/-- a header whose texts are marks. -/
def mkM (k : Nat) (m : HdY) : HdY := ⟨m.g, m.c, ⟨mkL k m.y.fr.length, mtx (k + m.y.fr.length)⟩⟩
def mkH : Nat → List HdY → List HdY
  | _, [] => []
  | k, m :: r => mkM k m :: mkH (k + m.y.fr.length + 1) r
theorem mkH_y : ∀ (k : Nat) (hv : List HdY), (mkH k hv).map (·.y) = mkS k (hv.map (·.y))
  | _, [] => rfl
  | k, m :: r => by show _ :: (mkH _ r).map (·.y) = _ :: mkS _ (r.map (·.y)); rw [mkH_y]; rfl
theorem mkH_g : ∀ (k : Nat) (hv : List HdY), (mkH k hv).map (·.g) = hv.map (·.g)
  | _, [] => rfl
  | k, m :: r => by show m.g :: (mkH _ r).map (·.g) = m.g :: r.map (·.g); rw [mkH_g]
theorem mkH_len (k : Nat) (hv : List HdY) : (mkH k hv).length = hv.length := by
  have := congrArg List.length (mkH_g k hv)
  rwa [List.length_map, List.length_map] at this
def endH (k : Nat) (hv : List HdY) : Nat := endS k (hv.map (·.y))
theorem mkH_succ : ∀ (k : Nat) (hv : List HdY) (i : Nat) (hi : i < hv.length), mkH k (hv.take (i + 1)) = mkH k (hv.take i) ++ [mkM (endH k (hv.take i)) hv[i]]
  | k, m :: r, 0, hi => rfl
  | k, m :: r, i + 1, hi => by
    have hi' : i < r.length := by simpa using hi
    show mkM k m :: mkH _ (r.take (i + 1)) = mkM k m :: (mkH _ (r.take i) ++ [mkM (endH _ (r.take i)) r[i]])
    rw [mkH_succ _ r i hi']
theorem endH_succ (k : Nat) (hv : List HdY) (i : Nat) (hi : i < hv.length) : endH k (hv.take (i + 1)) = endH k (hv.take i) + hv[i].y.fr.length + 1 := by
  unfold endH
  rw [List.map_take, List.map_take, endS_succ k (hv.map (·.y)) i (by simpa using hi), List.getElem_map]
/-- the first i are marked. -/
def stH (k : Nat) (hv : List HdY) (i : Nat) : List HdY := mkH k (hv.take i) ++ hv.drop i
theorem stH_zero (k : Nat) (hv : List HdY) : stH k hv 0 = hv := by simp [stH, mkH]
theorem stH_all (k : Nat) (hv : List HdY) : stH k hv hv.length = mkH k hv := by simp [stH]
theorem stH_now {k : Nat} {hv : List HdY} {i : Nat} (hi : i < hv.length) : stH k hv i = mkH k (hv.take i) ++ hv[i] :: hv.drop (i + 1) := by unfold stH; rw [List.drop_eq_getElem_cons hi]
theorem stH_next {k : Nat} {hv : List HdY} {i : Nat} (hi : i < hv.length) : stH k hv (i + 1) = mkH k (hv.take i) ++ mkM (endH k (hv.take i)) hv[i] :: hv.drop (i + 1) := by unfold stH; rw [mkH_succ k hv i hi, List.append_assoc]; rfl
theorem stH_len (k : Nat) (hv : List HdY) (i : Nat) : (stH k hv i).length = hv.length := by
  unfold stH; rw [List.length_append, mkH_len, List.length_take, List.length_drop]; omega
/-- one row is written anew. -/
theorem OwnH.mark {w w1 : World} {s : Nat} {P Q : List HdY} {m m2 : HdY} (h : OwnH w s (P ++ m :: Q)) (hg : w.grownBy w1 (some m.g)) (e1 : m2.g = m.g) (h2 : OwnT w1 s m2.g m2.c m2.y.fr) : OwnH w1 s (P ++ m2 :: Q) := by
  have hd := h.dif
  rw [List.map_append, List.map_cons, List.nodup_append, List.nodup_cons] at hd
  obtain ⟨d1, ⟨d2, d3⟩, d4⟩ := hd
  refine ⟨fun x hx => ?_, ?_⟩
  · rcases List.mem_append.1 hx with hx | hx
    · exact own_other (h.own x (List.mem_append.2 (.inl hx))) hg (d4 _ (List.mem_map.2 ⟨x, hx, rfl⟩) _ (by simp))
    · rcases List.mem_cons.1 hx with rfl | hx
      · exact h2
      · exact own_other (h.own x (List.mem_append.2 (.inr (List.mem_cons_of_mem _ hx)))) hg (fun e => d2 (List.mem_map.2 ⟨x, hx, e⟩))
  · rw [List.map_append, List.map_cons, e1, List.nodup_append, List.nodup_cons]
    exact ⟨d1, ⟨d2, d3⟩, d4⟩
theorem OwnH.same {w w1 : World} {s : Nat} {P Q : List HdY} {m m2 : HdY} (h : OwnH w s (P ++ m :: Q)) (e1 : m2.g = m.g) (e2 : m2.c = m.c) (e3 : m2.y.fr = m.y.fr) : OwnH w s (P ++ m2 :: Q) :=
  OwnH.mark h (World.grownBy.refl w _) e1 (by rw [e1, e2, e3]; exact h.own m (by simp))
theorem encH_set (P Q : List HdY) (m m2 : HdY) (t : ByteArray) (e1 : m2.g = m.g) (e2 : m2.c = m.c) (e3 : m2.y.fr.length = m.y.fr.length) (e4 : m2.y.tgt = t) :
    ((P ++ m :: Q).flatMap encH).set (P.length * 2 + 1) (.string t) = (P ++ m2 :: Q).flatMap encH := by
  have hl : (P.flatMap encH).length = P.length * 2 := encH_ok.flat P
  rw [List.flatMap_append, List.flatMap_append, List.set_append_right _ _ (by omega), hl, show P.length * 2 + 1 - P.length * 2 = 1 by omega, List.flatMap_cons, List.flatMap_cons]
  unfold encH
  rw [e1, e2, e3, e4]
  rfl
theorem encH_cells (P Q : List HdY) (m : HdY) : ((P ++ m :: Q).flatMap encH)[P.length * 2]? = some (.slice (some ⟨m.g, 0, none⟩) m.y.fr.length m.c) ∧ ((P ++ m :: Q).flatMap encH)[P.length * 2 + 1]? = some (.string m.y.tgt) := by
  have hl : (P.flatMap encH).length = P.length * 2 := encH_ok.flat P
  rw [List.flatMap_append, List.flatMap_cons]
  constructor
  · rw [List.getElem?_append_right (by omega), hl, Nat.sub_self]; rfl
  · rw [List.getElem?_append_right (by omega), hl, show P.length * 2 + 1 - P.length * 2 = 1 by omega]; rfl
theorem zone_grown {w w' : World} {g s t : Nat} (h : w.grownBy w' (some g)) (h1 : s ≤ g) (h2 : g < t) : ZoneR s t w w' :=
  ⟨⟨h.1, h.2, h.3⟩, h.4, fun k hk hn => h.5 k hk (fun e => by injection e with e; omega)⟩
/-- of the old blocks only those of S have turned. -/
def OnlyS (S : Nat → Prop) (w w' : World) : Prop := (w'.os = w.os ∧ w'.tape = w.tape ∧ w'.output = w.output) ∧ w.heap.size ≤ w'.heap.size ∧ ∀ k, k < w.heap.size → ¬ S k → w'.heap[k]? = w.heap[k]?
theorem OnlyS.refl (S : Nat → Prop) (w : World) : OnlyS S w w := ⟨⟨rfl, rfl, rfl⟩, Nat.le_refl _, fun _ _ _ => rfl⟩
theorem OnlyS.trans {S : Nat → Prop} {a b c : World} (h : OnlyS S a b) (k : OnlyS S b c) : OnlyS S a c :=
  ⟨⟨k.1.1.trans h.1.1, k.1.2.1.trans h.1.2.1, k.1.2.2.trans h.1.2.2⟩, Nat.le_trans h.2.1 k.2.1, fun i hi hn => (k.2.2 i (Nat.lt_of_lt_of_le hi h.2.1) hn).trans (h.2.2 i hi hn)⟩
theorem OnlyS.of {S : Nat → Prop} {w w' : World} (h : Below w.heap.size w w') : OnlyS S w w' := ⟨⟨h.os, h.tape, h.output⟩, h.size, fun k hk _ => h.block k hk⟩
theorem OnlyS.grown {S : Nat → Prop} {w w' : World} {g : Nat} (h : w.grownBy w' (some g)) (hS : S g) : OnlyS S w w' :=
  ⟨⟨h.1, h.2, h.3⟩, h.4, fun k hk hn => h.5 k hk (fun e => by injection e with e; exact hn (e ▸ hS))⟩
theorem OnlyS.zone {S : Nat → Prop} {w w' : World} {s t : Nat} (h : OnlyS S w w') (hS : ∀ b, S b → s ≤ b ∧ b < t) : ZoneR s t w w' :=
  ⟨h.1, h.2.1, fun k hk hn => h.2.2 k hk (fun hs => by have := hS k hs; omega)⟩
theorem own_only {S : Nat → Prop} {w w' : World} {base e size n g c : Nat} {xs : List Value} (h : w.ownsRow base e size (.slice (some ⟨g, 0, none⟩) n c) n xs) (hz : OnlyS S w w') (hn : ¬ S g) : w'.ownsRow base e size (.slice (some ⟨g, 0, none⟩) n c) n xs := by
  rcases h.2 with ⟨h', h0⟩ | ⟨g', cap, cur, hv, hg, hh, hnc, hcm, hcs, htake⟩
  · exact ⟨h.1, .inl ⟨h', h0⟩⟩
  · have h1 := h.lt g rfl
    simp only [Value.slice.injEq, Option.some.injEq, Addr.mk.injEq, and_true, true_and] at hv
    obtain ⟨rfl, rfl⟩ := hv
    exact ⟨h.1, .inr ⟨g, c, cur, rfl, hg, (hz.2.2 g h1.2 hn).trans hh, hnc, hcm, hcs, htake⟩⟩
end Go.Proofs.YtaobgliimbmemaaGreatDoor
