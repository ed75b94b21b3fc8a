/-
  Contracts of markSynS, heldSynS, markConf, heldConf.
-/
import Derived.Test.YtaobgliimbmemaaDoorMark
namespace Go.Proofs.YtaobgliimbmemaaDoor
open Go.RowKit Go.Sort
set_option linter.unusedVariables false

def mkS : Nat → List SynD → List SynD
  | _, [] => []
  | k, y :: r => ⟨mkL k y.fr.length, mtx (k + y.fr.length)⟩ :: mkS (k + y.fr.length + 1) r
def endS : Nat → List SynD → Nat
  | k, [] => k
  | k, y :: r => endS (k + y.fr.length + 1) r
theorem mkS_len : ∀ (k : Nat) (Ys : List SynD), (mkS k Ys).length = Ys.length
  | _, [] => rfl
  | k, y :: r => by show (mkS _ r).length + 1 = r.length + 1; rw [mkS_len]
theorem endS_succ : ∀ (k : Nat) (Ys : List SynD) (i : Nat) (hi : i < Ys.length), endS k (Ys.take (i + 1)) = endS k (Ys.take i) + Ys[i].fr.length + 1
  | k, y :: r, 0, hi => rfl
  | k, y :: r, i + 1, hi => by
    have hi' : i < r.length := by simpa using hi
    show endS _ (r.take (i + 1)) = endS _ (r.take i) + r[i].fr.length + 1
    exact endS_succ _ r i hi'
theorem mkS_get : ∀ (k : Nat) (Ys : List SynD) (i : Nat) (hi : i < Ys.length), (mkS k Ys)[i]? = some ⟨mkL (endS k (Ys.take i)) Ys[i].fr.length, mtx (endS k (Ys.take i) + Ys[i].fr.length)⟩
  | k, y :: r, 0, hi => rfl
  | k, y :: r, i + 1, hi => by
    show (mkS _ r)[i]? = _
    exact mkS_get _ r i (by simpa using hi)
theorem endS_le : ∀ (k : Nat) (Ys : List SynD), (∀ y ∈ Ys, y.fr.length ≤ 1048576) → endS k Ys ≤ k + 1048577 * Ys.length ∧ k ≤ endS k Ys
  | k, [], _ => ⟨Nat.le_add_right _ _, Nat.le_refl _⟩
  | k, y :: r, h => by
    have h1 := h y (by simp)
    have ih := endS_le (k + y.fr.length + 1) r (fun z hz => h z (List.mem_cons_of_mem _ hz))
    show endS _ r ≤ k + 1048577 * (r.length + 1) ∧ _ ≤ endS _ r
    omega
theorem endS_bd {k : Nat} {Ys : List SynD} (h : ∀ y ∈ Ys, y.fr.length ≤ 1048576) (i : Nat) : endS k (Ys.take i) ≤ k + 1048577 * Ys.length ∧ k ≤ endS k (Ys.take i) := by
  have h1 := endS_le k (Ys.take i) (fun y hy => h y (List.mem_of_mem_take hy))
  have h2 : (Ys.take i).length ≤ Ys.length := by rw [List.length_take]; omega
  have h3 := Nat.mul_le_mul_left 1048577 h2
  omega
/-- a header whose texts are marks. -/
def mkM (k : Nat) (m : HdY) : HdY := ⟨m.g, m.c, ⟨mkL k m.y.fr.length, mtx (k + m.y.fr.length)⟩⟩
def mkH : Nat → List HdY → List HdY
  | _, [] => []
  | k, m :: r => mkM k m :: mkH (k + m.y.fr.length + 1) r
theorem mkH_y : ∀ (k : Nat) (hv : List HdY), (mkH k hv).map (·.y) = mkS k (hv.map (·.y))
  | _, [] => rfl
  | k, m :: r => by show _ :: (mkH _ r).map (·.y) = _ :: mkS _ (r.map (·.y)); rw [mkH_y]; rfl
theorem mkH_g : ∀ (k : Nat) (hv : List HdY), (mkH k hv).map (·.g) = hv.map (·.g)
  | _, [] => rfl
  | k, m :: r => by show m.g :: (mkH _ r).map (·.g) = m.g :: r.map (·.g); rw [mkH_g]
theorem mkH_len (k : Nat) (hv : List HdY) : (mkH k hv).length = hv.length := by
  have := congrArg List.length (mkH_g k hv)
  rwa [List.length_map, List.length_map] at this
def endH (k : Nat) (hv : List HdY) : Nat := endS k (hv.map (·.y))
theorem mkH_succ : ∀ (k : Nat) (hv : List HdY) (i : Nat) (hi : i < hv.length), mkH k (hv.take (i + 1)) = mkH k (hv.take i) ++ [mkM (endH k (hv.take i)) hv[i]]
  | k, m :: r, 0, hi => rfl
  | k, m :: r, i + 1, hi => by
    have hi' : i < r.length := by simpa using hi
    show mkM k m :: mkH _ (r.take (i + 1)) = mkM k m :: (mkH _ (r.take i) ++ [mkM (endH _ (r.take i)) r[i]])
    rw [mkH_succ _ r i hi']
theorem endH_succ (k : Nat) (hv : List HdY) (i : Nat) (hi : i < hv.length) : endH k (hv.take (i + 1)) = endH k (hv.take i) + hv[i].y.fr.length + 1 := by
  unfold endH
  rw [List.map_take, List.map_take, endS_succ k (hv.map (·.y)) i (by simpa using hi), List.getElem_map]
/-- the first i are marked. -/
def stH (k : Nat) (hv : List HdY) (i : Nat) : List HdY := mkH k (hv.take i) ++ hv.drop i
theorem stH_zero (k : Nat) (hv : List HdY) : stH k hv 0 = hv := by simp [stH, mkH]
theorem stH_all (k : Nat) (hv : List HdY) : stH k hv hv.length = mkH k hv := by simp [stH]
theorem stH_now {k : Nat} {hv : List HdY} {i : Nat} (hi : i < hv.length) : stH k hv i = mkH k (hv.take i) ++ hv[i] :: hv.drop (i + 1) := by unfold stH; rw [List.drop_eq_getElem_cons hi]
theorem stH_next {k : Nat} {hv : List HdY} {i : Nat} (hi : i < hv.length) : stH k hv (i + 1) = mkH k (hv.take i) ++ mkM (endH k (hv.take i)) hv[i] :: hv.drop (i + 1) := by unfold stH; rw [mkH_succ k hv i hi, List.append_assoc]; rfl
theorem stH_len (k : Nat) (hv : List HdY) (i : Nat) : (stH k hv i).length = hv.length := by
  unfold stH; rw [List.length_append, mkH_len, List.length_take, List.length_drop]; omega
/-- one row is written anew. -/
theorem OwnH.mark {w w1 : World} {s : Nat} {P Q : List HdY} {m m2 : HdY} (h : OwnH w s (P ++ m :: Q)) (hg : w.grownBy w1 (some m.g)) (e1 : m2.g = m.g) (h2 : OwnT w1 s m2.g m2.c m2.y.fr) : OwnH w1 s (P ++ m2 :: Q) := by
  have hd := h.dif
  rw [List.map_append, List.map_cons, List.nodup_append, List.nodup_cons] at hd
  obtain ⟨d1, ⟨d2, d3⟩, d4⟩ := hd
  refine ⟨fun x hx => ?_, ?_⟩
  · rcases List.mem_append.1 hx with hx | hx
    · exact own_other (h.own x (List.mem_append.2 (.inl hx))) hg (d4 _ (List.mem_map.2 ⟨x, hx, rfl⟩) _ (by simp))
    · rcases List.mem_cons.1 hx with rfl | hx
      · exact h2
      · exact own_other (h.own x (List.mem_append.2 (.inr (List.mem_cons_of_mem _ hx)))) hg (fun e => d2 (List.mem_map.2 ⟨x, hx, e⟩))
  · rw [List.map_append, List.map_cons, e1, List.nodup_append, List.nodup_cons]
    exact ⟨d1, ⟨d2, d3⟩, d4⟩
theorem OwnH.same {w w1 : World} {s : Nat} {P Q : List HdY} {m m2 : HdY} (h : OwnH w s (P ++ m :: Q)) (e1 : m2.g = m.g) (e2 : m2.c = m.c) (e3 : m2.y.fr = m.y.fr) : OwnH w s (P ++ m2 :: Q) :=
  OwnH.mark h (World.grownBy.refl w _) e1 (by rw [e1, e2, e3]; exact h.own m (by simp))
theorem encH_set (P Q : List HdY) (m m2 : HdY) (t : ByteArray) (e1 : m2.g = m.g) (e2 : m2.c = m.c) (e3 : m2.y.fr.length = m.y.fr.length) (e4 : m2.y.tgt = t) :
    ((P ++ m :: Q).flatMap encH).set (P.length * 2 + 1) (.string t) = (P ++ m2 :: Q).flatMap encH := by
  have hl : (P.flatMap encH).length = P.length * 2 := encH_ok.flat P
  rw [List.flatMap_append, List.flatMap_append, List.set_append_right _ _ (by omega), hl, show P.length * 2 + 1 - P.length * 2 = 1 by omega, List.flatMap_cons, List.flatMap_cons]
  unfold encH
  rw [e1, e2, e3, e4]
  rfl
theorem encH_cells (P Q : List HdY) (m : HdY) : ((P ++ m :: Q).flatMap encH)[P.length * 2]? = some (.slice (some ⟨m.g, 0, none⟩) m.y.fr.length m.c) ∧ ((P ++ m :: Q).flatMap encH)[P.length * 2 + 1]? = some (.string m.y.tgt) := by
  have hl : (P.flatMap encH).length = P.length * 2 := encH_ok.flat P
  rw [List.flatMap_append, List.flatMap_cons]
  constructor
  · rw [List.getElem?_append_right (by omega), hl, Nat.sub_self]; rfl
  · rw [List.getElem?_append_right (by omega), hl, show P.length * 2 + 1 - P.length * 2 = 1 by omega]; rfl
theorem zone_grown {w w' : World} {g s t : Nat} (h : w.grownBy w' (some g)) (h1 : s ≤ g) (h2 : g < t) : ZoneR s t w w' :=
  ⟨⟨h.1, h.2, h.3⟩, h.4, fun k hk hn => h.5 k hk (fun e => by injection e with e; omega)⟩
/-- of the old blocks only those of S have turned. -/
def OnlyS (S : Nat → Prop) (w w' : World) : Prop := (w'.os = w.os ∧ w'.tape = w.tape ∧ w'.output = w.output) ∧ w.heap.size ≤ w'.heap.size ∧ ∀ k, k < w.heap.size → ¬ S k → w'.heap[k]? = w.heap[k]?
theorem OnlyS.refl (S : Nat → Prop) (w : World) : OnlyS S w w := ⟨⟨rfl, rfl, rfl⟩, Nat.le_refl _, fun _ _ _ => rfl⟩
theorem OnlyS.trans {S : Nat → Prop} {a b c : World} (h : OnlyS S a b) (k : OnlyS S b c) : OnlyS S a c :=
  ⟨⟨k.1.1.trans h.1.1, k.1.2.1.trans h.1.2.1, k.1.2.2.trans h.1.2.2⟩, Nat.le_trans h.2.1 k.2.1, fun i hi hn => (k.2.2 i (Nat.lt_of_lt_of_le hi h.2.1) hn).trans (h.2.2 i hi hn)⟩
theorem OnlyS.of {S : Nat → Prop} {w w' : World} (h : Below w.heap.size w w') : OnlyS S w w' := ⟨⟨h.os, h.tape, h.output⟩, h.size, fun k hk _ => h.block k hk⟩
theorem OnlyS.grown {S : Nat → Prop} {w w' : World} {g : Nat} (h : w.grownBy w' (some g)) (hS : S g) : OnlyS S w w' :=
  ⟨⟨h.1, h.2, h.3⟩, h.4, fun k hk hn => h.5 k hk (fun e => by injection e with e; exact hn (e ▸ hS))⟩
theorem OnlyS.zone {S : Nat → Prop} {w w' : World} {s t : Nat} (h : OnlyS S w w') (hS : ∀ b, S b → s ≤ b ∧ b < t) : ZoneR s t w w' :=
  ⟨h.1, h.2.1, fun k hk hn => h.2.2 k hk (fun hs => by have := hS k hs; omega)⟩
theorem own_only {S : Nat → Prop} {w w' : World} {base e size n g c : Nat} {xs : List Value} (h : w.ownsRow base e size (.slice (some ⟨g, 0, none⟩) n c) n xs) (hz : OnlyS S w w') (hn : ¬ S g) : w'.ownsRow base e size (.slice (some ⟨g, 0, none⟩) n c) n xs := by
  rcases h.2 with ⟨h', h0⟩ | ⟨g', cap, cur, hv, hg, hh, hnc, hcm, hcs, htake⟩
  · exact ⟨h.1, .inl ⟨h', h0⟩⟩
  · have h1 := h.lt g rfl
    simp only [Value.slice.injEq, Option.some.injEq, Addr.mk.injEq, and_true, true_and] at hv
    obtain ⟨rfl, rfl⟩ := hv
    exact ⟨h.1, .inr ⟨g, c, cur, rfl, hg, (hz.2.2 g h1.2 hn).trans hh, hnc, hcm, hcs, htake⟩⟩
set_option maxHeartbeats 1600000 in
theorem markSynS_any (g c base : Nat) (hv : List HdY) (k : Nat) (w : World) (h : OwnY w base g c hv) (hn : hv.length ≤ 1048576) (hf : ∀ m ∈ hv, m.y.fr.length ≤ 1048576) (h0 : 1 ≤ k) (h1 : k ≤ 1099511627776) :
    Calls Tryd.prog 65 #[.slice (some ⟨g, 0, none⟩) hv.length c, .int .i64 k] w fun e w' => (e = .returned (.int .i64 ((endH k hv : Nat) : Int)) ∧ OwnY w' base g c (mkH k hv)) ∧ OnlyS (fun b => b = g ∨ ∃ m ∈ hv, m.g = b) w w' := by
  obtain ⟨n, hnn⟩ : ∃ n, n = hv.length := ⟨_, rfl⟩
  have HNL := Lib.hid hnn
  have HF := Lib.hid hf
  obtain ⟨S, hS⟩ : ∃ S : Nat → Prop, S = fun b => b = g ∨ ∃ m ∈ hv, m.g = b := ⟨_, rfl⟩
  have HSg : Hid (S g) := by show S g; rw [hS]; exact .inl rfl
  have HSm : Hid (∀ m ∈ hv, S m.g) := fun m hm => by rw [hS]; exact .inr ⟨m, hm, rfl⟩
  rw [← hS]
  clear hS
  have hbd : Hid (∀ i, endH k (hv.take i) ≤ k + 1048577 * n ∧ k ≤ endH k (hv.take i)) := fun i => by
    have := endS_bd (k := k) (Ys := hv.map (·.y)) (fun y hy => by obtain ⟨m, hm, rfl⟩ := List.mem_map.1 hy; exact hf m hm) i
    rw [List.length_map, ← List.map_take] at this
    rw [hnn]; exact this
  have h' : w.ownsRow base 82 2 (.slice (some ⟨g, 0, none⟩) n c) n ((stH k hv 0).flatMap encH) ∧ OwnH w base (stH k hv 0) := by rw [stH_zero, hnn]; exact ⟨h.hd, h.fr⟩
  have hgb := (OwnE.capOk h.hd).2.2.1
  rw [← hnn] at hn ⊢
  clear hnn h hf
  go_enter Tryd.func65, Tryd.ntmps65
  go_wp2
  go_loopw [1, 5] (fun m i wr => ∃ (j q : Nat), j ≤ n ∧ i = .int .i64 j ∧ m = .int .i64 (q : Int) ∧ Hid (q = endH k (hv.take j)) ∧ wr.ownsRow base 82 2 (.slice (some ⟨g, 0, none⟩) n c) n ((stH k hv j).flatMap encH) ∧ OwnH wr base (stH k hv j) ∧ OnlyS S w wr) (fun _ i _ => n - (intOf i).toNat)
  case atStart => exact ⟨0, k, Nat.zero_le _, rfl, rfl, rfl, h'.1, h'.2, OnlyS.refl _ _⟩
  case round =>
    clear h'
    obtain ⟨j, q, hj, rfl, rfl, hq, hown, hoh, hz⟩ := hrel
    by_cases hlt : j < n
    · have hi0 : (j : Int) < (n : Int) := by omega
      have hltL : j < hv.length := by rw [← HNL.out]; exact hlt
      have hqb := hbd.out j
      rw [← hq.out] at hqb
      rw [stH_now hltL] at hown hoh
      have HNX : Hid (stH k hv (j + 1) = mkH k (hv.take j) ++ mkM q hv[j] :: hv.drop (j + 1)) := by show _ = _; rw [stH_next hltL, hq.out]
      have HQX : Hid (endH k (hv.take (j + 1)) = q + hv[j].y.fr.length + 1) := by show _ = _; rw [endH_succ k hv j hltL, hq.out]
      have hPl : (mkH k (hv.take j)).length = j := by rw [mkH_len, List.length_take]; omega
      have hfm := HF.out hv[j] (List.getElem_mem _)
      have htm := Lib.hid (HSm.out hv[j] (List.getElem_mem _))
      clear hq
      generalize mkH k (hv.take j) = P at hown hoh HNX hPl
      generalize hv.drop (j + 1) = Q at hown hoh HNX
      generalize hv[j] = m at hown hoh HNX HQX hfm htm
      obtain ⟨e0, e1⟩ := encH_cells P Q m
      rw [hPl] at e0 e1
      have g0 := (hown.cellAt (j * 2) (by omega)).trans e0
      have om := hoh.own m (by simp)
      have hge := (OwnE.capOk om).2.2.1
      obtain ⟨nm, hnm⟩ : ∃ nm, nm = m.y.fr.length := ⟨_, rfl⟩
      have cm := markStringS_any m.g m.c base m.y.fr q wr om hfm (by omega) (by omega)
      rw [← hnm] at g0 hfm HQX cm
      have CM := Lib.hid cm
      have HNM := Lib.hid hnm
      clear cm hnm e0
      go_wp2_with fail
      refine CM.out.mono ?_
      rintro e w2 ⟨⟨rfl, om2⟩, hg2⟩
      have hown2 := own_other hown hg2 (fun e => own_ne hown om (by decide) _ _ rfl rfl e)
      have hoh2 := hoh.mark (m2 := ⟨m.g, m.c, ⟨mkL q nm, m.y.tgt⟩⟩) hg2 rfl om2
      have hz2 := hz.trans (OnlyS.grown hg2 htm.out)
      clear hown hoh om om2 hg2 g0 CM hz
      go_wp2_with fail
      refine (markText_fn (q + nm) (by omega) (by omega) _).mono ?_
      rintro e w3 ⟨rfl, hb3⟩
      have hown3 := own_belowZ hown2 hb3
      have hoh3 := hoh2.below hb3
      have g1 := (hown3.cellAt (j * 2 + 1) (by omega)).trans e1
      have z1 := hown3.frozenAt (j * 2 + 1)
      have st := hown3.stored (j * 2 + 1) (.string (mtx (q + nm)))
      have hset := encH_set P Q m (mkM q m) (mtx (q + nm)) rfl rfl (by show (mkL q m.y.fr.length).length = _; rw [mkL_len]) (by show mtx (q + m.y.fr.length) = _; rw [← HNM.out])
      rw [hPl] at hset
      rw [hset] at st
      have hoh4 := (hoh3.same (w1 := w3) (m2 := mkM q m) rfl rfl (by show mkL q m.y.fr.length = mkL q nm; rw [← HNM.out])).kept (by decide) hown3 st.2
      rw [← HNX.out] at st hoh4
      have hz4 := (hz2.trans (OnlyS.of hb3)).trans (OnlyS.grown st.2 HSg.out)
      have O5 := Lib.hid st.1
      have O6 := Lib.hid hoh4
      have hqn : Hid (q + nm + 1 = endH k (hv.take (j + 1))) := HQX.out.symm
      clear hown2 hoh2 hown3 hoh3 st hset hoh4 hb3 e1 HNX HQX hz2 HNM
      generalize mtx (q + nm) = t at O5 O6 hz4 ⊢
      go_wp2
      go_roundw
      case rel => exact ⟨j + 1, q + nm + 1, by omega, by go_num, by first | rfl | (congr 1; omega) | (congr 1), hqn, O5.out, O6.out, hz4⟩
      case measure => simp [intOf]; omega
    · obtain rfl : j = n := by omega
      have hq2 : Hid (q = endH k hv) := by show _ = _; rw [hq.out, HNL.out, List.take_length]
      have O5 : Hid (OwnY wr base g c (mkH k hv)) := by
        have e := stH_all k hv
        rw [← HNL.out] at e
        rw [e] at hown hoh
        refine ⟨?_, hoh⟩
        unfold OwnE
        rw [mkH_len, ← HNL.out]
        exact hown
      clear hown hoh hq
      go_wp2
      go_ret
      exact ⟨⟨by rw [hq2.out]; rfl, O5.out⟩, hz⟩
end Go.Proofs.YtaobgliimbmemaaDoor
