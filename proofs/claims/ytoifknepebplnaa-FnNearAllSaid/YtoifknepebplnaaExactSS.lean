/-
  Contracts of what the exact laws call on slices of slices of integers: toIntSS, eqIntSS, markIntSS.
-/
import Derived.Test.YtoifknepebplnaaSS
namespace Go.Proofs.Ytoifknepebplnaa
open Go.RowKit
set_option linter.unusedVariables false

theorem infoInts : (Try.prog.info? 22).map (fun i => (i.zero, i.size, i.bytes)) = some (some (.slice none 0 0), 1, 24) := by kernel_rfl
theorem madeCells_nils (n : Nat) : (madeCells (Value.slice none 0 0).cells (n * 1)).toList = List.replicate (n * 1) (.slice none 0 0) := toList_madeCells_one _ _
/-- headers, then nils. -/
def hfill (hv : List Value) (n : Nat) : List Value := hv ++ List.replicate (n - hv.length) (.slice none 0 0)
theorem hfill_nil (n : Nat) : hfill [] n = List.replicate (n * 1) (.slice none 0 0) := by simp [hfill]
theorem hfill_step {hv : List Value} {n k : Nat} (h : hv.length = k) (hk : k < n) (u : Value) : (hfill hv n).set k u = hfill (hv ++ [u]) n := by
  unfold hfill
  rw [List.set_append_right _ _ (by omega), h, Nat.sub_self, show n - k = (n - (k + 1)) + 1 by omega, List.replicate_succ, List.set_cons_zero, List.append_assoc, List.length_append, h]
  rfl
theorem hfill_get {hv : List Value} {n k : Nat} (h : hv.length = k) (hk : k < n) : (hfill hv n)[k]? = some (.slice none 0 0) := by
  unfold hfill
  rw [List.getElem?_append_right (by omega), h, Nat.sub_self, show n - k = (n - (k + 1)) + 1 by omega, List.replicate_succ]; rfl
theorem hfill_all {hv : List Value} {n : Nat} (h : hv.length = n) : hfill hv n = hv := by unfold hfill; rw [h, Nat.sub_self]; simp
/-- headers of rows that read as the first k lists, each a row of the call's own. -/
def Hdrs (w : World) (s : Nat) (hv : List Value) (Ls : List (List Int)) (k : Nat) : Prop :=
  hv.length = k ∧ ∀ i, (hi : i < Ls.length) → i < k → ∃ A' c', hv[i]? = some (.slice A' Ls[i].length c') ∧ Src w A' c' Ls[i] ∧ Wr w s w.heap.size A' Ls[i].length
theorem Hdrs.below {w w' : World} {s k : Nat} {hv : List Value} {Ls : List (List Int)} (h : Hdrs w s hv Ls k) (hb : Below w.heap.size w w') : Hdrs w' s hv Ls k :=
  ⟨h.1, fun i hi hk => by
    obtain ⟨A', c', h1, h2, h3⟩ := h.2 i hi hk
    exact ⟨A', c', h1, h2.below hb, (h3.below hb).mono (Nat.le_refl _) hb.size⟩⟩
theorem Src.far {w : World} {A : Option Addr} {c : Nat} {L : List Int} {g j : Nat} (h : Src w A c L) (u : Value) (hne : L.length = 0 ∨ ∃ g' cur, A = some ⟨g', 0, none⟩ ∧ w.heap[g']? = some (.cells cur 3 (0, 0)) ∧ g' ≠ g) : Src (w.setCell ⟨g, j, none⟩ u) A c L := by
  refine ⟨⟨h.1.1, fun hn => ?_⟩, h.2⟩
  obtain ⟨b, off, e, hlt, hc⟩ := h.1.2 hn
  rcases hne with hne | ⟨g', cur, rfl, _, hne⟩
  · omega
  · simp only [Option.some.injEq, Addr.mk.injEq, and_true] at e
    obtain ⟨rfl, rfl⟩ := e
    refine ⟨g', 0, rfl, by simpa [World.setCell] using hlt, fun j u hu => ?_⟩
    rw [World.cell?_setCell_other _ _ _ _ (by intro h; injection h; omega)]
    exact hc j u hu
theorem Hdrs.set {w : World} {s k g j : Nat} {hv : List Value} {Ls : List (List Int)} {cur : Array Value} (h : Hdrs w s hv Ls k) (u : Value) (hg : w.heap[g]? = some (.cells cur 22 (0, 0))) : Hdrs (w.setCell ⟨g, j, none⟩ u) s hv Ls k :=
  ⟨h.1, fun i hi hk => by
    obtain ⟨A', c', h1, h2, h3⟩ := h.2 i hi hk
    refine ⟨A', c', h1, h2.far u ?_, by have := h3.set (g := g) (j := j) u; simpa [World.setCell] using this⟩
    rcases h3 with h3 | ⟨g', cur', rfl, _, _, h4, _⟩
    · exact .inl h3
    · refine .inr ⟨g', cur', rfl, h4, fun e => ?_⟩
      subst e
      rw [hg] at h4
      injection h4 with h4
      injection h4 with _ h4
      exact absurd h4 (by decide)⟩
theorem Hdrs.snoc {w : World} {s k c : Nat} {hv : List Value} {Ls : List (List Int)} {A : Option Addr} {L : List Int} (h : Hdrs w s hv Ls k) (hk : k < Ls.length) (he : Hid (L = Ls[k])) (hs : Src w A c L) (hw : Wr w s w.heap.size A L.length) : Hdrs w s (hv ++ [.slice A L.length c]) Ls (k + 1) := by
  have he := he.out
  subst he
  refine ⟨by simp [h.1], fun i hi hik => ?_⟩
  rcases Nat.lt_or_eq_of_le (Nat.le_of_lt_succ hik) with hlt | rfl
  · obtain ⟨A', c', h1, h2, h3⟩ := h.2 i hi hlt
    exact ⟨A', c', by rw [List.getElem?_append_left (by rw [h.1]; exact hlt)]; exact h1, h2, h3⟩
  · exact ⟨A, c, by rw [List.getElem?_append_right (by rw [h.1]; omega), h.1, Nat.sub_self]; rfl, hs, hw⟩

theorem toIntSS_any (A : Option Addr) (c : Nat) (Ls : List (List Int)) (w : World) (h : RdSS w A Ls) (hn : total Ls ≤ 1048576) :
    Calls Try.prog 31 #[.slice A Ls.length c] w (MakesSS w Ls) := by
  have hl : Ls.length ≤ 1048576 := by unfold total at hn; omega
  have HL : Hid (∀ L ∈ Ls, L.length ≤ 1048576) := fun L hL => by have := total_mem hL; omega
  obtain ⟨i0, hi, hz0, hz1, hz2⟩ := info_parts infoInts
  obtain ⟨wm, hmk, hown0, hg0⟩ := run_make_full (P := Try.prog) w w.heap.size 33 22 i0 _ 1 Try.underlying33 hi hz0 hz1 .i64 .i64 Ls.length (by rw [hz2]; omega) (by unfold maxLen; omega) (Nat.le_refl _)
  have hB0 : Below w.heap.size w wm := (Below.refl _ _).grown hg0 (Nat.le_refl _) (fun k hk => by cases hk)
  go_enter Try.func31, Try.ntmps31
  go_wp2
  go_loopw [4] (fun i wr => ∃ k : Nat, k ≤ Ls.length ∧ i = .int .i64 k ∧ ∃ hv, Hdrs wr w.heap.size hv Ls k ∧ wr.ownsRow w.heap.size 22 1 (.slice (some ⟨w.heap.size, 0, none⟩) Ls.length Ls.length) Ls.length (hfill hv Ls.length) ∧ Below w.heap.size w wr) (fun i _ => Ls.length - (intOf i).toNat)
  case atStart => exact ⟨0, Nat.zero_le _, rfl, [], ⟨rfl, fun i _ hi => absurd hi (Nat.not_lt_zero _)⟩, by rw [hfill_nil, ← madeCells_nils]; exact hown0, hB0⟩
  case round =>
    obtain ⟨k, hk, rfl, hv, hh, hown, hB⟩ := hrel
    by_cases hlt : k < Ls.length
    · obtain ⟨b, off, A', c', rfl, hb, hc, hs⟩ := (h.below hB) k hlt
      have hLk := HL.out Ls[k] (List.getElem_mem _)
      obtain ⟨L, hLe⟩ : ∃ L, L = Ls[k] := ⟨_, rfl⟩
      rw [← hLe] at hc hs hLk
      have HLe := Lib.hid hLe
      clear hLe
      have HST : Hid (∀ u, (hfill hv Ls.length).set k u = hfill (hv ++ [u]) Ls.length) := fun u => hfill_step hh.1 hlt u
      have f0 := hfill_get (n := Ls.length) hh.1 hlt
      go_wp2_with fail
      refine (toIntS_any A' c' L _ hs.1 hLk).mono ?_
      rintro e w2 ⟨B, d, ⟨rfl, own2⟩, hb2⟩
      have hh2 := hh.below hb2
      have hown2 := own_below hown hb2
      have hB2 := hB.trans (hb2.mono hB.size)
      have hs2 := hb2.size
      have g0 := (hown2.cellAt k (by omega)).trans f0
      have z0 := hown2.frozenAt k
      have own5 := (hown2.stored k (.slice B L.length d)).1
      rw [HST.out] at own5
      have hB5 := hB2.setCell (p := ⟨w.heap.size, k, none⟩) (Nat.le_refl _) (.slice B L.length d)
      have own2w : Wr w2 w.heap.size w2.heap.size B L.length := (Wr.own own2 (Nat.le_refl _)).mono hB.size (Nat.le_refl _)
      have own2s := own2.src
      have hh5 : Hdrs (w2.setCell ⟨w.heap.size, k, none⟩ (.slice B L.length d)) w.heap.size (hv ++ [.slice B L.length d]) Ls (k + 1) := by
        rcases hown2.2 with ⟨hbad, _⟩ | ⟨gg, cap, cur, hvv, _, hheap, _⟩
        · simp at hbad
        · simp only [Value.slice.injEq, Option.some.injEq, Addr.mk.injEq, and_true, true_and] at hvv
          obtain ⟨rfl, _⟩ := hvv
          exact (hh2.snoc hlt HLe own2s own2w).set _ hheap
      clear hh hh2 hown hown2 hs own2 own2w own2s HLe hB hB2 hB0 hown0 hmk hg0 h
      go_wp2
      go_roundw
      case rel => exact ⟨k + 1, by omega, by go_num, _, hh5, own5, hB5⟩
      case measure => simp [intOf]; omega
    · obtain rfl : k = Ls.length := by omega
      rw [hfill_all hh.1] at hown
      have hR := Rds.own hown
      go_wp2
      go_ret
      refine ⟨_, _, ⟨rfl, fun k hk => ?_, ?_, Nat.le_refl _, by omega⟩, hB⟩
      · obtain ⟨A', c', h1, h2, h3⟩ := hh.2 k hk hk
        obtain ⟨b, off, e, hlt, hc⟩ := hR.2 (by omega)
        exact ⟨b, off, A', c', e, hlt, hc k _ h1, h2⟩
      · rcases hown.2 with ⟨hbad, _⟩ | ⟨gg, cap, cur, hvv, hge, hheap, hnc, _, _, htake⟩
        · simp at hbad
        · simp only [Value.slice.injEq, Option.some.injEq, Addr.mk.injEq, and_true, true_and] at hvv
          obtain ⟨rfl, rfl⟩ := hvv
          refine .inr ⟨_, cur, rfl, Nat.le_refl _, heap_lt hheap, hheap, fun k hk => ?_⟩
          obtain ⟨A', c', h1, h2, h3⟩ := hh.2 k hk hk
          refine ⟨A', c', ?_, h3⟩
          rw [← htake, List.getElem?_take] at h1
          split at h1
          · simpa using h1
          · cases h1

theorem eqIntSS_same (A A' : Option Addr) (c c' : Nat) (Ls : List (List Int)) (w : World) (h : RdSS w A Ls) (h' : RdSS w A' Ls) (hn : total Ls ≤ 1048576) :
    Calls Try.prog 33 #[.slice A Ls.length c, .slice A' Ls.length c'] w fun e w' => e = .returned (.bool true) ∧ ∃ q, w' = w.drewN q := by
  have hl : Ls.length ≤ 1048576 := by unfold total at hn; omega
  have HL : Hid (∀ L ∈ Ls, L.length ≤ 1048576) := fun L hL => by have := total_mem hL; omega
  go_enter Try.func33, Try.ntmps33
  go_wp2
  go_loopw [5] (fun i wr => ∃ k : Nat, k ≤ Ls.length ∧ i = .int .i64 k ∧ ∃ q, wr = w.drewN q) (fun i _ => Ls.length - (intOf i).toNat)
  case atStart => exact ⟨0, Nat.zero_le _, rfl, 0, rfl⟩
  case round =>
    obtain ⟨k, hk, rfl, q, rfl⟩ := hrel
    by_cases hlt : k < Ls.length
    · obtain ⟨b, off, B, d, rfl, hb, hc, hs⟩ := h k hlt
      obtain ⟨b', off', B', d', rfl, hb', hc', hs'⟩ := h' k hlt
      have hi0 : (k : Int) < (Ls.length : Int) := by omega
      have hLk := HL.out Ls[k] (List.getElem_mem _)
      generalize Ls[k] = L at hc hs hLk hc' hs'
      have cE := fun W h1 h2 => eqIntS_any B B' d d' L L W h1 h2 (by omega) (by omega)
      rw [decide_eq_true (rfl : L = L)] at cE
      have CE := Lib.hid @cE
      clear cE
      go_wp2
      go_quiet ((go_at_call 20; first | exact qdrew (CE.out _ (hs.1.drawn _) (hs'.1.drawn _)) | exact qdrew2 (CE.out _ (hs.1.drawn _) (hs'.1.drawn _))))
      go_wp2
      go_roundw
      case rel => exact ⟨k + 1, by omega, by go_num, _, (by first | rfl | exact World.drewN_drewN _ _ _)⟩
      case measure => simp [intOf]; omega
    · go_wp2
      go_ret
      exact ⟨rfl, q, rfl⟩
theorem eqIntSS_b (A A' : Option Addr) (c c' : Nat) (Ls : List (List Int)) (w : World) (h : RdSS w A Ls) (h' : RdSS w A' Ls) (hn : total Ls ≤ 1048576) :
    Calls Try.prog 33 #[.slice A Ls.length c, .slice A' Ls.length c'] w fun e w' => e = .returned (.bool true) ∧ Below w.heap.size w w' := by
  refine (eqIntSS_same A A' c c' Ls w h h' hn).mono ?_
  rintro e w' ⟨rfl, q, rfl⟩
  exact ⟨rfl, below_of_drewN⟩
def KeepH (w w' : World) : Prop := ∀ (b : Nat) (hdrs : Array Value), w.heap[b]? = some (Obj.cells hdrs 22 (0, 0)) → w'.heap[b]? = some (Obj.cells hdrs 22 (0, 0))
def KeepW (s t : Nat) (w w' : World) : Prop := ∀ (B : Option Addr) (m : Nat), Wr w s t B m → Wr w' s t B m
theorem markIntS_wr (s t : Nat) (A : Option Addr) (n c : Nat) (k : Int) (w : World) (h : Wr w s t A n) (hn : n ≤ 4194304) (h0 : 0 ≤ k) (h1 : k ≤ 4611686018427387904) :
    Calls Try.prog 21 #[.slice A n c, .int .i64 k] w fun e w' => e = .returned (.int .i64 (k + n)) ∧ Zone s t w w' ∧ KeepH w w' ∧ KeepW s t w w' := by
  go_enter Try.func21, Try.ntmps21
  go_wp2
  go_loopw [1, 5] (fun m i wr => ∃ j : Nat, j ≤ n ∧ i = .int .i64 j ∧ m = .int .i64 (k + j) ∧ Zone s t w wr ∧ Hid (KeepH w wr) ∧ Hid (KeepW s t w wr)) (fun _ i _ => n - (intOf i).toNat)
  case atStart => exact ⟨0, Nat.zero_le _, rfl, by simp, Zone.refl _ _ _, fun _ _ h => h, fun _ _ h => h⟩
  case round =>
    obtain ⟨j, hj, rfl, rfl, hz, hd, hw⟩ := hrel
    by_cases hlt : j < n
    · rcases hw.out _ _ h with hbad | ⟨g, cur, rfl, hg1, hg2, hg3, hg4⟩
      · omega
      · have hjl : j < cur.size := by omega
        have g0 : wr.cell? ⟨g, j, none⟩ = some cur[j] := by rw [cell_of_row wr g j cur _ (0, 0) hg3]; simp [hjl]
        have z0 : wr.frozen? ⟨g, j, none⟩ = false := by simp [World.frozen?, hg3]
        have hz5 := hz.trans (Zone.setCell (j := j) wr (.int .i64 (k + j)) hg1 hg2)
        have hd5 : Hid (KeepH w (wr.setCell ⟨g, j, none⟩ (.int .i64 (k + j)))) := fun b hdrs h => by
          have h2 := hd.out b hdrs h
          by_cases e : b = g
          · subst e; rw [hg3] at h2; injection h2 with h2; injection h2 with _ h2; exact absurd h2 (by decide)
          · exact (Below.heap_setCell wr _ _ b e).trans h2
        have hw5 : Hid (KeepW s t w (wr.setCell ⟨g, j, none⟩ (.int .i64 (k + j)))) := fun B m h => (hw.out B m h).set _
        clear hg3 hd hw h
        go_wp2
        go_roundw
        case rel => exact ⟨j + 1, by omega, by go_num, by go_num, hz5, hd5, hw5⟩
        case measure => simp [intOf]; omega
    · obtain rfl : j = n := by omega
      have hd5 := hd
      go_wp2
      go_ret
      exact ⟨rfl, hz, hd.out, hw.out⟩
theorem markIntSS_any (s t : Nat) (A : Option Addr) (c : Nat) (Ls : List (List Int)) (w : World) (h : WrSS w s t A Ls) (hn : total Ls ≤ 1048576) :
    Calls Try.prog 34 #[.slice A Ls.length c, .int .i64 1] w fun e w' => ∃ k : Int, (e = .returned (.int .i64 k) ∧ 0 ≤ k) ∧ Zone s t w w' := by
  have hl : Ls.length ≤ 1048576 := by unfold total at hn; omega
  have HL : Hid (∀ L ∈ Ls, L.length ≤ 1048576) := fun L hL => by have := total_mem hL; omega
  go_enter Try.func34, Try.ntmps34
  go_wp2
  go_loopw [1, 5] (fun m i wr => ∃ k : Nat, k ≤ Ls.length ∧ i = .int .i64 k ∧ (∃ r : Int, m = .int .i64 r ∧ 0 ≤ r ∧ r ≤ 1 + 1048576 * k) ∧ Zone s t w wr ∧ Hid (KeepH w wr) ∧ Hid (KeepW s t w wr)) (fun _ i _ => Ls.length - (intOf i).toNat)
  case atStart => exact ⟨0, Nat.zero_le _, rfl, ⟨1, rfl, by omega, by omega⟩, Zone.refl _ _ _, fun _ _ h => h, fun _ _ h => h⟩
  case round =>
    obtain ⟨k, hk, rfl, ⟨r, rfl, hr0, hr1⟩, hz, hd, hw⟩ := hrel
    by_cases hlt : k < Ls.length
    · rcases h with hbad | ⟨b, hdrs, rfl, hb1, hb2, hb3, hb4⟩
      · rw [hbad] at hlt; simp at hlt
      · obtain ⟨A', c', h5, h6⟩ := hb4 k hlt
        have h7 := hd.out _ _ hb3
        have hc : wr.cell? ⟨b, k, none⟩ = some (.slice A' Ls[k].length c') := by rw [cell_of_row wr b k hdrs _ (0, 0) h7]; exact h5
        have h8 := hw.out _ _ h6
        have hLk := HL.out Ls[k] (List.getElem_mem _)
        have hi0 : (k : Int) < (Ls.length : Int) := by omega
        generalize Ls[k].length = n at hc h8 hLk
        clear h5 h6 h7 hb3 hb4
        go_wp2_with fail
        refine (markIntS_wr s t A' n c' r _ h8 (by omega) hr0 (by omega)).mono ?_
        rintro e w2 ⟨rfl, hz2, hd2, hw2⟩
        have hz3 := hz.trans hz2
        have hd3 : Hid (KeepH w w2) := fun b hdrs h => hd2 b hdrs (hd.out b hdrs h)
        have hw3 : Hid (KeepW s t w w2) := fun B m h => hw2 B m (hw.out B m h)
        clear hz hz2 hd hd2 hw hw2
        go_wp2
        go_roundw
        case rel => exact ⟨k + 1, by omega, by go_num, ⟨_, rfl, by omega, by omega⟩, hz3, hd3, hw3⟩
        case measure => simp [intOf]; omega
    · go_wp2
      go_ret
      exact ⟨r, ⟨rfl, hr0⟩, hz⟩
end Go.Proofs.Ytoifknepebplnaa
