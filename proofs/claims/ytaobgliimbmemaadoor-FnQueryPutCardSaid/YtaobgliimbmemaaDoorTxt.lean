/-
  Contracts of what the exact laws call on rows of texts: szStringS, toStringS, eqStringS.
-/
import Derived.Test.YtaobgliimbmemaaDoorConfKit
import Derived.Test.YtaobgliimbmemaaDoorRecZ
namespace Go.Proofs.YtaobgliimbmemaaDoor
open Go.RowKit Go.Sort
set_option linter.unusedVariables false

def SzE (left : Int) (Q : Prop) (w : World) (e : Ending) (w' : World) : Prop := ∃ r : Int, (e = .returned (.int .i64 r) ∧ r ≤ left ∧ (r < 0 ∨ Q)) ∧ Below w.heap.size w w'
theorem info_partsZ {P : Program} {t : TypeId} {z : Option Value} {s b : Nat} (h : (P.info? t).map (fun i => (i.zero, i.size, i.bytes)) = some (z, s, b)) : ∃ i, P.info? t = some i ∧ i.zero = z ∧ i.size = s ∧ i.bytes = b := by
  cases hi : P.info? t with
  | none => rw [hi] at h; cases h
  | some i =>
    rw [hi] at h
    simp only [Option.map_some, Option.some.injEq, Prod.mk.injEq] at h
    exact ⟨i, rfl, h.1, h.2.1, h.2.2⟩
theorem own_belowZ {w w' : World} {base e size n : Nat} {v : Value} {xs : List Value} (h : w.ownsRow base e size v n xs) (hb : Below w.heap.size w w') : w'.ownsRow base e size v n xs :=
  h.kept (row := none) ⟨hb.os, hb.tape, hb.output, hb.size, fun k hk _ => hb.block k hk⟩ (Classical.em _)
theorem own_monoZ {w : World} {base base' e size n : Nat} {v : Value} {xs : List Value} (h : w.ownsRow base e size v n xs) (hb : base' ≤ base) : w.ownsRow base' e size v n xs :=
  ⟨h.1, h.2.imp id fun ⟨g, cap, cur, h1, h2, h3⟩ => ⟨g, cap, cur, h1, Nat.le_trans hb h2, h3⟩⟩
theorem infoStr : (Tryd.prog.info? 9).map (fun i => (i.zero, i.size, i.bytes)) = some (some (.string ⟨#[]⟩), 1, 16) := by kernel_rfl
theorem rowTStr : RowT Tryd.prog 23 9 1 16 := rowT_of Tryd.underlying23 infoStr rfl
abbrev OwnT (w : World) (base g c : Nat) (L : List ByteArray) : Prop := OwnE encT 9 1 w base g c L
theorem fillZ_step1 {α : Type} {enc : α → List Value} (he : Enc enc 1) (z0 u : Value) (L : List α) {k : Nat} (hk : k < L.length) (hu : enc L[k] = [u]) : (fillZ enc [z0] L k).set k u = fillZ enc [z0] L (k + 1) := by
  have hl := take_len he L (Nat.le_of_lt hk)
  rw [Nat.mul_one] at hl
  rw [fillZ_split _ L hk, fillZ_next _ L hk, hu, List.set_append_right _ _ (by omega), hl, Nat.sub_self]
  rfl
theorem szStringS_any (A : Option Addr) (c : Nat) (L : List ByteArray) (left : Int) (w : World) (h : SrcT w A c L) (hL : L.length ≤ 9223372036854775807) (hb : ∀ s ∈ L, s.size ≤ 9223372036854775807) (h0 : 0 ≤ left) (h1 : left ≤ 1048576) :
    Calls Tryd.prog 48 #[.slice A L.length c, .int .i64 left] w (SzE left (SmT L) w) := by
  by_cases h2 : left - (L.length : Int) < 0
  · go_enter Tryd.func48, Tryd.ntmps48
    go_wp2
    go_ret
    exact ⟨-1, ⟨rfl, by omega, .inl (by omega)⟩, Below.refl _ _⟩
  · have HL := Lib.hid hb
    clear hb
    have hl6 : L.length ≤ 1048576 := by omega
    go_enter Tryd.func48, Tryd.ntmps48
    go_wp2_with fail
    go_loopw [1, 5] (fun m i wr => ∃ k : Nat, k ≤ L.length ∧ i = .int .i64 k ∧ ∃ r : Int, m = .int .i64 r ∧ 0 ≤ r ∧ r ≤ left ∧ Hid (∀ f ∈ L.take k, f.size ≤ 1048576) ∧ wr = w) (fun _ i _ => L.length - (intOf i).toNat)
    case atStart => exact ⟨0, Nat.zero_le _, rfl, _, rfl, by omega, by omega, fun f hf => by simp at hf, rfl⟩
    case round =>
      obtain ⟨k, hk, rfl, r, rfl, hr0, hrl, hr, rfl⟩ := hrel
      have hr1 : r ≤ 1048576 := by omega
      by_cases hlt : k < L.length
      · obtain ⟨b, off, rfl, hbb, x0⟩ := h.atT hlt
        have hi0 : (k : Int) < (L.length : Int) := by omega
        have hb1 := HL.out L[k] (List.getElem_mem _)
        have HT : Hid (L[k].size ≤ 1048576 → ∀ f ∈ L.take (k + 1), f.size ≤ 1048576) := fun h5 f hf => by
          rw [← List.take_append_getElem hlt, List.mem_append] at hf
          rcases hf with hf | hf
          · exact hr.out f hf
          · simp at hf; rw [hf]; exact h5
        clear hr
        generalize L[k] = x at x0 hb1 HT
        by_cases hneg : r - (x.size : Int) < 0
        · go_wp2
          go_ret
          exact ⟨-1, ⟨rfl, by omega, .inl (by omega)⟩, Below.refl _ _⟩
        · have hr2 : Hid (∀ f ∈ L.take (k + 1), f.size ≤ 1048576) := HT.out (by omega)
          clear HT
          go_wp2
          go_roundw
          case rel => exact ⟨k + 1, by omega, by go_num, _, rfl, by omega, by omega, hr2, by first | rfl | trivial⟩
          case measure => simp [intOf]; omega
      · have hr2 : Hid (∀ f ∈ L, f.size ≤ 1048576) := fun f hf => hr.out f (by rw [List.take_of_length_le (by omega)]; exact hf)
        clear hr
        go_wp2
        go_ret
        exact ⟨_, ⟨rfl, by omega, .inr ⟨hl6, hr2.out⟩⟩, Below.refl _ _⟩
theorem toStringS_any (A : Option Addr) (c : Nat) (L : List ByteArray) (w : World) (h : SrcT w A c L) (hn : L.length ≤ 1048576) :
    Calls Tryd.prog 50 #[.slice A L.length c] w fun e w' => ∃ g : Nat, (e = .returned (.slice (some ⟨g, 0, none⟩) L.length L.length) ∧ OwnT w' w.heap.size g L.length L) ∧ Below w.heap.size w w' := by
  obtain ⟨i0, hi, hz0, hz1, hz2⟩ := info_partsZ infoStr
  obtain ⟨wm, hmk, hown0, hg0⟩ := run_make_full (P := Tryd.prog) w w.heap.size 23 9 i0 _ 1 Tryd.underlying23 hi hz0 hz1 .i64 .i64 L.length (by rw [hz2]; omega) (by unfold maxLen; omega) (Nat.le_refl _)
  have hB0 : Below w.heap.size w wm := (Below.refl _ _).grown hg0 (Nat.le_refl _) (fun k hk => by cases hk)
  go_enter Tryd.func50, Tryd.ntmps50
  go_wp2
  go_loopw [4] (fun i wr => ∃ k : Nat, k ≤ L.length ∧ i = .int .i64 k ∧ wr.ownsRow w.heap.size 9 1 (.slice (some ⟨w.heap.size, 0, none⟩) L.length L.length) L.length (fillZ encT [.string ⟨#[]⟩] L k) ∧ Below w.heap.size w wr) (fun i _ => L.length - (intOf i).toNat)
  case atStart => exact ⟨0, Nat.zero_le _, rfl, by rw [fillZ_zero, ← made_rep (Value.string ⟨#[]⟩).cells [.string ⟨#[]⟩] 1 L.length rfl rfl (by omega)]; exact hown0, hB0⟩
  case round =>
    obtain ⟨k, hk, rfl, hown, hB⟩ := hrel
    by_cases hlt : k < L.length
    · obtain ⟨b, off, rfl, hb, x0⟩ := (h.below hB).atT hlt
      have hi0 : (k : Int) < (L.length : Int) := by omega
      have f0 := fillZ_get encT_ok [.string ⟨#[]⟩] rfl L hlt (j := 0) (by omega)
      rw [Nat.add_zero, Nat.mul_one] at f0
      have hstep := fillZ_step1 encT_ok (.string ⟨#[]⟩) _ L hlt rfl
      generalize L[k] = p at x0 hstep
      have HS : Hid ((fillZ encT [.string ⟨#[]⟩] L k).set k (.string p) = fillZ encT [.string ⟨#[]⟩] L (k + 1)) := hstep
      clear hstep
      have g0 := (hown.cellAt k (by omega)).trans f0
      have z0 := hown.frozenAt k
      have own5 := (hown.stored k (.string p)).1
      rw [HS.out] at own5
      have hB5 := hB.setCell (p := ⟨w.heap.size, k, none⟩) (Nat.le_refl _) (.string p)
      clear hown hB
      go_wp2
      go_roundw
      case rel => exact ⟨k + 1, by omega, by go_num, own5, hB5⟩
      case measure => simp [intOf]; omega
    · obtain rfl : k = L.length := by omega
      rw [fillZ_all] at hown
      go_wp2
      go_ret
      exact ⟨w.heap.size, ⟨rfl, hown⟩, hB⟩
theorem eqStringS_same (A A' : Option Addr) (c c' : Nat) (L : List ByteArray) (w : World) (h : SrcT w A c L) (h' : SrcT w A' c' L) (hn : L.length ≤ 4194304) :
    Calls Tryd.prog 32 #[.slice A L.length c, .slice A' L.length c'] w fun e w' => e = .returned (.bool true) ∧ Below w.heap.size w w' := by
  go_enter Tryd.func32, Tryd.ntmps32
  go_wp2
  go_loopw [5] (fun i wr => ∃ k : Nat, k ≤ L.length ∧ i = .int .i64 k ∧ Below w.heap.size w wr) (fun i _ => L.length - (intOf i).toNat)
  case atStart => exact ⟨0, Nat.zero_le _, rfl, Below.refl _ _⟩
  case round =>
    obtain ⟨k, hk, rfl, hB⟩ := hrel
    by_cases hlt : k < L.length
    · obtain ⟨b, off, rfl, hb, x0⟩ := (h.below hB).atT hlt
      obtain ⟨b', off', rfl, hb', x0'⟩ := (h'.below hB).atT hlt
      have hi0 : (k : Int) < (L.length : Int) := by omega
      generalize L[k] = p at x0 x0'
      have k1 := cell_regrown x0
      have k3 := cell_regrown x0'
      clear x0 x0' hb hb' h h'
      go_wp2_with fail
      refine region_qw (by kernel_rfl) (by kernel_rfl) ?_
      repeat (
        refine qw_step (fun K hK => ?_)
        go_simp
        first
          | (refine hK _ ?_; clear hK K)
          | fail)
      refine qw_nil ?_
      intro _ hw'
      obtain ⟨⟨dq, osq⟩, hw''⟩ := hw'
      subst hw''
      have hBq := hB.trans ((below_regrown wr dq osq).mono hB.size)
      generalize grow (redrawn wr dq) osq = Wq at hBq ⊢
      go_wp2
      go_roundw
      case rel => exact ⟨k + 1, by omega, by go_num, hBq⟩
      case measure => simp [intOf]; omega
    · go_wp2
      go_ret
      exact ⟨rfl, hB⟩
end Go.Proofs.YtaobgliimbmemaaDoor
