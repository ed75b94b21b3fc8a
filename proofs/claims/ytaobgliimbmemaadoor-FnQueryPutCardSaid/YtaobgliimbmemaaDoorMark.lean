/-
  Contracts of markText (as a function), markStringS, heldStringS.
-/
import Derived.Test.YtaobgliimbmemaaDoorConfEx
namespace Go.Proofs.YtaobgliimbmemaaDoor
open Go.RowKit Go.Sort
set_option linter.unusedVariables false

def dig (m : Nat) : ByteArray := ⟨#[48 + UInt8.ofNat (m % 10)]⟩
def mtF : Nat → Nat → ByteArray → ByteArray
  | 0, _, s => s
  | n + 1, m, s => if m = 0 then s else mtF n (m / 10) (dig m ++ s)
/-- the text of a mark. -/
def mtx (k : Nat) : ByteArray := ⟨#[109]⟩ ++ mtF k k ⟨#[]⟩
theorem mtF_zero (n : Nat) (s : ByteArray) : mtF n 0 s = s := by cases n with | zero => rfl | succ n => show (if _ then _ else _) = _; rw [if_pos rfl]
theorem mtF_eq : ∀ (n n' m : Nat) (s : ByteArray), m ≤ n → m ≤ n' → mtF n m s = mtF n' m s
  | 0, n', m, s, h1, h2 => by obtain rfl : m = 0 := by omega
                              rw [mtF_zero, mtF_zero]
  | n + 1, 0, m, s, h1, h2 => by obtain rfl : m = 0 := by omega
                                 rw [mtF_zero, mtF_zero]
  | n + 1, n' + 1, m, s, h1, h2 => by
    show (if m = 0 then s else mtF n (m / 10) (dig m ++ s)) = (if m = 0 then s else mtF n' (m / 10) (dig m ++ s))
    by_cases hm : m = 0
    · rw [if_pos hm, if_pos hm]
    · rw [if_neg hm, if_neg hm]; exact mtF_eq n n' (m / 10) _ (by omega) (by omega)
theorem mtF_step {m : Nat} (hm : 0 < m) (s : ByteArray) : mtF m m s = mtF (m / 10) (m / 10) (dig m ++ s) := by
  obtain ⟨n, rfl⟩ : ∃ n, m = n + 1 := ⟨m - 1, by omega⟩
  show (if n + 1 = 0 then s else mtF n ((n + 1) / 10) (dig (n + 1) ++ s)) = _
  rw [if_neg (by omega)]
  exact mtF_eq _ _ _ _ (by omega) (Nat.le_refl _)
theorem markText_fn (k : Nat) (h0 : 1 ≤ k) (h1 : k ≤ 4611686018427387904) (w : World) :
    Calls Tryd.prog 66 #[.int .i64 k] w fun e w' => e = .returned (.string (mtx k)) ∧ Below w.heap.size w w' := by
  have hk : ¬ (k : Int) ≤ 0 := by omega
  obtain ⟨R, hR⟩ : ∃ R, R = mtF k k ⟨#[]⟩ := ⟨_, rfl⟩
  have HM : Hid (mtx k = ⟨#[109]⟩ ++ R) := by show _ = _; rw [hR]; rfl
  have HR := Lib.hid hR
  clear hR
  go_enter Tryd.func66, Tryd.ntmps66
  go_wp2_with fail
  go_loopw [0, 3] (fun kv sv wr => ∃ (m : Nat) (s : ByteArray), kv = .int .i64 m ∧ sv = .string s ∧ s.size + m ≤ k ∧ Hid (R = mtF m m s) ∧ Below w.heap.size w wr) (fun kv _ _ => (intOf kv).toNat)
  case atStart => exact ⟨k, ⟨#[]⟩, rfl, rfl, by simp [ByteArray.size], HR, Below.refl _ _⟩
  case round =>
    obtain ⟨m, s, rfl, rfl, hs, hm, hB⟩ := hrel
    rcases Nat.eq_zero_or_pos m with rfl | hm0
    · have hsz : ¬ 9223372036854775807 < (⟨#[109]⟩ : ByteArray).size + s.size := by have : (⟨#[109]⟩ : ByteArray).size = 1 := rfl; omega
      have HE : Hid (mtx k = ⟨#[109]⟩ ++ s) := by show _ = _; rw [HM.out, hm.out]; rfl
      clear hm
      go_wp2
      go_ret
      exact ⟨by rw [HE.out]; rfl, hB⟩
    · have hmi : (0 : Int) < (m : Int) := by omega
      have hc := conv_one wr (48 + (m : Int) % 10) (by omega) (by omega)
      have ht : (m : Int).tmod 10 = (m : Int) % 10 := Int.tmod_eq_emod_of_nonneg (by omega)
      have hq : (m : Int).tdiv 10 = (m : Int) / 10 := Int.tdiv_eq_ediv_of_nonneg (by omega)
      have HN : Hid (R = mtF (m / 10) (m / 10) (dig m ++ s)) := by show _ = _; rw [hm.out, mtF_step hm0]
      clear hm
      go_wp2
      refine ⟨⟨m / 10, _, by first | rfl | (congr 1; omega), rfl, ?_, HN, hB.trans (((Below.refl _ _).alloc (Nat.le_refl _) _).mono hB.size)⟩, by simp [intOf]; omega⟩
      rw [ByteArray.size_append]
      have h1 : (⟨#[48 + UInt8.ofNat (m % 10)]⟩ : ByteArray).size = 1 := rfl
      omega
theorem cMarkText (k : Nat) (h0 : 1 ≤ k) (h1 : k ≤ 4611686018427387904) (W : World) (d : Nat) (os : Array Obj) :
    Calls Tryd.prog 66 #[.int .i64 k] (grow (redrawn W d) os) fun e w'' => e = .returned (.string (mtx k)) ∧ ∃ p : Regrown, w'' = grow (redrawn W p.d) p.os :=
  Calls.regrown_of (markText_fn k h0 h1 _)
/-- texts that are marks. -/
def mkL (k n : Nat) : List ByteArray := (List.range n).map fun i => mtx (k + i)
theorem mkL_len (k n : Nat) : (mkL k n).length = n := by simp [mkL]
theorem mkL_get (k : Nat) {n i : Nat} (h : i < (mkL k n).length) : (mkL k n)[i] = mtx (k + i) := by simp [mkL]
def mkdL (L : List ByteArray) (k j : Nat) : List ByteArray := mkL k j ++ L.drop j
theorem mkdL_zero (L : List ByteArray) (k : Nat) : mkdL L k 0 = L := by simp [mkdL, mkL]
theorem mkdL_all (L : List ByteArray) (k : Nat) : mkdL L k L.length = mkL k L.length := by simp [mkdL]
theorem mkdL_len {L : List ByteArray} {k j : Nat} (hj : j ≤ L.length) : (mkdL L k j).length = L.length := by unfold mkdL; rw [List.length_append, mkL_len, List.length_drop]; omega
theorem mkL_succ (k n : Nat) : mkL k (n + 1) = mkL k n ++ [mtx (k + n)] := by unfold mkL; rw [List.range_succ, List.map_append]; rfl
theorem flatT (L : List ByteArray) : L.flatMap encT = L.map Value.string := by induction L with | nil => rfl | cons x r ih => rw [List.flatMap_cons, ih]; rfl
theorem mkdL_step (L : List ByteArray) (k : Nat) {j : Nat} (hj : j < L.length) : ((mkdL L k j).flatMap encT).set j (.string (mtx (k + j))) = (mkdL L k (j + 1)).flatMap encT := by
  rw [flatT, flatT]
  unfold mkdL
  have hl : ((mkL k j).map Value.string).length = j := by rw [List.length_map, mkL_len]
  rw [List.map_append, List.map_append, List.set_append_right _ _ (by omega), hl, Nat.sub_self, List.drop_eq_getElem_cons hj, mkL_succ, List.map_append, List.append_assoc]
  rfl
theorem mkdL_cell (L : List ByteArray) (k : Nat) {j : Nat} (hj : j < L.length) : ∃ s, ((mkdL L k j).flatMap encT)[j]? = some (.string s) := by
  rw [flatT]
  have : j < ((mkdL L k j).map Value.string).length := by rw [List.length_map, mkdL_len (by omega)]; exact hj
  exact ⟨_, by rw [List.getElem?_eq_getElem this, List.getElem_map]⟩
theorem markStringS_any (g c base : Nat) (L : List ByteArray) (k : Nat) (w : World) (h : OwnT w base g c L) (hn : L.length ≤ 1048576) (h0 : 1 ≤ k) (h1 : k ≤ 2305843009213693952) :
    Calls Tryd.prog 35 #[.slice (some ⟨g, 0, none⟩) L.length c, .int .i64 k] w fun e w' => (e = .returned (.int .i64 ((k + L.length : Nat) : Int)) ∧ OwnT w' base g c (mkL k L.length)) ∧ w.grownBy w' (some g) := by
  obtain ⟨n, hnn⟩ : ∃ n, n = L.length := ⟨_, rfl⟩
  have h' : w.ownsRow base 9 1 (.slice (some ⟨g, 0, none⟩) n c) n (L.flatMap encT) := by rw [hnn]; exact h
  have HNL := Lib.hid hnn
  rw [← hnn] at hn ⊢
  clear hnn h
  go_enter Tryd.func35, Tryd.ntmps35
  go_wp2
  go_loopw [1, 5] (fun m i wr => ∃ j : Nat, j ≤ n ∧ i = .int .i64 j ∧ m = .int .i64 ((k + j : Nat) : Int) ∧ wr.ownsRow base 9 1 (.slice (some ⟨g, 0, none⟩) n c) n ((mkdL L k j).flatMap encT) ∧ w.grownBy wr (some g)) (fun _ i _ => n - (intOf i).toNat)
  case atStart => exact ⟨0, Nat.zero_le _, rfl, rfl, by rw [mkdL_zero]; exact h', World.grownBy.refl w _⟩
  case round =>
    clear h'
    obtain ⟨j, hj, rfl, rfl, hown, hg⟩ := hrel
    by_cases hlt : j < n
    · have hi0 : (j : Int) < (n : Int) := by omega
      have hltL : j < L.length := by rw [← HNL.out]; exact hlt
      obtain ⟨s0, f0⟩ := mkdL_cell L k hltL
      have hstep := mkdL_step L k hltL
      have HST := Lib.hid hstep
      clear hstep hltL
      go_wp2_with fail
      refine (markText_fn (k + j) (by omega) (by omega) _).mono ?_
      rintro e w2 ⟨rfl, hb2⟩
      have own2 := own_belowZ hown hb2
      have g0 := (own2.cellAt j (by omega)).trans f0
      have z0 := own2.frozenAt j
      have st := own2.stored j (.string (mtx (k + j)))
      rw [HST.out] at st
      have hg2 := hg.trans (World.grownBy.trans ⟨hb2.os, hb2.tape, hb2.output, hb2.size, fun q hq _ => hb2.block q hq⟩ st.2)
      have O5 := Lib.hid st.1
      clear hown own2 st f0 hb2 hg
      generalize mtx (k + j) = t at O5 hg2 ⊢
      go_wp2
      go_roundw
      case rel => exact ⟨j + 1, by omega, by go_num, by first | rfl | (congr 1; omega) | (congr 1), O5.out, hg2⟩
      case measure => simp [intOf]; omega
    · obtain rfl : j = n := by omega
      have O5 : Hid (wr.ownsRow base 9 1 (.slice (some ⟨g, 0, none⟩) j c) j ((mkL k j).flatMap encT)) := by
        have := mkdL_all L k
        rw [← HNL.out] at this
        rw [this] at hown
        exact hown
      clear hown
      go_wp2
      go_ret
      exact ⟨⟨by first | rfl | (congr 1), by unfold OwnT OwnE; rw [mkL_len]; exact O5.out⟩, hg⟩
theorem heldStringS_any (A : Option Addr) (c : Nat) (k n : Nat) (w : World) (h : SrcT w A c (mkL k n)) (hn : n ≤ 1048576) (h0 : 1 ≤ k) (h1 : k ≤ 2305843009213693952) :
    Calls Tryd.prog 36 #[.slice A n c, .int .i64 k] w fun e w' => e = .returned (.int .i64 ((k + n : Nat) : Int)) ∧ Below w.heap.size w w' := by
  go_enter Tryd.func36, Tryd.ntmps36
  go_wp2
  go_loopw [1, 5] (fun m i wr => ∃ j : Nat, j ≤ n ∧ i = .int .i64 j ∧ m = .int .i64 ((k + j : Nat) : Int) ∧ Below w.heap.size w wr) (fun _ i _ => n - (intOf i).toNat)
  case atStart => exact ⟨0, Nat.zero_le _, rfl, rfl, Below.refl _ _⟩
  case round =>
    obtain ⟨j, hj, rfl, rfl, hB⟩ := hrel
    by_cases hlt : j < n
    · have hi0 : (j : Int) < (n : Int) := by omega
      obtain ⟨b, off, rfl, hb, x0⟩ := (h.below hB).atT (k := j) (by rw [mkL_len]; exact hlt)
      rw [mkL_get] at x0
      have k1 := cell_regrown x0
      have hkj1 : 1 ≤ k + j := by omega
      have hkj2 : k + j ≤ 4611686018427387904 := by omega
      clear x0 hb h
      go_wp2_with fail
      refine region_qw (by kernel_rfl) (by kernel_rfl) ?_
      repeat (
        refine qw_step (fun K hK => ?_)
        go_simp
        first
          | (refine hK _ ?_; clear hK K)
          | (apply Exists.intro
             refine ⟨fun _ => ?_, hK _ ?_⟩
             (first | (go_at_call 66; exact cMarkText (k + j) hkj1 hkj2 _ _ _))
             clear hK K))
      refine qw_nil ?_
      intro _ hw'
      obtain ⟨⟨dq, osq⟩, hw''⟩ := hw'
      subst hw''
      have hBq := hB.trans ((below_regrown wr dq osq).mono hB.size)
      dsimp only
      generalize grow (redrawn wr dq) osq = Wq at hBq ⊢
      go_wp2
      go_roundw
      case rel => exact ⟨j + 1, by omega, by go_num, by first | rfl | (congr 1; omega) | (congr 1), hBq⟩
      case measure => simp [intOf]; omega
    · obtain rfl : j = n := by omega
      go_wp2
      go_ret
      exact ⟨by first | rfl | (congr 1), hB⟩
end Go.Proofs.YtaobgliimbmemaaDoor
