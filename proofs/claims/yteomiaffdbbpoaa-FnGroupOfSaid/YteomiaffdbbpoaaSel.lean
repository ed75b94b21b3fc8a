/-
  Contract of impl.selected: the numbers by a name of the documents that are selected.
-/
import Derived.Test.YteomiaffdbbpoaaDocs2
import Derived.Test.YteomiaffdbbpoaaSrc
namespace Go.Proofs.Yteomiaffdbbpoaa
open Go.RowKit
set_option linter.unusedVariables false

def encI (x : Int) : List Value := [.int .i64 x]
theorem encI_ok : Enc encI 1 := ⟨fun _ => rfl, fun a u hu => by simp [encI] at hu; subst hu; rfl⟩
theorem flatI (L : List Int) : L.flatMap encI = ints L := by
  unfold ints encI
  induction L with
  | nil => rfl
  | cons x r ih => rw [List.flatMap_cons, ih, List.map_cons]; rfl
theorem rowTI : RowT Try.prog 31 3 1 8 := rowT_of Try.underlying31 infoInt rfl
theorem OwnE.ownI {w : World} {base g c : Nat} {L : List Int} (h : OwnE encI 3 1 w base g c L) : OwnI w base (.slice (some ⟨g, 0, none⟩) L.length c) L := by unfold OwnE at h; rw [flatI] at h; exact h

def selP (ids : List Int) (name : ByteArray) (d : DocD) : Bool := decide (docNum d name ≠ -1) && inB ids d.id
def selL (ids : List Int) (name : ByteArray) (Ds : List DocD) : List Int := (Ds.filter (selP ids name)).map (fun d => docNum d name)
theorem selL_yes {ids : List Int} {name : ByteArray} {Ds : List DocD} {k : Nat} (hk : k < Ds.length) (h : selP ids name Ds[k] = true) : selL ids name (Ds.take (k + 1)) = selL ids name (Ds.take k) ++ [docNum Ds[k] name] := by
  unfold selL; rw [← List.take_append_getElem hk, List.filter_append]; simp [h]
theorem selL_no {ids : List Int} {name : ByteArray} {Ds : List DocD} {k : Nat} (hk : k < Ds.length) (h : selP ids name Ds[k] = false) : selL ids name (Ds.take (k + 1)) = selL ids name (Ds.take k) := by
  unfold selL; rw [← List.take_append_getElem hk, List.filter_append]; simp [h]
theorem selL_len (ids : List Int) (name : ByteArray) (Ds : List DocD) : (selL ids name Ds).length ≤ Ds.length := by
  unfold selL; rw [List.length_map]; exact List.length_filter_le _ _
theorem selected_any (A Ai : Option Addr) (c ci : Nat) (Ds : List DocD) (ids : List Int) (name : ByteArray) (w : World) (h : RdD w A Ds) (hs : SmDs Ds) (hi : RdI w Ai ids) (hil : ids.length ≤ 4194304) :
    Calls Try.prog 59 #[.slice A Ds.length c, .slice Ai ids.length ci, .string name] w (Makes w (selL ids name Ds)) := by
  obtain ⟨hn, hs2⟩ := hs
  have HSM := Lib.hid hs2
  clear hs2
  have own0 := ownE_made (enc := encI) (F := 1) 3 w w.heap.size (Nat.le_refl _)
  have hB0 : Below w.heap.size w (w.alloc (.cells #[] 3)) := (Below.refl _ _).alloc (Nat.le_refl _) _
  go_enter Try.func59, Try.ntmps59
  go_wp2_with fail
  go_loopw [7, 9, 10, 14] (fun ov _ _ iv wr => ∃ k : Nat, k ≤ Ds.length ∧ iv = .int .i64 k ∧ ∃ (g c : Nat) (L : List Int), ov = .slice (some ⟨g, 0, none⟩) L.length c ∧ Hid (L = selL ids name (Ds.take k)) ∧ L.length ≤ k ∧ OwnE encI 3 1 wr w.heap.size g c L ∧ Below w.heap.size w wr) (fun _ _ _ iv _ => Ds.length - (intOf iv).toNat)
  case atStart => exact ⟨0, Nat.zero_le _, rfl, w.heap.size, 0, [], rfl, rfl, Nat.le_refl _, own0, hB0⟩
  case round =>
    obtain ⟨k, hk, rfl, g, c0, L, rfl, hL, hLk, hown, hB⟩ := hrel
    have hBs := hB.size
    by_cases hlt : k < Ds.length
    · obtain ⟨b, off, A1, c1, A2, c2, rfl, hb, x0, x1, x2, hd⟩ := (h.below hB) k hlt
      have hi0 : (k : Int) < (Ds.length : Int) := by omega
      have hsm := HSM.out _ (List.getElem_mem hlt)
      have hy := selL_yes (ids := ids) (name := name) hlt
      have hno := selL_no (ids := ids) (name := name) hlt
      have HY := Lib.hid hy
      have HNO := Lib.hid hno
      clear hy hno
      generalize Ds[k] = d at x0 x1 x2 hd hsm HY HNO
      obtain ⟨id, fs, ns⟩ := d
      dsimp only at x0 x1 x2
      have hBW : Below w.heap.size w (wr.alloc (.cells #[.int .i64 id, .slice A1 fs.length c1, .slice A2 ns.length c2] 42)) := hB.trans (((Below.refl _ _).alloc (Nat.le_refl _) _).mono hBs)
      have g0 : (wr.alloc (.cells #[.int .i64 id, .slice A1 fs.length c1, .slice A2 ns.length c2] 42)).cell? ⟨wr.heap.size, 0, none⟩ = some (.int .i64 id) := by simp [go_sem]
      have hszW : wr.heap.size < (wr.alloc (.cells #[.int .i64 id, .slice A1 fs.length c1, .slice A2 ns.length c2] 42)).heap.size := by simp
      have hd2 := hd.below ((Below.refl _ wr).alloc (Nat.le_refl _) (.cells #[.int .i64 id, .slice A1 fs.length c1, .slice A2 ns.length c2] 42))
      have own2 : OwnE encI 3 1 (wr.alloc (.cells #[.int .i64 id, .slice A1 fs.length c1, .slice A2 ns.length c2] 42)) w.heap.size g c0 L := own_below hown ((Below.refl _ wr).alloc (Nat.le_refl _) _)
      go_wp2_with fail
      generalize (wr.alloc (.cells #[.int .i64 id, .slice A1 fs.length c1, .slice A2 ns.length c2] 42)) = W1 at hBW g0 hszW hd2 own2 ⊢
      refine (docNum_any ⟨id, fs, ns⟩ A1 A2 c1 c2 name _ hd2 hsm).mono ?_
      rintro e w3 ⟨rfl, hb3⟩
      have g3 := (hb3.cell (p := ⟨wr.heap.size, 0, none⟩) hszW).trans g0
      have own3 : OwnE encI 3 1 w3 w.heap.size g c0 L := own_below own2 hb3
      have hB3 := hBW.trans (hb3.mono hBW.size)
      have hi3 := hi.below hB3
      have hs3 := hB3.size
      obtain ⟨n, hnn⟩ : ∃ n, n = docNum ⟨id, fs, ns⟩ name := ⟨_, rfl⟩
      rw [← hnn] at HY ⊢
      clear x0 x1 x2 hd hown hBW g0 hszW hd2 own2 hb3 hB hsm
      by_cases hn1 : n = -1
      · have HL : Hid (L = selL ids name (Ds.take (k + 1))) := by
          show _ = _
          rw [HNO.out (by unfold selP; rw [← hnn, hn1]; rfl)]; exact hL.out
        subst hn1
        clear hL HY HNO
        go_wp2
        go_roundw
        case rel => exact ⟨k + 1, by omega, by go_num, g, c0, L, rfl, HL, by omega, own3, hB3⟩
        case measure => simp [intOf]; omega
      · have hne : (n != -1) = true := by simpa using hn1
        cases hin : inB ids id with
        | false =>
          have HL : Hid (L = selL ids name (Ds.take (k + 1))) := by
            show _ = _
            rw [HNO.out (by unfold selP; dsimp only; rw [hin]; simp)]; exact hL.out
          clear hL HY HNO hnn
          go_wp2_with fail
          refine (contains_any Ai ci ids id _ hi3 (by omega)).mono ?_
          rintro e w4 ⟨rfl, rfl⟩
          rw [hin]
          go_wp2
          go_roundw
          case rel => exact ⟨k + 1, by omega, by go_num, g, c0, L, rfl, HL, by omega, own3, hB3⟩
          case measure => simp [intOf]; omega
        | true =>
          have HL : Hid (L ++ [n] = selL ids name (Ds.take (k + 1))) := by
            show _ = _
            rw [HY.out (by unfold selP; dsimp only; rw [hin, ← hnn]; simp [hn1]), hL.out]
          clear hL HY HNO hnn
          go_wp2_with fail
          refine (contains_any Ai ci ids id _ hi3 (by omega)).mono ?_
          rintro e w4 ⟨rfl, rfl⟩
          rw [hin]
          go_wp2_with (at_builtin; refine append_rec rowTI encI_ok (by decide) rfl _ _ rfl w.heap.size _ _ L rfl (own_below own3 (by (repeat' (first | exact Below.refl _ _ | apply Below.alloc | apply Below.setCell | apply Below.drew | apply below_draws)) <;> (first | omega | (simp <;> omega)))) _ _ _ [n] rfl rfl (SrcE.lit encI_ok _ _ #[.int .i64 n] [n] rfl 1) (by simp; omega) (by omega) (by simp <;> omega) ?_)
          intro N hN g5 c5 w5 own5 hg5 hat5 hb5
          have HN : Hid (N = selL ids name (Ds.take (k + 1))) := by show _ = _; rw [hN.out, HL.out]
          have hNl : N.length = L.length + 1 := by rw [hN.out]; simp
          have hB5 := hB3.trans (Below.trans (by (repeat' (first | exact Below.refl _ _ | apply Below.alloc | apply Below.setCell | apply Below.drew | apply below_draws)) <;> (first | omega | (simp <;> omega))) hb5)
          clear hN HL own3 hB3 hg5 hat5 hb5
          go_wp2
          go_roundw
          case rel => exact ⟨k + 1, by omega, by go_num, g5, c5, N, rfl, HN, by omega, own5, hB5⟩
          case measure => simp [intOf]; omega
    · have HL : Hid (selL ids name Ds = L) := by show _ = _; rw [hL.out, List.take_of_length_le (by omega)]
      clear hL
      go_wp2
      go_ret
      rw [HL.out]
      exact ⟨_, _, ⟨rfl, hown.ownI⟩, hB⟩
end Go.Proofs.Yteomiaffdbbpoaa
