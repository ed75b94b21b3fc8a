/-
  Contract of spec.FacetBands.
-/
import Derived.Test.YteomiaffdbbpoaaBands
namespace Go.Proofs.Yteomiaffdbbpoaa
open Go.RowKit
set_option linter.unusedVariables false

theorem docsB_doc {Ds : List DocD} (h : docsB Ds = true) : ∀ k, (hk : k < Ds.length) → docB Ds[k] = true := fun k hk => by
  unfold docsB toD at h
  rw [Bool.and_eq_true, List.all_eq_true] at h
  have := h.1 k (List.mem_range.2 hk)
  rw [okD_at hk, Bool.and_eq_true] at this
  exact this.1
theorem docNum_ok {d : DocD} (h : docB d = true) (name : ByteArray) : docNum d name = numR name d.ns := by unfold docNum; rw [if_pos h]
set_option maxRecDepth 3000 in
set_option maxHeartbeats 1600000 in
theorem specBands_any (A Ai Ae : Option Addr) (c ci ce : Nat) (Ds : List DocD) (ids : List Int) (name : ByteArray) (edges : List Int) (w : World) (h : RdD w A Ds) (hs : SmDs Ds) (hi : RdI w Ai ids) (hil : ids.length ≤ 4194304) (he : RdI w Ae edges) (hel : edges.length ≤ 1048576) :
    Calls Try.prog 21 #[.slice A Ds.length c, .slice Ai ids.length ci, .string name, .slice Ae edges.length ce] w (Makes w (bandsF Ds ids name edges)) := by
  obtain ⟨R, hR⟩ : ∃ R, R = bandsF Ds ids name edges := ⟨_, rfl⟩
  rw [← hR]
  have HR := Lib.hid hR
  clear hR
  have hDl := hs.1
  go_enter Try.func21, Try.ntmps21
  go_wp2_with fail
  refine (l6Docs_any A c Ds _ h hs).mono ?_
  rintro e w1 ⟨rfl, hb1⟩
  cases hd : docsB Ds with
  | false =>
    obtain rfl : R = [] := by rw [HR.out]; unfold bandsF; rw [if_neg (by rw [hd]; simp)]
    go_wp2
    go_ret
    exact ⟨none, 0, ⟨rfl, ownI_nil _ _⟩, hb1⟩
  | true =>
    go_wp2_with fail
    refine (l3Up_any Ai ci ids _ (hi.below hb1) (by omega)).mono ?_
    rintro e w2 ⟨rfl, q2, rfl⟩
    have hb2 : Below w.heap.size w (w1.drewN q2) := hb1.trans (below_of_drewN.mono hb1.size)
    generalize w1.drewN q2 = w2 at hb2 ⊢
    clear hb1
    cases hu : upB ids with
    | false =>
      obtain rfl : R = [] := by rw [HR.out]; unfold bandsF; rw [if_neg (by rw [hu]; simp)]
      go_wp2
      go_ret
      exact ⟨none, 0, ⟨rfl, ownI_nil _ _⟩, hb2⟩
    | true =>
      go_wp2_with fail
      refine (l3Up_any Ae ce edges _ (he.below hb2) (by omega)).mono ?_
      rintro e w3 ⟨rfl, q3, rfl⟩
      have hb3 : Below w.heap.size w (w2.drewN q3) := hb2.trans (below_of_drewN.mono hb2.size)
      generalize w2.drewN q3 = w3 at hb3 ⊢
      clear hb2
      cases hv : upB edges with
      | false =>
        obtain rfl : R = [] := by rw [HR.out]; unfold bandsF; rw [if_neg (by rw [hv]; simp)]
        go_wp2
        go_ret
        exact ⟨none, 0, ⟨rfl, ownI_nil _ _⟩, hb3⟩
      | true =>
        have HR2 : Hid (R = bandsL edges (selL ids name Ds)) := by show _ = _; rw [HR.out]; unfold bandsF; rw [if_pos ⟨hd, hu, hv⟩]
        have HDB := Lib.hid (docsB_doc hd)
        have HSM := Lib.hid hs.2
        have HUP := Lib.hid (upB_iff.1 hv)
        clear HR
        obtain ⟨i0, hi0', hz0, hz1, hz2⟩ := info_parts infoInt
        obtain ⟨wm, hmk, hown0, hg0⟩ := run_make_full (P := Try.prog) w3 w.heap.size 31 3 i0 _ 1 Try.underlying31 hi0' hz0 hz1 .i64 .i64 edges.length (by rw [hz2]; omega) (by unfold maxLen; omega) hb3.size
        have hB0 : Below w3.heap.size w3 wm := (Below.refl _ _).grown hg0 (Nat.le_refl _) (fun k hk => by cases hk)
        have hB4 := hb3.trans (hB0.mono hb3.size)
        have hlt4 := (hown0.lt w3.heap.size rfl).2
        have hbs := hb3.size
        have HOWN := Lib.hid hown0
        clear hown0 hg0 hB0
        go_wp2_with fail
        go_loopw [10, 11, 12] (fun iv _ _ wr => ∃ i : Nat, i ≤ Ds.length ∧ iv = .int .i64 i ∧ wr.ownsRow w.heap.size 3 1 (.slice (some ⟨w3.heap.size, 0, none⟩) edges.length edges.length) edges.length (ints (bandsL edges (selL ids name (Ds.take i)))) ∧ Below w.heap.size w wr) (fun iv _ _ _ => Ds.length - (intOf iv).toNat)
        case atStart => exact ⟨0, Nat.zero_le _, rfl, by rw [List.take_zero]; show wm.ownsRow _ _ _ _ _ (ints (bandsL edges [])); rw [bandsL_nil, ← madeCells_one]; exact HOWN.out, hB4⟩
        case round =>
          obtain ⟨i, hik, rfl, hown, hB⟩ := hrel
          by_cases hlt : i < Ds.length
          · obtain ⟨b, off, A1, c1, A2, c2, hAe, hb, x0, x1, x2, hdd⟩ := (h.below hB) i hlt
            subst hAe
            have hi0 : (i : Int) < (Ds.length : Int) := by omega
            have hsm := HSM.out _ (List.getElem_mem hlt)
            have hdn := docNum_ok (HDB.out i hlt) name
            have hy := selL_yes (ids := ids) (name := name) hlt
            have hno := selL_no (ids := ids) (name := name) hlt
            have hsl : (selL ids name (Ds.take i)).length ≤ Ds.length := Nat.le_trans (selL_len _ _ _) (by rw [List.length_take]; omega)
            have HNOT : Hid (inB ids Ds[i].id = false → selL ids name (Ds.take (i + 1)) = selL ids name (Ds.take i)) := fun h9 => hno (by unfold selP; rw [h9]; simp)
            have HNONE : Hid ((∀ j, (hj : j < edges.length) → numR name Ds[i].ns < edges[j]) → bandsL edges (selL ids name (Ds.take (i + 1))) = bandsL edges (selL ids name (Ds.take i))) := fun h9 => by
              cases hp : selP ids name Ds[i] with
              | false => rw [hno hp]
              | true => rw [hy hp, hdn]; exact bands_none h9
            have HSOME : Hid (inB ids Ds[i].id = true → ∀ k, (hk : k < edges.length) → edges[k] ≤ numR name Ds[i].ns → (∀ j, k < j → (hj : j < edges.length) → numR name Ds[i].ns < edges[j]) → ints (bandsL edges (selL ids name (Ds.take (i + 1)))) = (ints (bandsL edges (selL ids name (Ds.take i)))).set k (.int .i64 (cntB edges (selL ids name (Ds.take i)) k + 1))) := fun h9 k hk h10 h11 => by
              have h12 := (HUP.out.1 _ (List.getElem_mem hk)).1
              rw [hy (by unfold selP; rw [h9, hdn, decide_eq_true (by omega)]; rfl), hdn]
              exact bands_some HUP.out.2.1 hk h10 h11
            clear hy hno hdn
            generalize hS' : selL ids name (Ds.take (i + 1)) = S' at HNOT HNONE HSOME
            generalize selL ids name (Ds.take i) = S at hown HNOT HNONE HSOME hsl
            have HS' := Lib.hid hS'
            clear hS'
            generalize Ds[i] = d at x0 x1 x2 hdd hsm HNOT HNONE HSOME
            obtain ⟨id, fs, ns⟩ := d
            dsimp only at x0 x1 x2 HNOT HNONE HSOME
            go_wp2_with fail
            refine (l6Num_any ⟨id, fs, ns⟩ A1 A2 c1 c2 name _ hdd hsm).mono ?_
            rintro e w5 ⟨rfl, hb5⟩
            have own5 := own_below hown hb5
            have hB5 := hB.trans (hb5.mono hB.size)
            have y0 := (hb5.cell (p := ⟨b, off + i * 3, none⟩) hb).trans x0
            have hi5 := hi.below hB5
            have he5 := he.below hB5
            dsimp only
            generalize numR name ns = n at HNONE HSOME ⊢
            have O5 := Lib.hid own5
            clear hown own5 hb5 hB x0 x1 x2 hdd hsm hmk
            go_wp2_with fail
            go_loop [12] (fun iv => ∃ (k : Nat) (z : Int), k ≤ edges.length ∧ iv = .int .i64 z ∧ z = (k : Int) - 1 ∧ Hid (∀ j, k ≤ j → (hj : j < edges.length) → n < edges[j])) (fun iv => (intOf iv + 1).toNat)
            case atStart => exact ⟨edges.length, _, Nat.le_refl _, rfl, rfl, fun j h1 h2 => by omega⟩
            case round =>
              obtain ⟨k, z, hk, rfl, hz, hlo⟩ := hrel
              rcases Nat.eq_zero_or_pos k with hk0 | hk0
              · subst hk0
                obtain rfl : z = -1 := by omega
                clear hz
                have OW : Hid (w5.ownsRow w.heap.size 3 1 (.slice (some ⟨w3.heap.size, 0, none⟩) edges.length edges.length) edges.length (ints (bandsL edges (selL ids name (Ds.take (i + 1)))))) := by
                  show World.ownsRow _ _ _ _ _ _ _
                  rw [HS'.out, HNONE.out (fun j hj => hlo.out j (Nat.zero_le _) hj)]
                  exact O5.out
                clear HNOT HNONE HSOME hlo
                go_wp2
                go_roundw
                case rel => exact ⟨i + 1, by omega, by go_num, OW.out, hB5⟩
                case measure => simp [intOf]; omega
              · obtain ⟨m, rfl⟩ : ∃ m, k = m + 1 := ⟨k - 1, by omega⟩
                obtain rfl : z = (m : Int) := by omega
                clear hz
                have hml : m < edges.length := by omega
                have hm0 : (0 : Int) ≤ (m : Int) := by omega
                have hmi : (m : Int) < (edges.length : Int) := by omega
                go_wp2_with fail
                refine (l8Has_any Ai ci ids id _ hi5 (by omega)).mono ?_
                rintro e w6 ⟨rfl, rfl⟩
                cases hin : inB ids id with
                | false =>
                  have OW : Hid (w5.ownsRow w.heap.size 3 1 (.slice (some ⟨w3.heap.size, 0, none⟩) edges.length edges.length) edges.length (ints (bandsL edges (selL ids name (Ds.take (i + 1)))))) := by
                    show World.ownsRow _ _ _ _ _ _ _
                    rw [HS'.out, HNOT.out hin]
                    exact O5.out
                  clear HNOT HNONE HSOME hlo
                  go_wp2
                  go_roundw
                  case rel => exact ⟨i + 1, by omega, by go_num, OW.out, hB5⟩
                  case measure => simp [intOf]; omega
                | true =>
                  obtain ⟨b2, off2, hAe, hb2, x0⟩ := he5.at1 hml
                  subst hAe
                  by_cases hge : edges[m] ≤ n
                  · have hyes := HSOME.out hin m hml hge (fun j h1 h2 => hlo.out j (by omega) h2)
                    have hm := bandsL_get (S := S) hml
                    have hcb := cntB_le edges S m
                    generalize cntB edges S m = v at hm hcb hyes
                    generalize edges[m] = em at x0 hge
                    have g0 := (O5.out.cellAt m (by omega)).trans hm
                    have z0 := O5.out.frozenAt m
                    have a5 := O5.out.stored m (.int .i64 (v + 1))
                    have own6 := a5.1
                    rw [← hyes, ← HS'.out] at own6
                    have hB6 := hB5.setCell (p := ⟨w3.heap.size, m, none⟩) hbs (.int .i64 (v + 1))
                    have O6 := Lib.hid own6
                    clear HNOT HNONE HSOME hlo O5 a5 own6 hyes hm HS' hB5
                    go_wp2
                    go_roundw
                    case rel => exact ⟨i + 1, by omega, by go_num, O6.out, hB6⟩
                    case measure => simp [intOf]; omega
                  · have HLO : Hid (∀ j, m ≤ j → (hj : j < edges.length) → n < edges[j]) := fun j h1 h2 => by
                      rcases Nat.lt_or_eq_of_le h1 with h3 | h3
                      · exact hlo.out j h3 h2
                      · subst h3; omega
                    clear hlo
                    generalize edges[m] = em at x0 hge
                    go_wp2
                    go_round
                    case rel => exact ⟨m, _, by omega, rfl, by omega, HLO⟩
                    case measure => simp [intOf]
          · obtain rfl : i = Ds.length := by omega
            have hown' : OwnI wr w.heap.size (.slice (some ⟨w3.heap.size, 0, none⟩) (bandsL edges (selL ids name Ds)).length edges.length) (bandsL edges (selL ids name Ds)) := by
              have := hown
              rw [List.take_length] at this
              unfold OwnI; rw [bandsL_len]; exact this
            clear hown
            obtain rfl : R = bandsL edges (selL ids name Ds) := HR2.out
            have hbl := bandsL_len edges (selL ids name Ds)
            go_wp2
            go_ret
            exact ⟨_, _, ⟨by rw [hbl]; rfl, hown'⟩, hB⟩
end Go.Proofs.Yteomiaffdbbpoaa
