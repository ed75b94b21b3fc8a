/-
  GroupOf: plain; contract of impl.GroupOf.
-/
import Derived.Test.YteomiaffdbbpoaaMapI
import Derived.Test.YteomiaffdbbpoaaSpecBands
import Derived.Test.YteomiaffdbbpoaaTopSpec
namespace Go.Proofs.Yteomiaffdbbpoaa
open Go.RowKit Go.Sort
set_option linter.unusedVariables false

abbrev HitL := List (Int × Int)
/-- the number by a name of the document with a number of its own. -/
def numF (name : ByteArray) (doc : Int) (Ds : List DocD) : Int := Ds.foldl (fun n d => if d.id = doc then docNum d name else n) (-1)
theorem numF_succ {name : ByteArray} {doc : Int} {Ds : List DocD} {k : Nat} (hk : k < Ds.length) : numF name doc (Ds.take (k + 1)) = if Ds[k].id = doc then docNum Ds[k] name else numF name doc (Ds.take k) := by
  unfold numF; rw [← List.take_append_getElem hk, List.foldl_append]; rfl
theorem numF_none {name : ByteArray} {doc : Int} : ∀ {Ds : List DocD}, (∀ d ∈ Ds, d.id ≠ doc) → numF name doc Ds = -1 := by
  intro Ds h
  unfold numF
  induction Ds with
  | nil => rfl
  | cons x r ih => rw [List.foldl_cons, if_neg (h x (List.mem_cons_self ..))]; exact ih (fun d hd => h d (List.mem_cons_of_mem _ hd))
theorem docsB_lt {Ds : List DocD} (h : docsB Ds = true) : ∀ j k, (hk : k < Ds.length) → (hj : j < k) → (Ds[j]'(by omega)).id < Ds[k].id := by
  have h1 : ∀ k, (hk : k + 1 < Ds.length) → (Ds[k]'(by omega)).id < Ds[k + 1].id := fun k hk => by
    unfold docsB toD at h
    rw [Bool.and_eq_true, List.all_eq_true] at h
    have := h.1 (k + 1) (List.mem_range.2 hk)
    rw [okD_at hk, Bool.and_eq_true, Bool.or_eq_true, Nat.add_sub_cancel, getDD (show k < Ds.length by omega)] at this
    simpa using this.2
  intro j k
  induction k with
  | zero => intro hk hj; omega
  | succ k ih =>
    intro hk hj
    have h2 := h1 k hk
    rcases Nat.lt_or_eq_of_le (Nat.le_of_lt_succ hj) with h3 | h3
    · have := ih (by omega) h3; omega
    · subst h3; exact h2
theorem numF_first {name : ByteArray} {Ds : List DocD} (h : docsB Ds = true) {k : Nat} (hk : k < Ds.length) : numF name Ds[k].id (Ds.take k) = -1 := by
  refine numF_none fun d hd e => ?_
  obtain ⟨i, hi, rfl⟩ := List.mem_take_iff_getElem.1 hd
  have := docsB_lt h i k hk (by omega)
  omega
theorem numR_range {name : ByteArray} : ∀ {L : List AttD}, (∀ a ∈ L, 0 ≤ a.2 ∧ a.2 ≤ 999999999) → numR name L = -1 ∨ (0 ≤ numR name L ∧ numR name L ≤ 999999999)
  | [], _ => .inl rfl
  | a :: r, h => by
    unfold numR
    split
    · exact .inr (h a (List.mem_cons_self ..))
    · exact numR_range (fun b hb => h b (List.mem_cons_of_mem _ hb))
theorem docB_nums {d : DocD} (h : docB d = true) : ∀ a ∈ d.ns, 0 ≤ a.2 ∧ a.2 ≤ 999999999 := fun a ha => by
  unfold docB at h
  rw [Bool.and_eq_true] at h
  have h2 := h.2
  unfold toA at h2
  rw [List.all_eq_true] at h2
  obtain ⟨k, hk, rfl⟩ := List.getElem_of_mem ha
  have := h2 k (List.mem_range.2 hk)
  rw [okA_at hk] at this
  simp only [Bool.and_eq_true] at this
  exact wi_true.1 this.1.2
theorem docNum_range {d : DocD} (name : ByteArray) : docNum d name = -1 ∨ (0 ≤ docNum d name ∧ docNum d name ≤ 999999999) := by
  unfold docNum
  split
  · rename_i h; exact numR_range (docB_nums h)
  · exact .inl rfl
def stepG (st : List Int × HitL) (h : Int × Int) (n : Int) : List Int × HitL := if 0 ≤ n ∧ inB st.1 n = false then (st.1 ++ [n], st.2 ++ [h]) else st
theorem stepG_no (st : List Int × HitL) (h : Int × Int) : stepG st h (-1) = st := by unfold stepG; rw [if_neg (by omega)]
def foldG (Ds : List DocD) (name : ByteArray) (hits : HitL) : List Int × HitL := hits.foldl (fun st h => stepG st h (numF name h.1 Ds)) ([], [])
theorem foldG_succ {Ds : List DocD} {name : ByteArray} {hits : HitL} {k : Nat} (hk : k < hits.length) : foldG Ds name (hits.take (k + 1)) = stepG (foldG Ds name (hits.take k)) hits[k] (numF name hits[k].1 Ds) := by
  unfold foldG; rw [← List.take_append_getElem hk, List.foldl_append]; rfl
theorem stepG_len (st : List Int × HitL) (h : Int × Int) (n : Int) : (stepG st h n).2.length ≤ st.2.length + 1 ∧ (stepG st h n).1.length ≤ st.1.length + 1 := by
  unfold stepG; split <;> simp
theorem foldG_len (Ds : List DocD) (name : ByteArray) (hits : HitL) : ∀ k, k ≤ hits.length → (foldG Ds name (hits.take k)).2.length ≤ k ∧ (foldG Ds name (hits.take k)).1.length ≤ k := by
  intro k
  induction k with
  | zero => intro _; simp [foldG]
  | succ k ih =>
    intro hk
    rw [foldG_succ (show k < hits.length by omega)]
    have h1 := ih (by omega)
    have h2 := stepG_len (foldG Ds name (hits.take k)) hits[k] (numF name hits[k].1 Ds)
    omega
def groupF (Ds : List DocD) (hits : HitL) (name : ByteArray) : HitL := if docsB Ds = true ∧ hitsB hits = true then (foldG Ds name hits).2 else []
theorem groupF_len (Ds : List DocD) (hits : HitL) (name : ByteArray) : (groupF Ds hits name).length ≤ hits.length := by
  unfold groupF; split
  · have := (foldG_len Ds name hits hits.length (Nat.le_refl _)).1; rwa [List.take_length] at this
  · simp
/-- the first j documents looked at. -/
def midG (Ds : List DocD) (name : ByteArray) (st : List Int × HitL) (h : Int × Int) (j : Nat) : List Int × HitL := stepG st h (numF name h.1 (Ds.take j))
theorem midG_zero (Ds : List DocD) (name : ByteArray) (st : List Int × HitL) (h : Int × Int) : midG Ds name st h 0 = st := stepG_no st h
theorem midG_other {Ds : List DocD} {name : ByteArray} {st : List Int × HitL} {h : Int × Int} {j : Nat} (hj : j < Ds.length) (hne : Ds[j].id ≠ h.1) : midG Ds name st h (j + 1) = midG Ds name st h j := by
  unfold midG; rw [numF_succ hj, if_neg hne]
theorem midG_same {Ds : List DocD} {name : ByteArray} {st : List Int × HitL} {h : Int × Int} {j : Nat} (hd : docsB Ds = true) (hj : j < Ds.length) (he : Ds[j].id = h.1) : midG Ds name st h j = st ∧ midG Ds name st h (j + 1) = stepG st h (docNum Ds[j] name) := by
  unfold midG
  constructor
  · rw [← he, numF_first hd hj, stepG_no]
  · rw [numF_succ hj, if_pos he]
set_option maxRecDepth 4000 in
set_option maxHeartbeats 1600000 in
theorem implGroup_any (A Ah : Option Addr) (c ch : Nat) (Ds : List DocD) (hits : HitL) (name : ByteArray) (w : World) (h : RdD w A Ds) (hs : SmDs Ds) (hh : SrcE enc2 2 w Ah ch hits) (hhl : hits.length ≤ 1048576) (hcap : hits.length ≤ ch) (hcm : ch ≤ 9223372036854775807) :
    Calls Try.prog 27 #[.slice A Ds.length c, .slice Ah hits.length ch, .string name] w (MakesH (groupF Ds hits name) w) := by
  obtain ⟨R, hR⟩ : ∃ R, R = groupF Ds hits name := ⟨_, rfl⟩
  rw [← hR]
  have HR := Lib.hid hR
  clear hR
  have hmm := @run_makeMap Try.prog
  have hDl := hs.1
  have hB0 : Below w.heap.size w (w.alloc (.cells #[] 49)) := (Below.refl _ _).alloc (Nat.le_refl _) _
  have own0 := ownE_made (enc := enc2) (F := 2) 49 w w.heap.size (Nat.le_refl _)
  have hlt0 : w.heap.size < (w.alloc (.cells #[] 49)).heap.size := by simp
  go_enter Try.func27, Try.ntmps27
  go_wp2_with fail
  generalize (w.alloc (.cells #[] 49)) = w0 at hB0 own0 hlt0 ⊢
  refine (docsOk_any A c Ds _ (h.below hB0) hs).mono ?_
  rintro e w1 ⟨rfl, hb1⟩
  have own1 := own_below own0 hb1
  have hB1 := hB0.trans (hb1.mono hB0.size)
  cases hd : docsB Ds with
  | false =>
    obtain rfl : R = [] := by rw [HR.out]; unfold groupF; rw [if_neg (by rw [hd]; simp)]
    go_wp2
    go_ret
    exact ⟨_, _, ⟨rfl, own1⟩, hB1⟩
  | true =>
    go_wp2_with fail
    refine (implHitsOk_any Ah ch hits _ (hh.1.below hB1) hhl hcap hcm).mono ?_
    rintro e w2 ⟨rfl, hb2⟩
    have own2 := own_below own1 hb2
    have hB2 := hB1.trans (hb2.mono hB1.size)
    have hs1 := hb1.size
    have hs2 := hb2.size
    clear own0 own1 hB0 hB1 hb1 hb2
    cases hu : hitsB hits with
    | false =>
      obtain rfl : R = [] := by rw [HR.out]; unfold groupF; rw [if_neg (by rw [hu]; simp)]
      go_wp2
      go_ret
      exact ⟨_, _, ⟨rfl, own2⟩, hB2⟩
    | true =>
      have HR2 : Hid (R = (foldG Ds name hits).2) := by show _ = _; rw [HR.out]; unfold groupF; rw [if_pos ⟨hd, hu⟩]
      have HDB := Lib.hid hd
      have HSM := Lib.hid hs.2
      clear HR hd hu
      have hmap0 := SetM.made w2
      have own3 : OwnE enc2 49 2 (w2.alloc (.map #[] 0)) w.heap.size w.heap.size 0 ([] : HitL) := own_below own2 ((Below.refl _ w2).alloc (Nat.le_refl _) _)
      have hB3 : Below w.heap.size w (w2.alloc (.map #[] 0)) := hB2.trans (((Below.refl _ _).alloc (Nat.le_refl _) _).mono hB2.size)
      have hmb : w.heap.size ≤ w2.heap.size := hB2.size
      go_wp2_with fail
      generalize w2.heap.size = mb at hmap0 hmb ⊢
      generalize (w2.alloc (.map #[] 0)) = w3 at hmap0 own3 hB3 ⊢
      clear own2 hB2
      go_loopw [7, 10, 12, 13, 27, 33] (fun ov _ _ _ iv _ wr => ∃ k : Nat, k ≤ hits.length ∧ iv = .int .i64 k ∧ ∃ (g c : Nat) (st : List Int × HitL), ov = .slice (some ⟨g, 0, none⟩) st.2.length c ∧ Hid (st = foldG Ds name (hits.take k)) ∧ SetM wr mb st.1.length st.1 ∧ OwnE enc2 49 2 wr w.heap.size g c st.2 ∧ Below w.heap.size w wr) (fun _ _ _ _ iv _ _ => hits.length - (intOf iv).toNat)
      case atStart => exact ⟨0, Nat.zero_le _, rfl, w.heap.size, 0, ([], []), rfl, rfl, hmap0, own3, hB3⟩
      case round =>
        obtain ⟨k, hk, rfl, g, c0, st, rfl, hst, hmap, hown, hB⟩ := hrel
        have hBs := hB.size
        by_cases hlt : k < hits.length
        · obtain ⟨b, off, hAe, hb, x0, x1⟩ := (hh.1.below hB).at2 hlt
          subst hAe
          have hi0 : (k : Int) < (hits.length : Int) := by omega
          have hsuc := foldG_succ (Ds := Ds) (name := name) hlt
          have hstl := foldG_len Ds name hits k hk
          rw [← hst.out] at hsuc hstl
          have e3 : hits[k] = (hits[k].1, hits[k].2) := rfl
          rw [e3] at hsuc
          have HSUC := Lib.hid hsuc
          clear hsuc e3 hst
          generalize hits[k].1 = hd at x0 HSUC
          generalize hits[k].2 = hp at x1 HSUC
          have hmap4 := hmap.below ((Below.refl _ wr).alloc (Nat.le_refl _) (.cells #[.int .i64 hd, .int .i64 hp] 49))
          have own4 : OwnE enc2 49 2 (wr.alloc (.cells #[.int .i64 hd, .int .i64 hp] 49)) w.heap.size g c0 st.2 := own_below hown ((Below.refl _ wr).alloc (Nat.le_refl _) _)
          have f0 : (wr.alloc (.cells #[.int .i64 hd, .int .i64 hp] 49)).cell? ⟨wr.heap.size, 0, none⟩ = some (.int .i64 hd) := by simp [go_sem]
          have f1 : (wr.alloc (.cells #[.int .i64 hd, .int .i64 hp] 49)).cell? ⟨wr.heap.size, 1, none⟩ = some (.int .i64 hp) := by simp [go_sem]
          have hgb : g ≠ wr.heap.size := by have := (hown.lt g rfl).2; omega
          have hmbb : mb ≠ wr.heap.size := by have := hmap.lt; omega
          have hbs : wr.heap.size < (wr.alloc (.cells #[.int .i64 hd, .int .i64 hp] 49)).heap.size := by simp
          have hB4 : Below w.heap.size w (wr.alloc (.cells #[.int .i64 hd, .int .i64 hp] 49)) := hB.trans (((Below.refl _ _).alloc (Nat.le_refl _) _).mono hBs)
          go_wp2_with fail
          generalize (wr.alloc (.cells #[.int .i64 hd, .int .i64 hp] 49)) = w4 at hmap4 own4 f0 f1 hbs hB4 ⊢
          generalize wr.heap.size = bh at f0 f1 hgb hmbb hbs hBs ⊢
          clear hmap hown hB x0 x1 hb
          go_loopw [7, 12, 13, 33] (fun ov _ _ iv wq => ∃ j : Nat, j ≤ Ds.length ∧ iv = .int .i64 j ∧ ∃ (g' c' : Nat) (st' : List Int × HitL), ov = .slice (some ⟨g', 0, none⟩) st'.2.length c' ∧ Hid (st' = midG Ds name st (hd, hp) j) ∧ SetM wq mb st'.1.length st'.1 ∧ OwnE enc2 49 2 wq w.heap.size g' c' st'.2 ∧ wq.cell? ⟨bh, 0, none⟩ = some (.int .i64 hd) ∧ wq.cell? ⟨bh, 1, none⟩ = some (.int .i64 hp) ∧ g' ≠ bh ∧ bh < wq.heap.size ∧ Below w.heap.size w wq) (fun _ _ _ iv _ => Ds.length - (intOf iv).toNat)
          case atStart => exact ⟨0, Nat.zero_le _, rfl, g, c0, st, rfl, (midG_zero Ds name st (hd, hp)).symm, hmap4, own4, f0, f1, hgb, hbs, hB4⟩
          case round =>
            obtain ⟨j, hj, rfl, g1, c1, st1, rfl, hst1, hmap5, own5, q0, q1, hg1, hbl, hB5⟩ := hrel
            have hB5s := hB5.size
            by_cases hltj : j < Ds.length
            · obtain ⟨b2, off2, A1, d1, A2, d2, hAe, hb2, y0, y1, y2, hdd⟩ := (h.below hB5) j hltj
              subst hAe
              have hj0 : (j : Int) < (Ds.length : Int) := by omega
              have hsm := HSM.out _ (List.getElem_mem hltj)
              have HOTH := Lib.hid (midG_other (name := name) (st := st) (h := (hd, hp)) hltj)
              have HSAME := Lib.hid (midG_same (name := name) (st := st) (h := (hd, hp)) HDB.out hltj)
              have hrg := docNum_range (d := Ds[j]) name
              have hl1 := stepG_len st (hd, hp) (numF name hd (Ds.take j))
              have hl2 : st1.1.length ≤ k + 1 ∧ st1.2.length ≤ k + 1 := by rw [hst1.out]; unfold midG; dsimp only; omega
              clear hl1
              generalize Ds[j] = d at y0 y1 y2 hdd hsm HOTH HSAME hrg
              obtain ⟨id, fs, ns⟩ := d
              dsimp only at y0 y1 y2 HOTH HSAME
              have hmap6 := hmap5.below ((Below.refl _ wr).alloc (Nat.le_refl _) (.cells #[.int .i64 id, .slice A1 fs.length d1, .slice A2 ns.length d2] 42))
              have own6 : OwnE enc2 49 2 (wr.alloc (.cells #[.int .i64 id, .slice A1 fs.length d1, .slice A2 ns.length d2] 42)) w.heap.size g1 c1 st1.2 := own_below own5 ((Below.refl _ wr).alloc (Nat.le_refl _) _)
              have r0 : ((wr.alloc (.cells #[.int .i64 id, .slice A1 fs.length d1, .slice A2 ns.length d2] 42))).cell? ⟨bh, 0, none⟩ = some (.int .i64 hd) := (((Below.refl _ wr).alloc (Nat.le_refl _) _).cell (p := ⟨bh, 0, none⟩) hbl).trans q0
              have r1 : ((wr.alloc (.cells #[.int .i64 id, .slice A1 fs.length d1, .slice A2 ns.length d2] 42))).cell? ⟨bh, 1, none⟩ = some (.int .i64 hp) := (((Below.refl _ wr).alloc (Nat.le_refl _) _).cell (p := ⟨bh, 1, none⟩) hbl).trans q1
              have u0 : ((wr.alloc (.cells #[.int .i64 id, .slice A1 fs.length d1, .slice A2 ns.length d2] 42))).cell? ⟨wr.heap.size, 0, none⟩ = some (.int .i64 id) := by simp [go_sem]
              have hds : wr.heap.size < ((wr.alloc (.cells #[.int .i64 id, .slice A1 fs.length d1, .slice A2 ns.length d2] 42))).heap.size := by simp
              have hbl6 : bh < ((wr.alloc (.cells #[.int .i64 id, .slice A1 fs.length d1, .slice A2 ns.length d2] 42))).heap.size := by omega
              have hB6 : Below w.heap.size w (wr.alloc (.cells #[.int .i64 id, .slice A1 fs.length d1, .slice A2 ns.length d2] 42)) := hB5.trans (((Below.refl _ _).alloc (Nat.le_refl _) _).mono hB5s)
              have hdd6 := hdd.below ((Below.refl _ wr).alloc (Nat.le_refl _) (.cells #[.int .i64 id, .slice A1 fs.length d1, .slice A2 ns.length d2] 42))
              go_wp2_with fail
              generalize (wr.alloc (.cells #[.int .i64 id, .slice A1 fs.length d1, .slice A2 ns.length d2] 42)) = w6 at hmap6 own6 r0 r1 u0 hds hbl6 hB6 hdd6 ⊢
              refine (docNum_any ⟨id, fs, ns⟩ A1 A2 d1 d2 name _ hdd6 hsm).mono ?_
              rintro e w7 ⟨rfl, hb7⟩
              replace hmap6 := hmap6.below hb7
              replace own6 : OwnE enc2 49 2 w7 w.heap.size g1 c1 st1.2 := own_below own6 hb7
              replace r0 := (hb7.cell (p := ⟨bh, 0, none⟩) hbl6).trans r0
              replace r1 := (hb7.cell (p := ⟨bh, 1, none⟩) hbl6).trans r1
              replace u0 := (hb7.cell (p := ⟨wr.heap.size, 0, none⟩) hds).trans u0
              have hB7 := hB6.trans (hb7.mono hB6.size)
              have hbl7 : bh < w7.heap.size := Nat.lt_of_lt_of_le hbl6 hb7.size
              generalize wr.heap.size = bd at u0 hds ⊢
              clear hmap5 own5 q0 q1 hbl hB5 y0 y1 y2 hdd hsm hbl6 hB6 hdd6 hb7 hds hb2 hB5s
              dsimp only
              generalize docNum ⟨id, fs, ns⟩ name = n at HSAME hrg ⊢
              by_cases hid : id = hd
              · obtain ⟨hs1, hs2⟩ := HSAME.out hid
                have hst2 : st1 = st := hst1.out.trans hs1
                have hq : (id == hd) = true := by simpa using hid
                by_cases hn1 : n = -1
                · have HS : Hid (st1 = midG Ds name st (hd, hp) (j + 1)) := by show _ = _; rw [hs2, hn1, stepG_no, hst2]
                  have hq1 : (n != -1) = false := by rw [hn1]; rfl
                  subst hn1
                  subst hid
                  clear HSAME HOTH hst1 hs1 hs2 hst2
                  go_wp2
                  go_roundw
                  case rel => exact ⟨j + 1, by omega, by go_num, g1, c1, st1, rfl, HS, hmap6, own6, r0, r1, hg1, hbl7, hB7⟩
                  case measure => simp [intOf]; omega
                · have hn0 : 0 ≤ n ∧ n ≤ 999999999 := hrg.resolve_left hn1
                  have hq1 : (n != -1) = true := by simpa using hn1
                  have hwf : (Lit.int .i64 n).wf = true := wf_small (by omega) (by omega)
                  have hlook := hmap6.look hwf
                  cases hin : inB st1.1 n with
                  | true =>
                    have HS : Hid (st1 = midG Ds name st (hd, hp) (j + 1)) := by show _ = _; rw [hs2, hst2]; rw [hst2] at hin; unfold stepG; rw [if_neg (by rw [hin]; simp)]
                    rw [hin] at hlook
                    subst hid
                    clear HSAME HOTH hst1 hs1 hs2 hst2
                    go_wp2
                    go_roundw
                    case rel => exact ⟨j + 1, by omega, by go_num, g1, c1, st1, rfl, HS, hmap6, own6, r0, r1, hg1, hbl7, hB7⟩
                    case measure => simp [intOf]; omega
                  | false =>
                    have HS : Hid ((st1.1 ++ [n], st1.2 ++ [(hd, hp)]) = midG Ds name st (hd, hp) (j + 1)) := by show _ = _; rw [hs2, hst2]; rw [hst2] at hin; unfold stepG; rw [if_pos ⟨hn0.1, hin⟩]
                    rw [hin] at hlook
                    obtain ⟨w8, hput, hmap8, hg8⟩ := hmap6.put hwf (by unfold maxLen; omega)
                    have hmg := hmap6.ne own6
                    have own8 : OwnE enc2 49 2 w8 w.heap.size g1 c1 st1.2 := own_other own6 hg8 (fun e => hmg e.symm)
                    have r0' := (World.cell?_of_block (w := w7) (a := ⟨bh, 0, none⟩) (hg8.block bh hbl7 (by simpa using fun e => hmbb e.symm))).trans r0
                    have r1' := (World.cell?_of_block (w := w7) (a := ⟨bh, 1, none⟩) (hg8.block bh hbl7 (by simpa using fun e => hmbb e.symm))).trans r1
                    have hB8 : Below w.heap.size w w8 := hB7.grown hg8 hB7.size (fun k hk => by cases hk; exact hmb)
                    have hbl8 : bh < w8.heap.size := Nat.lt_of_lt_of_le hbl7 hg8.size
                    have hB8s := hB8.size
                    subst hid
                    clear HSAME HOTH hst1 hs1 hs2 hst2 hmap6 own6 hmg hg8 hB7
                    go_wp2_with (first
                      | (at_builtin; refine append_rec rowTHit encHit (by decide) rfl _ _ rfl w.heap.size _ _ st1.2 rfl (own8.alloc _) _ _ _ [(id, hp)] rfl rfl (SrcE.lit encHit _ _ #[.int .i64 id, .int .i64 hp] [(id, hp)] rfl 1) (by simp; omega) (by omega) (by simp <;> omega) ?_)
                      | go_in)
                    intro N hN g9 c9 w9 own9 hg9 hat9 hb9
                    have hNl : N = st1.2 ++ [(id, hp)] := hN.out
                    subst hNl
                    clear hN
                    have hmap8' : SetM (w8.alloc (.cells #[.int .i64 id, .int .i64 hp] 49)) mb (st1.1.length + 1) (st1.1 ++ [n]) := hmap8.below ((Below.refl _ w8).alloc (Nat.le_refl _) _)
                    have hmg := hmap8'.ne (own8.alloc (.cells #[.int .i64 id, .int .i64 hp] 49))
                    have hmap9 := hmap8'.kept hg9 (by simpa using hmg)
                    have ha0 := (((Below.refl _ w8).alloc (Nat.le_refl _) (.cells #[.int .i64 id, .int .i64 hp] 49)).cell (p := ⟨bh, 0, none⟩) hbl8).trans r0'
                    have ha1 := (((Below.refl _ w8).alloc (Nat.le_refl _) (.cells #[.int .i64 id, .int .i64 hp] 49)).cell (p := ⟨bh, 1, none⟩) hbl8).trans r1'
                    have hblA : bh < (w8.alloc (.cells #[.int .i64 id, .int .i64 hp] 49)).heap.size := by simp; omega
                    have t0 := (World.cell?_of_block (w := w8.alloc (.cells #[.int .i64 id, .int .i64 hp] 49)) (a := ⟨bh, 0, none⟩) (hg9.block bh hblA (by simpa using fun e => hg1 e.symm))).trans ha0
                    have t1 := (World.cell?_of_block (w := w8.alloc (.cells #[.int .i64 id, .int .i64 hp] 49)) (a := ⟨bh, 1, none⟩) (hg9.block bh hblA (by simpa using fun e => hg1 e.symm))).trans ha1
                    have hg9b : g9 ≠ bh := by rcases hat9 with h9 | h9 <;> omega
                    have hbl9 : bh < w9.heap.size := Nat.lt_of_lt_of_le hblA hg9.size
                    have hB9 : Below w.heap.size w w9 := (hB8.alloc hB8s _).trans hb9
                    have hmap9' : SetM w9 mb (st1.1 ++ [n]).length (st1.1 ++ [n]) := by rw [List.length_append]; exact hmap9
                    clear hmap8 hmap8' hmap9 own8 r0 r1 r0' r1' hB8 hg9 hat9 hb9 ha0 ha1 hblA hmg hput hlook
                    go_wp2
                    go_roundw
                    case rel => exact ⟨j + 1, by omega, by go_num, g9, c9, (st1.1 ++ [n], st1.2 ++ [(id, hp)]), rfl, HS, hmap9', own9, t0, t1, hg9b, hbl9, hB9⟩
                    case measure => simp [intOf]; omega
              · have HS : Hid (st1 = midG Ds name st (hd, hp) (j + 1)) := by show _ = _; rw [HOTH.out hid]; exact hst1.out
                have hq : (id == hd) = false := by simpa using hid
                clear HSAME HOTH hst1
                go_wp2
                go_roundw
                case rel => exact ⟨j + 1, by omega, by go_num, g1, c1, st1, rfl, HS, hmap6, own6, r0, r1, hg1, hbl7, hB7⟩
                case measure => simp [intOf]; omega
            · obtain rfl : j = Ds.length := by omega
              have HS : Hid (st1 = foldG Ds name (hits.take (k + 1))) := by
                show _ = _
                rw [HSUC.out, hst1.out]; unfold midG; rw [List.take_length]
              clear hst1 HSUC
              go_wp2
              go_roundw
              case rel => exact ⟨k + 1, by omega, by go_num, g1, c1, st1, rfl, HS, hmap5, own5, hB5⟩
              case measure => simp [intOf]; omega
        · obtain rfl : k = hits.length := by omega
          have HS : Hid (R = st.2) := by show _ = _; rw [HR2.out, hst.out, List.take_length]
          obtain rfl : R = st.2 := HS.out
          clear hst HR2 HS
          go_wp2
          go_ret
          exact ⟨g, c0, ⟨rfl, hown⟩, hB⟩
end Go.Proofs.Yteomiaffdbbpoaa
