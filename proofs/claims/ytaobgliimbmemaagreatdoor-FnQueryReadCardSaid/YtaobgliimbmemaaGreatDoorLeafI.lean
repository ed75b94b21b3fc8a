/-
  impl's reader: readNumber, leaf.
-/
import Derived.Test.YtaobgliimbmemaaGreatDoorReadT
import Derived.Test.YtaobgliimbmemaaGreatDoorReadLaw
import Derived.Test.YtaobgliimbmemaaGreatDoorLaidOp
import Derived.Test.YtaobgliimbmemaaGreatDoorShelf
import Derived.Lib.AtoiErrMem
import Derived.Lib.AtoiAllCases
import Derived.Lib.SplitLaws
namespace Go.Proofs.YtaobgliimbmemaaGreatDoor
open Go.RowKit Go.Sort
set_option linter.unusedVariables false
set_option linter.unusedSimpArgs false

/-- what a card's list lays for the reader. -/
structure LaidR (w : World) : Prop where
  op : ∃ bo, LaidOp bo w
  syn : ∃ te pe, w.cell? ⟨3, 0, none⟩ = some (.iface te pe)
  rng : ∃ te pe, w.cell? ⟨4, 0, none⟩ = some (.iface te pe)
  mx : ∃ m, w.cell? ⟨2, 0, none⟩ = some (.int .i64 m)
theorem cell_belowR {w w' : World} {b o : Nat} {v : Value} (h : w.cell? ⟨b, o, none⟩ = some v) (hb : Below w.heap.size w w') : w'.cell? ⟨b, o, none⟩ = some v := (hb.cell (p := ⟨b, o, none⟩) (Lib.lt_of_cell h)).trans h
theorem LaidR.below {w w' : World} (h : LaidR w) (hb : Below w.heap.size w w') : LaidR w' := by
  obtain ⟨⟨bo, h1⟩, ⟨te, pe, h2⟩, ⟨te', pe', h3⟩, ⟨m, h4⟩⟩ := h
  exact ⟨⟨bo, h1.below hb⟩, ⟨te, pe, cell_belowR h2 hb⟩, ⟨te', pe', cell_belowR h3 hb⟩, ⟨m, cell_belowR h4 hb⟩⟩
/-- how Atoi ends, without an error or with one. -/
theorem atoi_call (l : Tx) (hl : l.length ≤ 1000) (w : World) (hL : LaidR w) :
    Calls Tryz.prog 42 #[.string (tb l)] w fun e w' => (∃ n : Int, ∃ v : Value, (e = .returned (.tuple #[.int .i64 n, v]) ∧ ((v = .nilIface ∧ numI l = n) ∨ ∃ te pe, v = .iface te pe ∧ numI l = -1))) ∧ Below w.heap.size w w' := by
  have hsz : (tb l).size = l.length := tb_size l
  have hdl : (tb l).data.toList = l := tb_list l
  obtain ⟨_, ⟨te, pe, h2⟩, ⟨te', pe', h3⟩, _⟩ := hL
  cases hA : Lib.atoiAll l with
  | ok v =>
    refine (Tryz.strconv_Atoi_ok (tb l) (by omega) v (by rw [hdl]; exact hA) w).mono ?_
    rintro e w' ⟨rfl, hw⟩
    refine ⟨⟨v, .nilIface, rfl, .inl ⟨rfl, by unfold numI; rw [hA]⟩⟩, ?_⟩
    rcases hw with rfl | ⟨t, rfl⟩
    · exact Below.refl _ _
    · exact Lib.bytesWorld_below _ _ _
  | range =>
    refine (Tryz.strconv_Atoi_range (tb l) (by omega) (by rw [hdl]; exact hA) (.iface te' pe') w h3 (.inr ⟨_, _, rfl⟩)).mono ?_
    rintro e w' ⟨Nn, rfl, _, _, hb⟩
    exact ⟨⟨_, _, rfl, .inr ⟨_, _, rfl, by unfold numI; rw [hA]⟩⟩, hb⟩
  | _ =>
    refine (Tryz.strconv_Atoi_bad (tb l) (by omega) _ ((congrArg Lib.atoiAll hdl).trans hA) rfl (.iface te pe) w h2 (.inr ⟨_, _, rfl⟩)).mono ?_
    rintro e w' ⟨Nn, rfl, _, _, hb⟩
    exact ⟨⟨_, _, rfl, .inr ⟨_, _, rfl, by unfold numI; rw [hA]⟩⟩, hb⟩
theorem readNumber_any (l : Tx) (x : ByteArray) (hx : x = tb l) (hl : l.length ≤ 1000) (w : World) (hL : LaidR w) :
    Calls Tryz.prog 27 #[.string x] w fun e w' => e = .returned (.int .i64 (numI l)) ∧ Below w.heap.size w w' := by
  subst hx
  have HC := Lib.hid (atoi_call l hl w hL)
  clear hL
  generalize numI l = R at HC ⊢
  generalize tb l = t at HC ⊢
  go_enter Tryz.func27, Tryz.ntmps27
  go_wp2_with fail
  refine HC.out.mono ?_
  rintro e w1 ⟨⟨n, v, rfl, ⟨rfl, rfl⟩ | ⟨te, pe, rfl, rfl⟩⟩, hb⟩
  · go_wp2
    go_ret
    exact ⟨rfl, hb⟩
  · go_wp2
    go_ret
    exact ⟨rfl, hb⟩
theorem cutC_no (l : Tx) (x : ByteArray) (hx : x = tb l) (sep : ByteArray) (b : UInt8) (hs : sep = tb [b]) (h : cutQ b l = none) (hl : l.length ≤ 1000) (w : World) (hL : LaidR w) :
    Calls Tryz.prog 40 #[.string x, .string sep] w fun e w' => e = .returned (.tuple #[.string x, .string ⟨#[]⟩, .bool false]) ∧ Below w.heap.size w w' := by
  obtain ⟨m, hm⟩ := hL.mx
  subst hx hs
  refine (Tryz.strings_Cut (tb l) (tb [b]) m w (by rw [tb_size]; omega) hm).mono ?_
  rintro e w' ⟨rfl, n, rfl⟩
  rw [tb_list, tb_list, cut_one, h]
  exact ⟨rfl, below_draws (Below.refl _ _) n⟩
theorem cutC_yes (l p r : Tx) (x : ByteArray) (hx : x = tb l) (sep : ByteArray) (b : UInt8) (hs : sep = tb [b]) (h : cutQ b l = some (p, r)) (hl : l.length ≤ 1000) (w : World) (hL : LaidR w) :
    Calls Tryz.prog 40 #[.string x, .string sep] w fun e w' => e = .returned (.tuple #[.string (tb p), .string (tb r), .bool true]) ∧ Below w.heap.size w w' := by
  obtain ⟨m, hm⟩ := hL.mx
  subst hx hs
  refine (Tryz.strings_Cut (tb l) (tb [b]) m w (by rw [tb_size]; omega) hm).mono ?_
  rintro e w' ⟨rfl, n, rfl⟩
  rw [tb_list, tb_list, cut_one, h]
  exact ⟨rfl, below_draws (Below.refl _ _) n⟩
theorem cutC_dots (l : Tx) (x : ByteArray) (hx : x = tb l) (sep : ByteArray) (hs : sep = tb [46, 46]) (hl : l.length ≤ 1000) (w : World) (hL : LaidR w) :
    Calls Tryz.prog 40 #[.string x, .string sep] w fun e w' => ∃ b : Bool, e = .returned (.tuple #[.string (tb (cut2L l).1), .string (tb (cut2L l).2), .bool b]) ∧ Below w.heap.size w w' := by
  obtain ⟨m, hm⟩ := hL.mx
  subst hx hs
  refine (Tryz.strings_Cut (tb l) (tb [46, 46]) m w (by rw [tb_size]; omega) hm).mono ?_
  rintro e w' ⟨rfl, n, rfl⟩
  rw [tb_list, tb_list, (cut_two l).1, (cut_two l).2]
  exact ⟨_, rfl, below_draws (Below.refl _ _) n⟩
theorem split_call (l : Tx) (x : ByteArray) (hx : x = tb l) (sep : ByteArray) (hs : sep = tb [43]) (hl : l.length ≤ 1000) (w : World) (hL : LaidR w) :
    Calls Tryz.prog 41 #[.string x, .string sep] w fun e w' => (e = .returned (.slice (some ⟨w.heap.size, 0, none⟩) ((splitL l).map tb).length ((splitL l).map tb).length) ∧ OwnT w' 0 w.heap.size ((splitL l).map tb).length ((splitL l).map tb)) ∧ Below w.heap.size w w' := by
  obtain ⟨m, hm⟩ := hL.mx
  subst hx hs
  have h1 : (tb [43]).size = 1 := rfl
  have e1 : Lib.splitB (tb [43]) 0 (Lib.countB (tb l) (tb [43])) (tb l) = (splitL l).map tb := by
    have h2 := Lib.splitB_data (tb [43]) 0 (Lib.countB (tb l) (tb [43])) (tb l)
    have h3 : Lib.splitK (tb [43]).data.toList 0 (Lib.countB (tb l) (tb [43])) (tb l).data.toList = splitL l := by
      rw [tb_list, tb_list]
      have := split_plus l
      rw [show Lib.countB (tb l) (tb [43]) = Lib.count l [43] by unfold Lib.countB; rw [tb_list, tb_list]]
      exact this
    rw [h3] at h2
    rw [← h2, List.map_map]
    exact ((List.map_congr_left (fun w _ => list_tb w)).trans (List.map_id _)).symm
  have e2 := Lib.splitB_all (tb [43]) (by omega) 0 _ (tb l) rfl
  rw [e1] at e2
  have hle : ((splitL l).map tb).length ≤ 1001 := by
    rw [List.length_map]
    have := (splitL_len l).1
    omega
  refine (Tryz.strings_Split (tb l) (tb [43]) m w (by rw [tb_size]; omega) hm (by omega)).mono ?_
  rintro e w' ⟨rfl, rfl⟩
  rw [e1, ← e2]
  generalize (splitL l).map tb = L at hle ⊢
  refine ⟨⟨rfl, ?_⟩, (Below.refl _ _).alloc (Nat.le_refl _) _⟩
  exact ⟨by rw [flatT, List.length_map]; omega, .inr ⟨w.heap.size, L.length, _, rfl, Nat.zero_le _, heap_alloc_new w _, Nat.le_refl _, by unfold maxLen; omega, by simp, by rw [flatT]; simp [List.take_of_length_le]⟩⟩
/-- a question that lies in rows of the call's own. -/
def OwnR (n : Nat) (q : QD) (w : World) (e : Ending) (w' : World) : Prop := ∃ (A : Option Addr) (c : Nat) (B : Option Addr) (d : Nat), (e = .returned (.agg #[.int .i64 q.kd, .string q.fd, .slice A q.ws.length c, .int .i64 q.fr, .int .i64 q.tgt, .slice B q.ks.length d]) ∧ OwnQ n (fun k => w.heap.size ≤ k ∧ k < w'.heap.size) w' ⟨q, A, c, B, d⟩) ∧ Below w.heap.size w w'
theorem OwnR.row {n : Nat} {q : QD} {w w' : World} {g c : Nat} {kd fr tq : Int} {fd : ByteArray} {L : List ByteArray} (hq : q = ⟨kd, fd, L, fr, tq, []⟩) (h1 : w.heap.size ≤ g) (ho : OwnT w' 0 g c L) (hb : Below w.heap.size w w') :
    OwnR (n + 1) q w (.returned (.agg #[.int .i64 kd, .string fd, .slice (some ⟨g, 0, none⟩) L.length c, .int .i64 fr, .int .i64 tq, .slice none 0 0])) w' := by
  subst hq
  refine ⟨some ⟨g, 0, none⟩, c, none, 0, ⟨rfl, fun k => k = g, fun _ => False, ?_, ?_, ?_, ?_, ?_⟩, hb⟩
  · rintro k rfl; exact ⟨h1, (OwnE.capOk ho).2.2.2⟩
  · exact fun _ h => h.elim
  · exact fun _ _ h => h
  · exact .inr ⟨g, rfl, rfl, ho⟩
  · exact .inl ⟨rfl, rfl, rfl⟩
theorem OwnR.none_ {n : Nat} {q : QD} {w w' : World} {kd fr tq : Int} {fd : ByteArray} (hq : q = ⟨kd, fd, [], fr, tq, []⟩) (hb : Below w.heap.size w w') :
    OwnR (n + 1) q w (.returned (.agg #[.int .i64 kd, .string fd, .slice none 0 0, .int .i64 fr, .int .i64 tq, .slice none 0 0])) w' := by
  subst hq
  refine ⟨none, 0, none, 0, ⟨rfl, fun _ => False, fun _ => False, ?_, ?_, ?_, ?_, ?_⟩, hb⟩
  · exact fun _ h => h.elim
  · exact fun _ h => h.elim
  · exact fun _ _ h => h
  · exact .inl ⟨rfl, rfl, rfl⟩
  · exact .inl ⟨rfl, rfl, rfl⟩
theorem str_is (a b : ByteArray) : (a.toList == b.toList) = decide (a = b) := bytes_eq a b
theorem lit_is (a : ByteArray) (m : Tx) : (a.toList == m) = decide (a = tb m) := by
  have h := bytes_eq a (tb m)
  rw [Lib.toList_data (tb m), tb_list] at h
  exact h
theorem tb_ne {l m : Tx} (h : l ≠ m) : tb l ≠ tb m := fun e => h (tb_inj e)
theorem six_below (w : World) (r B : Nat) (h : B ≤ r) (u0 u1 u2 u3 u4 u5 : Value) : Below B w ((((((w.setCell ⟨r, 0, none⟩ u0).setCell ⟨r, 1, none⟩ u1).setCell ⟨r, 2, none⟩ u2).setCell ⟨r, 3, none⟩ u3).setCell ⟨r, 4, none⟩ u4).setCell ⟨r, 5, none⟩ u5) :=
  ((((((Below.refl B w).setCell (p := ⟨r, 0, none⟩) h u0).setCell (p := ⟨r, 1, none⟩) h u1).setCell (p := ⟨r, 2, none⟩) h u2).setCell (p := ⟨r, 3, none⟩) h u3).setCell (p := ⟨r, 4, none⟩) h u4).setCell (p := ⟨r, 5, none⟩) h u5
theorem cutC_get (l : Tx) (x : ByteArray) (hx : x = tb l) (sep : ByteArray) (b : UInt8) (hs : sep = tb [b]) (hl : l.length ≤ 1000) (w : World) (hL : LaidR w) :
    Calls Tryz.prog 40 #[.string x, .string sep] w fun e w' => ∃ bb : Bool, e = .returned (.tuple #[.string (tb ((cutQ b l).getD (l, [])).1), .string (tb ((cutQ b l).getD (l, [])).2), .bool bb]) ∧ Below w.heap.size w w' := by
  cases h : cutQ b l with
  | none => exact (cutC_no l x hx sep b hs h hl w hL).mono fun e w' ⟨he, hb⟩ => ⟨false, by rw [he, hx]; rfl, hb⟩
  | some pr => exact (cutC_yes l pr.1 pr.2 x hx sep b hs h hl w hL).mono fun e w' ⟨he, hb⟩ => ⟨true, he, hb⟩
theorem own_lit1 (w : World) (x : ByteArray) : OwnT (w.alloc (.cells #[.string x] 9)) 0 w.heap.size 1 [x] :=
  ⟨rfl, .inr ⟨w.heap.size, 1, #[.string x], rfl, Nat.zero_le _, heap_alloc_new w _, Nat.le_refl _, by unfold maxLen; omega, rfl, rfl⟩⟩
theorem OnlyS.wide {S T : PS} {w w' : World} (h : OnlyS S w w') (hs : Sub S T) : OnlyS T w w' := ⟨h.1, h.2.1, fun k hk hn => h.2.2 k hk (fun e => hn (hs k e))⟩
theorem OnlyS.base {S : PS} {w w' : World} {B : Nat} (h : OnlyS S w w') (hs : ∀ k, S k → B ≤ k) (hB : B ≤ w.heap.size) : Below B w w' :=
  ⟨h.1.1, h.1.2.1, h.1.2.2, h.2.1, fun k hk => h.2.2 k (by omega) (fun e => by have := hs k e; omega)⟩
theorem OnlyS.put {S : PS} {w w' : World} {b j : Nat} {v : Value} (h : OnlyS S w w') (hb : S b) : OnlyS S w (w'.setCell ⟨b, j, none⟩ v) := h.trans ((OnlyS.set w' b j v).wide (fun k hk => hk ▸ hb))
theorem OwnR.sets {n : Nat} {q : QD} {w w5 : World} {g c p : Nat} {kd fr tq : Int} {fd : ByteArray} {L : List ByteArray} (hq : q = ⟨kd, fd, L, fr, tq, []⟩) (h1 : w.heap.size < g) (ho : OwnT w5 0 g c L) (hp : w.heap.size ≤ p) (hpg : p < g) (hb : Below w.heap.size w w5) :
    ∀ W, OnlyS (fun k => k = p ∨ k = w.heap.size) w5 W → OwnR (n + 1) q w (.returned (.agg #[.int .i64 kd, .string fd, .slice (some ⟨g, 0, none⟩) L.length c, .int .i64 fr, .int .i64 tq, .slice none 0 0])) W := fun W hW =>
  OwnR.row hq (Nat.le_of_lt h1) (own_only ho hW (by rintro (h | h) <;> omega)) (hb.trans (hW.base (fun k hk => by rcases hk with rfl | rfl <;> omega) hb.size))
set_option maxRecDepth 8000 in
set_option maxHeartbeats 6400000 in
theorem leaf_any (n : Nat) (l : Tx) (x : ByteArray) (hx : x = tb l) (hl : l.length ≤ 1000) (w : World) (hL : LaidR w) :
    Calls Tryz.prog 25 #[.string x] w (OwnR (n + 1) (leafI l) w) := by
  have HL := Lib.hid hL
  have HX := Lib.hid hx
  clear hL hx
  have hB0 : Below w.heap.size w (w.alloc (.cells #[.int .i64 0, .string ⟨#[]⟩, .slice none 0 0, .int .i64 0, .int .i64 0, .slice none 0 0] 27)) := (Below.refl _ _).alloc (Nat.le_refl _) _
  have r0 := alloc_new w (.cells #[.int .i64 0, .string ⟨#[]⟩, .slice none 0 0, .int .i64 0, .int .i64 0, .slice none 0 0] 27)
  have z0 : w.heap.size < (w.alloc (.cells #[.int .i64 0, .string ⟨#[]⟩, .slice none 0 0, .int .i64 0, .int .i64 0, .slice none 0 0] 27)).heap.size := by simp
  by_cases ha : l = allT
  · have he : (x.toList == [97, 108, 108]) = true := by rw [lit_is, HX.out, ha]; exact decide_eq_true rfl
    have HQ : Hid (leafI l = ⟨1, ⟨#[]⟩, [], 0, 0, []⟩) := if_pos ha
    obtain ⟨s0, s1, s2, s3, s4, s5⟩ := blk6 r0
    have t0 := frozen_blk r0 0
    have t1 := frozen_blk r0 1
    have t2 := frozen_blk r0 2
    have t3 := frozen_blk r0 3
    have t4 := frozen_blk r0 4
    have t5 := frozen_blk r0 5
    go_enter Tryz.func25, Tryz.ntmps25
    go_wp2_with fail
    exact bodyPost_ret (v := .agg #[.int .i64 1, .string ⟨#[]⟩, .slice none 0 0, .int .i64 0, .int .i64 0, .slice none 0 0]) (by simp [results, Tryz.results25, go_sem, *]) rfl (OwnR.none_ HQ.out ((Below.refl _ _).alloc (Nat.le_refl _) _))
  have he : (x.toList == [97, 108, 108]) = false := by rw [lit_is, HX.out]; exact decide_eq_false (tb_ne ha)
  cases hc : cutQ 58 l with
  | some pr =>
    obtain ⟨name, rst⟩ := pr
    have hrl : rst.length ≤ 1000 := by have := cutQ_len hc; omega
    have HLF : Hid (leafI l = match cutQ 126 rst with
      | some (ws, slop) => ⟨3, tb name, (splitL ws).map tb, numI slop, 0, []⟩
      | none => match cutQ 37 rst with
        | some (wd, far) => ⟨4, tb name, [tb wd], numI far, 0, []⟩
        | none => if wordB (tb rst) = true then ⟨2, tb name, [tb rst], 0, 0, []⟩ else ⟨5, tb name, [tb rst], 0, 0, []⟩) := by
      show _ = _
      unfold leafI
      rw [if_neg ha]
      simp only [hc]
      rfl
    generalize leafI l = q at HLF ⊢
    go_enter Tryz.func25, Tryz.ntmps25
    go_wp2_with fail
    generalize (w.alloc (.cells #[.int .i64 0, .string ⟨#[]⟩, .slice none 0 0, .int .i64 0, .int .i64 0, .slice none 0 0] 27)) = W0 at hB0 r0 z0 ⊢
    refine (cutC_yes l name rst x HX.out _ 58 rfl hc hl W0 (HL.out.below hB0)).mono ?_
    rintro e w1 ⟨rfl, hb1⟩
    have r1 := (hb1.block w.heap.size z0).trans r0
    have z1 : w.heap.size < w1.heap.size := by have := hb1.size; omega
    have hB1 := hB0.trans (hb1.mono hB0.size)
    have fW : Below w1.heap.size w1 (w1.alloc (.cells #[.int .i64 0, .string (tb name), .slice none 0 0, .int .i64 0, .int .i64 0, .slice none 0 0] 27)) := (Below.refl _ _).alloc (Nat.le_refl _) _
    have v2 := alloc_new w1 (.cells #[.int .i64 0, .string (tb name), .slice none 0 0, .int .i64 0, .int .i64 0, .slice none 0 0] 27)
    have zz2 : w1.heap.size < (w1.alloc (.cells #[.int .i64 0, .string (tb name), .slice none 0 0, .int .i64 0, .int .i64 0, .slice none 0 0] 27)).heap.size := by simp
    have r2 := (fW.block w.heap.size z1).trans r1
    have hB2 := hB1.trans (fW.mono hB1.size)
    clear hB0 r0 z0 hb1 r1 hB1 fW hc ha he
    go_wp2_with fail
    generalize (w1.alloc (.cells #[.int .i64 0, .string (tb name), .slice none 0 0, .int .i64 0, .int .i64 0, .slice none 0 0] 27)) = W2 at v2 zz2 r2 hB2 ⊢
    generalize w1.heap.size = p at v2 zz2 z1 ⊢
    cases hc2 : cutQ 126 rst with
    | some pr =>
      obtain ⟨ws, slop⟩ := pr
      have hwl : ws.length ≤ 1000 := by have := cutQ_len hc2; omega
      have hsl : slop.length ≤ 1000 := by have := cutQ_len hc2; omega
      have HQ : Hid (q = ⟨3, tb name, (splitL ws).map tb, numI slop, 0, []⟩) := by show _ = _; rw [HLF.out, hc2]
      refine (cutC_yes rst ws slop _ rfl _ 126 rfl hc2 hrl W2 (HL.out.below hB2)).mono ?_
      rintro e w3 ⟨rfl, hb3⟩
      have hB3 := hB2.trans (hb3.mono hB2.size)
      clear HLF hc2
      go_wp2_with fail
      refine (split_call ws _ rfl _ rfl hwl w3 (HL.out.below hB3)).mono ?_
      rintro e w4 ⟨⟨rfl, ho⟩, hb4⟩
      have hB4 := hB3.trans (hb4.mono hB3.size)
      generalize (splitL ws).map tb = L at HQ ho ⊢
      have z3 : W2.heap.size ≤ w3.heap.size := hb3.size
      have v4 := (hb4.block p (by omega)).trans ((hb3.block p zz2).trans v2)
      have r4 := (hb4.block w.heap.size (by omega)).trans ((hb3.block w.heap.size (by omega)).trans r2)
      have z4 := hb4.size
      clear hb3 hb4 hB3 v2 r2 hB2
      generalize w3.heap.size = gq at ho z3 z4 ⊢
      go_wp2_with fail
      refine (readNumber_any slop _ rfl hsl w4 (HL.out.below hB4)).mono ?_
      rintro e w5 ⟨rfl, hb5⟩
      have v5 := (hb5.block p (by omega)).trans v4
      have r5 := (hb5.block w.heap.size (by omega)).trans r4
      have HF := Lib.hid (OwnR.sets (n := n) HQ.out (by omega) (own_belowZ ho hb5) (Nat.le_of_lt z1) (by omega) (hB4.trans (hb5.mono hB4.size)))
      obtain ⟨s0, s1, s2, s3, s4, s5⟩ := blk6 r5
      have t0 := frozen_blk r5 0
      have t1 := frozen_blk r5 1
      have t2 := frozen_blk r5 2
      have t3 := frozen_blk r5 3
      have t4 := frozen_blk r5 4
      have t5 := frozen_blk r5 5
      obtain ⟨y0, y1, y2, y3, y4, y5⟩ := blk6 v5
      have f0 := frozen_blk v5 0
      have f2 := frozen_blk v5 2
      have f3 := frozen_blk v5 3
      generalize numI slop = m at HF ⊢
      have hpne : p ≠ w.heap.size := by omega
      clear v5 r5 hb5 v4 r4 HQ ho hB4 HL HX
      go_wp2
      exact bodyPost_ret (v := .agg #[.int .i64 3, .string (tb name), .slice (some ⟨gq, 0, none⟩) L.length L.length, .int .i64 m, .int .i64 0, .slice none 0 0]) (by simp [results, Tryz.results25, go_sem, *]) rfl (HF.out _ ((((((((((OnlyS.refl _ _).put (.inl rfl)).put (.inl rfl)).put (.inl rfl)).put (.inr rfl)).put (.inr rfl)).put (.inr rfl)).put (.inr rfl)).put (.inr rfl)).put (.inr rfl)))
    | none =>
      have HLF2 : Hid (q = match cutQ 37 rst with
        | some (wd, far) => ⟨4, tb name, [tb wd], numI far, 0, []⟩
        | none => if wordB (tb rst) = true then ⟨2, tb name, [tb rst], 0, 0, []⟩ else ⟨5, tb name, [tb rst], 0, 0, []⟩) := by
        show _ = _
        rw [HLF.out, hc2]
      refine (cutC_no rst _ rfl _ 126 rfl hc2 hrl W2 (HL.out.below hB2)).mono ?_
      rintro e w3 ⟨rfl, hb3⟩
      have hB3 := hB2.trans (hb3.mono hB2.size)
      have v3 := (hb3.block p zz2).trans v2
      have r3 := (hb3.block w.heap.size (by omega)).trans r2
      have z3 : W2.heap.size ≤ w3.heap.size := hb3.size
      clear HLF hc2 hb3 v2 r2 hB2
      go_wp2_with fail
      cases hc3 : cutQ 37 rst with
      | some pr =>
        obtain ⟨wd, far⟩ := pr
        have hfl : far.length ≤ 1000 := by have := cutQ_len hc3; omega
        have HQ : Hid (q = ⟨4, tb name, [tb wd], numI far, 0, []⟩) := by show _ = _; rw [HLF2.out, hc3]
        refine (cutC_yes rst wd far _ rfl _ 37 rfl hc3 hrl w3 (HL.out.below hB3)).mono ?_
        rintro e w4 ⟨rfl, hb4⟩
        have hB4 := hB3.trans (hb4.mono hB3.size)
        have v4 := (hb4.block p (by omega)).trans v3
        have r4 := (hb4.block w.heap.size (by omega)).trans r3
        have z4 := hb4.size
        have fW : Below w4.heap.size w4 (w4.alloc (.cells #[.string (tb wd)] 9)) := (Below.refl _ _).alloc (Nat.le_refl _) _
        have ho : OwnT (w4.alloc (.cells #[.string (tb wd)] 9)) 0 w4.heap.size 1 [tb wd] := own_lit1 w4 (tb wd)
        have zz4 : w4.heap.size < (w4.alloc (.cells #[.string (tb wd)] 9)).heap.size := by simp
        have hBW := hB4.trans (fW.mono hB4.size)
        have vW := (fW.block p (by omega)).trans v4
        have rW := (fW.block w.heap.size (by omega)).trans r4
        clear HLF2 hc3 hb4 hB3 v3 r3 fW v4 r4 hB4
        go_wp2_with fail
        generalize (w4.alloc (.cells #[.string (tb wd)] 9)) = W4 at ho zz4 hBW vW rW ⊢
        generalize w4.heap.size = gq at ho z4 zz4 ⊢
        refine (readNumber_any far _ rfl hfl W4 (HL.out.below hBW)).mono ?_
        rintro e w5 ⟨rfl, hb5⟩
        have v5 := (hb5.block p (by omega)).trans vW
        have r5 := (hb5.block w.heap.size (by omega)).trans rW
        have HF := Lib.hid (OwnR.sets (n := n) HQ.out (by omega) (own_belowZ ho hb5) (Nat.le_of_lt z1) (by omega) (hBW.trans (hb5.mono hBW.size)))
        obtain ⟨s0, s1, s2, s3, s4, s5⟩ := blk6 r5
        have t0 := frozen_blk r5 0
        have t1 := frozen_blk r5 1
        have t2 := frozen_blk r5 2
        have t3 := frozen_blk r5 3
        have t4 := frozen_blk r5 4
        have t5 := frozen_blk r5 5
        obtain ⟨y0, y1, y2, y3, y4, y5⟩ := blk6 v5
        have f0 := frozen_blk v5 0
        have f2 := frozen_blk v5 2
        have f3 := frozen_blk v5 3
        generalize numI far = m at HF ⊢
        have hpne : p ≠ w.heap.size := by omega
        clear v5 r5 hb5 vW rW HQ ho hBW HL HX
        go_wp2
        exact bodyPost_ret (v := .agg #[.int .i64 4, .string (tb name), .slice (some ⟨gq, 0, none⟩) 1 1, .int .i64 m, .int .i64 0, .slice none 0 0]) (by simp [results, Tryz.results25, go_sem, *]) rfl (HF.out _ ((((((((((OnlyS.refl _ _).put (.inl rfl)).put (.inl rfl)).put (.inl rfl)).put (.inr rfl)).put (.inr rfl)).put (.inr rfl)).put (.inr rfl)).put (.inr rfl)).put (.inr rfl)))
      | none =>
        refine (cutC_no rst _ rfl _ 37 rfl hc3 hrl w3 (HL.out.below hB3)).mono ?_
        rintro e w4 ⟨rfl, hb4⟩
        have hB4 := hB3.trans (hb4.mono hB3.size)
        have v4 := (hb4.block p (by omega)).trans v3
        have r4 := (hb4.block w.heap.size (by omega)).trans r3
        have z4 := hb4.size
        have HQ : Hid (q = if wordB (tb rst) = true then ⟨2, tb name, [tb rst], 0, 0, []⟩ else ⟨5, tb name, [tb rst], 0, 0, []⟩) := by show _ = _; rw [HLF2.out, hc3]
        have hts : (tb rst).size ≤ 9223372036854775000 := by rw [tb_size]; omega
        clear HLF2 hc3 hb4 hB3 v3 r3 HL HX hrl
        generalize tb rst = u at HQ hts ⊢
        go_wp2_with fail
        refine (wordOk_any u w4 hts).mono ?_
        rintro e w5 ⟨rfl, rfl⟩
        have ho : OwnT (w4.alloc (.cells #[.string u] 9)) 0 w4.heap.size 1 [u] := own_lit1 w4 u
        have fW : Below w4.heap.size w4 (w4.alloc (.cells #[.string u] 9)) := (Below.refl _ _).alloc (Nat.le_refl _) _
        have vW := (fW.block p (by omega)).trans v4
        have rW := (fW.block w.heap.size (by omega)).trans r4
        have hBW := hB4.trans (fW.mono hB4.size)
        cases hw : wordB u with
        | true =>
          have HF := Lib.hid (OwnR.sets (n := n) (HQ.out.trans (if_pos hw)) (by omega) ho (Nat.le_of_lt z1) (by omega) hBW)
          obtain ⟨s0, s1, s2, s3, s4, s5⟩ := blk6 r4
          have t0 := frozen_blk r4 0
          have t1 := frozen_blk r4 1
          have t2 := frozen_blk r4 2
          have t3 := frozen_blk r4 3
          have t4 := frozen_blk r4 4
          have t5 := frozen_blk r4 5
          obtain ⟨y0, y1, y2, y3, y4, y5⟩ := blk6 v4
          have f0 := frozen_blk v4 0
          have f2 := frozen_blk v4 2
          have f3 := frozen_blk v4 3
          obtain ⟨sw0, sw1, sw2, sw3, sw4, sw5⟩ := blk6 rW
          have tw0 := frozen_blk rW 0
          have tw1 := frozen_blk rW 1
          have tw2 := frozen_blk rW 2
          have tw3 := frozen_blk rW 3
          have tw4 := frozen_blk rW 4
          have tw5 := frozen_blk rW 5
          obtain ⟨yw0, yw1, yw2, yw3, yw4, yw5⟩ := blk6 vW
          have fw0 := frozen_blk vW 0
          have fw2 := frozen_blk vW 2
          have fw3 := frozen_blk vW 3
          have hpne : p ≠ w.heap.size := by omega
          clear vW rW HQ ho hBW hts
          go_wp2
          exact bodyPost_ret (v := .agg #[.int .i64 2, .string (tb name), .slice (some ⟨w4.heap.size, 0, none⟩) 1 1, .int .i64 0, .int .i64 0, .slice none 0 0]) (by simp [results, Tryz.results25, go_sem, *]) rfl (HF.out _ (((((((((OnlyS.refl _ _).put (.inl rfl)).put (.inl rfl)).put (.inr rfl)).put (.inr rfl)).put (.inr rfl)).put (.inr rfl)).put (.inr rfl)).put (.inr rfl)))
        | false =>
          have HF := Lib.hid (OwnR.sets (n := n) (HQ.out.trans (if_neg (by rw [hw]; decide))) (by omega) ho (Nat.le_of_lt z1) (by omega) hBW)
          obtain ⟨s0, s1, s2, s3, s4, s5⟩ := blk6 r4
          have t0 := frozen_blk r4 0
          have t1 := frozen_blk r4 1
          have t2 := frozen_blk r4 2
          have t3 := frozen_blk r4 3
          have t4 := frozen_blk r4 4
          have t5 := frozen_blk r4 5
          obtain ⟨y0, y1, y2, y3, y4, y5⟩ := blk6 v4
          have f0 := frozen_blk v4 0
          have f2 := frozen_blk v4 2
          have f3 := frozen_blk v4 3
          obtain ⟨sw0, sw1, sw2, sw3, sw4, sw5⟩ := blk6 rW
          have tw0 := frozen_blk rW 0
          have tw1 := frozen_blk rW 1
          have tw2 := frozen_blk rW 2
          have tw3 := frozen_blk rW 3
          have tw4 := frozen_blk rW 4
          have tw5 := frozen_blk rW 5
          obtain ⟨yw0, yw1, yw2, yw3, yw4, yw5⟩ := blk6 vW
          have fw0 := frozen_blk vW 0
          have fw2 := frozen_blk vW 2
          have fw3 := frozen_blk vW 3
          have hpne : p ≠ w.heap.size := by omega
          clear vW rW HQ ho hBW hts
          go_wp2
          exact bodyPost_ret (v := .agg #[.int .i64 5, .string (tb name), .slice (some ⟨w4.heap.size, 0, none⟩) 1 1, .int .i64 0, .int .i64 0, .slice none 0 0]) (by simp [results, Tryz.results25, go_sem, *]) rfl (HF.out _ (((((((((OnlyS.refl _ _).put (.inl rfl)).put (.inl rfl)).put (.inr rfl)).put (.inr rfl)).put (.inr rfl)).put (.inr rfl)).put (.inr rfl)).put (.inr rfl)))
  | none =>
    have HQ0 : Hid (leafI l = ⟨6, tb ((cutQ 61 l).getD (l, [])).1, [], numI (cut2L ((cutQ 61 l).getD (l, [])).2).1, numI (cut2L ((cutQ 61 l).getD (l, [])).2).2, []⟩) := by
      show _ = _
      unfold leafI
      rw [if_neg ha]
      simp only [hc]
    have hpl : ((cutQ 61 l).getD (l, [])).2.length ≤ 1000 := by
      cases h61 : cutQ 61 l with
      | none => simp
      | some pr => obtain ⟨a, b⟩ := pr; have := cutQ_len h61; simp; omega
    have CC := Lib.hid (fun V (hV : LaidR V) => cutC_get l x HX.out _ 61 rfl hl V hV)
    generalize ((cutQ 61 l).getD (l, [])) = pr at HQ0 hpl CC
    obtain ⟨name, rst⟩ := pr
    simp only at HQ0 hpl CC
    obtain ⟨hn1, hn2⟩ := cut2L_len rst
    have CD := Lib.hid (fun V (hV : LaidR V) => cutC_dots rst _ rfl _ rfl hpl V hV)
    generalize cut2L rst = pr at HQ0 hn1 hn2 CD
    obtain ⟨na, nb⟩ := pr
    simp only at HQ0 hn1 hn2 CD
    generalize leafI l = q at HQ0 ⊢
    go_enter Tryz.func25, Tryz.ntmps25
    go_wp2_with fail
    generalize (w.alloc (.cells #[.int .i64 0, .string ⟨#[]⟩, .slice none 0 0, .int .i64 0, .int .i64 0, .slice none 0 0] 27)) = W0 at hB0 r0 z0 ⊢
    refine (cutC_no l x HX.out _ 58 rfl hc hl W0 (HL.out.below hB0)).mono ?_
    rintro e w1 ⟨rfl, hb1⟩
    have r1 := (hb1.block w.heap.size z0).trans r0
    have z1 : w.heap.size < w1.heap.size := by have := hb1.size; omega
    have hB1 := hB0.trans (hb1.mono hB0.size)
    clear hB0 r0 z0 hb1
    go_wp2_with fail
    refine (CC.out w1 (HL.out.below hB1)).mono ?_
    rintro e w2 ⟨bb, rfl, hb2⟩
    have r2 := (hb2.block w.heap.size z1).trans r1
    have z2 : w.heap.size < w2.heap.size := by have := hb2.size; omega
    have hB2 := hB1.trans (hb2.mono hB1.size)
    clear hB1 r1 z1 hb2
    go_wp2_with fail
    refine (CD.out w2 (HL.out.below hB2)).mono ?_
    rintro e w3 ⟨bc, rfl, hb3⟩
    have r3 := (hb3.block w.heap.size z2).trans r2
    have z3 : w.heap.size < w3.heap.size := by have := hb3.size; omega
    have hB3 := hB2.trans (hb3.mono hB2.size)
    clear hB2 r2 z2 hb3
    go_wp2_with fail
    refine (readNumber_any na _ rfl (by omega) w3 (HL.out.below hB3)).mono ?_
    rintro e w4 ⟨rfl, hb4⟩
    have r4 := (hb4.block w.heap.size z3).trans r3
    have z4 : w.heap.size < w4.heap.size := by have := hb4.size; omega
    have hB4 := hB3.trans (hb4.mono hB3.size)
    clear hB3 r3 z3 hb4
    go_wp2_with fail
    refine (readNumber_any nb _ rfl (by omega) w4 (HL.out.below hB4)).mono ?_
    rintro e w5 ⟨rfl, hb5⟩
    have r5 := (hb5.block w.heap.size z4).trans r4
    have hB5 := hB4.trans (hb5.mono hB4.size)
    clear hB4 r4 z4 hb5 CC CD
    generalize numI na = ma at HQ0 ⊢
    generalize numI nb = mb at HQ0 ⊢
    obtain ⟨s0, s1, s2, s3, s4, s5⟩ := blk6 r5
    have t0 := frozen_blk r5 0
    have t1 := frozen_blk r5 1
    have t2 := frozen_blk r5 2
    have t3 := frozen_blk r5 3
    have t4 := frozen_blk r5 4
    have t5 := frozen_blk r5 5
    clear r5 HL HX
    go_wp2
    exact bodyPost_ret (v := .agg #[.int .i64 6, .string (tb name), .slice none 0 0, .int .i64 ma, .int .i64 mb, .slice none 0 0]) (by simp [results, Tryz.results25, go_sem, *]) rfl (OwnR.none_ HQ0.out (hB5.trans ((six_below _ _ _ (Nat.le_refl _) _ _ _ _ _ _))))
end Go.Proofs.YtaobgliimbmemaaGreatDoor
