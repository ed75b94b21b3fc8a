/-
  spec's reader: a leaf.
-/
import Derived.Test.YtaobgliimbmemaaGreatDoorCutS
import Derived.Test.YtaobgliimbmemaaGreatDoorReadLaw
import Derived.Test.YtaobgliimbmemaaGreatDoorLeafI
import Derived.Deep.RegionLaw
import Derived.StillTailTactics
namespace Go.Proofs.YtaobgliimbmemaaGreatDoor
open Go.RowKit Go.Sort
set_option linter.unusedVariables false
set_option linter.unusedSimpArgs false

/-- a question that can be read, as long as the blocks that the call has laid stand. -/
def SpR (n : Nat) (q : QD) (w : World) (e : Ending) (w' : World) : Prop := ∃ (A : Option Addr) (c : Nat) (B : Option Addr) (d : Nat), (e = .returned (.agg #[.int .i64 q.kd, .string q.fd, .slice A q.ws.length c, .int .i64 q.fr, .int .i64 q.tgt, .slice B q.ks.length d]) ∧ KeptQ n w w' q A c B) ∧ Below w.heap.size w w'
theorem rdKS_nil {H : HQ} {w : World} {B : Option Addr} : RdK H w B [] := fun k hk => absurd hk (by simp)
theorem SpR.row {n : Nat} {q : QD} {w w' : World} {A : Option Addr} {c : Nat} {kd fr tq : Int} {fd : ByteArray} {L : List ByteArray} (hq : q = ⟨kd, fd, L, fr, tq, []⟩) (hs : ∀ V, SameR w.heap.size w'.heap.size w' V → SrcQ V A c L) (hb : Below w.heap.size w w') :
    SpR (n + 1) q w (.returned (.agg #[.int .i64 kd, .string fd, .slice A L.length c, .int .i64 fr, .int .i64 tq, .slice none 0 0])) w' := by
  subst hq
  exact ⟨A, c, none, 0, ⟨rfl, fun V hV => ⟨hs V hV, rdKS_nil⟩⟩, hb⟩
theorem srcS_nil (w : World) : SrcQ w none 0 [] := ⟨SrcE.nil_ w 0, Nat.le_refl _, Nat.zero_le _⟩
theorem SrcQ.blk {w w' : World} {b off c : Nat} {L : List ByteArray} (h : SrcQ w (some ⟨b, off, none⟩) c L) (hb : b < w.heap.size → w'.heap[b]? = w.heap[b]?) : SrcQ w' (some ⟨b, off, none⟩) c L := by
  refine ⟨⟨⟨h.1.1.1, fun hn => ?_⟩, .inr ⟨_, rfl⟩⟩, h.2⟩
  obtain ⟨b', off', e, hlt, hc⟩ := h.1.1.2 hn
  simp only [Option.some.injEq, Addr.mk.injEq, and_true] at e
  obtain ⟨rfl, rfl⟩ := e
  have hb2 := hb hlt
  refine ⟨b, off, rfl, ?_, fun j u hu => (World.cell?_of_block (w := w) (a := ⟨b, off + j, none⟩) hb2).trans (hc j u hu)⟩
  rw [Array.getElem?_eq_getElem hlt] at hb2
  exact (Array.getElem?_eq_some_iff.1 hb2).1
theorem OnlyS.drewS {S : PS} {w w1 : World} (h : OnlyS S w w1) : OnlyS S w w1.drew := h
theorem OnlyS.sixS (w : World) (r : Nat) (u0 u1 u2 u3 u4 u5 : Value) : OnlyS (fun k => k = r) w ((((((w.setCell ⟨r, 0, none⟩ u0).setCell ⟨r, 1, none⟩ u1).setCell ⟨r, 2, none⟩ u2).setCell ⟨r, 3, none⟩ u3).setCell ⟨r, 4, none⟩ u4).setCell ⟨r, 5, none⟩ u5) :=
  ((((((OnlyS.set _ _ _ _).trans (OnlyS.set _ _ _ _)).trans (OnlyS.set _ _ _ _)).trans (OnlyS.set _ _ _ _)).trans (OnlyS.set _ _ _ _)).trans (OnlyS.set _ _ _ _))
theorem SpR.sets {n : Nat} {q : QD} {w w5 : World} {b off c p : Nat} {kd fr tq : Int} {fd : ByteArray} {L : List ByteArray} (hq : q = ⟨kd, fd, L, fr, tq, []⟩) (hs : SrcQ w5 (some ⟨b, off, none⟩) c L) (hp : w.heap.size < p) (hbp : b ≠ p) (hbw : w.heap.size < b) (hb : Below w.heap.size w w5) :
    ∀ W, OnlyS (fun k => k = p ∨ k = w.heap.size) w5 W → SpR (n + 1) q w (.returned (.agg #[.int .i64 kd, .string fd, .slice (some ⟨b, off, none⟩) L.length c, .int .i64 fr, .int .i64 tq, .slice none 0 0])) W := fun W hW =>
  SpR.row hq (fun V hV => hs.blk (fun hlt => (hV.2 b (by omega) (Nat.lt_of_lt_of_le hlt hW.2.1)).trans (hW.2.2 b hlt (by rintro (h | h); exact hbp h; omega)))) (hb.trans (hW.base (fun k hk => by rcases hk with rfl | rfl <;> omega) hb.size))
theorem cutS_one (b : UInt8) (l : Tx) : cutS b 1 l = match cutQ b l with | none => [l] | some pr => [pr.1, pr.2] := by
  rw [cutS]
  cases cutQ b l with
  | none => rfl
  | some pr => obtain ⟨a, c⟩ := pr; rfl
theorem ownT_at {w : World} {base g c : Nat} {L : List ByteArray} (h : OwnT w base g c L) {j : Nat} (hj : j < L.length) : w.cell? ⟨g, j, none⟩ = some (.string L[j]) := by
  have h1 := h.cellAt j (by omega)
  rw [h1, flatT, List.getElem?_map, List.getElem?_eq_getElem hj]; rfl
/-! a region that draws its order: reads and quiet calls, then what is forced to come last -/
structure SW (P : Program) (ops : Array Oper) (w : World) (Q : Act → Prop) (l : List Oper) (a : Act) : Prop where
  out : wpStill P ops w Q l a
theorem sw_nil {P : Program} {ops : Array Oper} {w : World} {Q : Act → Prop} {a : Act} (h : Q a) : SW P ops w Q [] a := ⟨h⟩
theorem sw_step {P : Program} {ops : Array Oper} {w : World} {Q : Act → Prop} {a : Act} {o : Oper} {rest : List Oper}
    (h : ∀ K : Act → Prop, (∀ a, SW P ops w Q rest a → K a) → if Region.wanted o (yielded ops a.tmps) then o.still P a w K else K (a.put o.dst undef)) : SW P ops w Q (o :: rest) a :=
  ⟨wpStill_step fun K hK => h K (fun a ha => hK a ha.out)⟩
theorem region_sw {P : Program} {id : Nat} {Q : Exit → Act → World → Prop} {a : Act} {w : World} {l : List Oper} (n : Nat) (hm : P.follows .mixedOrders = true) (hB : Region.lexTailB .any l.toArray n = true)
    (h : ∀ Wd : World, Wd = { w with drawn := w.drawn + 1 } → SW P l.toArray Wd (fun a' => wpList P l.toArray Q (l.drop n) a' Wd) (l.take n) a) : (Code.region id l.toArray true).wp P Q a w :=
  wp_region_still_tail n hm hB (h _ rfl).out
theorem l1Num_tb (l : Tx) (hl : l.length ≤ 1000) (w : World) :
    Calls Tryz.prog 30 #[.string (tb l)] w fun e w' => e = .returned (.int .i64 (numS l)) ∧ w = w' := by
  have := l1Num_any (tb l) w (by rw [tb_size]; exact hl)
  rwa [tb_list] at this
set_option maxRecDepth 8000 in
set_option maxHeartbeats 12800000 in
theorem l11Leaf_any (n : Nat) (l : Tx) (x : ByteArray) (hx : x = tb l) (hl : l.length ≤ 1000) (w : World) :
    Calls Tryz.prog 28 #[.string x] w (SpR (n + 1) (leafS l) w) := by
  have HX := Lib.hid hx
  have hxs : x.size ≤ 1000 := by rw [hx, tb_size]; exact hl
  have hxd : x.data.toList = l := by rw [hx, tb_list]
  have HC := Lib.hid (fun (b : UInt8) (m : Nat) (V : World) (hm : m ≤ 5) => l1Cut_any x b _ rfl m _ rfl V hxs hm)
  rw [hxd] at HC
  clear hx hxd
  have hB0 : Below w.heap.size w (w.alloc (.cells #[.int .i64 0, .string ⟨#[]⟩, .slice none 0 0, .int .i64 0, .int .i64 0, .slice none 0 0] 27)) := (Below.refl _ _).alloc (Nat.le_refl _) _
  have r0 := alloc_new w (.cells #[.int .i64 0, .string ⟨#[]⟩, .slice none 0 0, .int .i64 0, .int .i64 0, .slice none 0 0] 27)
  have z0 : w.heap.size < (w.alloc (.cells #[.int .i64 0, .string ⟨#[]⟩, .slice none 0 0, .int .i64 0, .int .i64 0, .slice none 0 0] 27)).heap.size := by simp
  by_cases ha : l = allT
  · have he : (x.toList == [97, 108, 108]) = true := by rw [lit_is, HX.out, ha]; exact decide_eq_true rfl
    have HQ : Hid (leafS l = ⟨1, ⟨#[]⟩, [], 0, 0, []⟩) := if_pos ha
    obtain ⟨s0, s1, s2, s3, s4, s5⟩ := blk6 r0
    have t0 := frozen_blk r0 0
    have t1 := frozen_blk r0 1
    have t2 := frozen_blk r0 2
    have t3 := frozen_blk r0 3
    have t4 := frozen_blk r0 4
    have t5 := frozen_blk r0 5
    go_enter Tryz.func28, Tryz.ntmps28
    go_wp2_with fail
    exact bodyPost_ret (v := .agg #[.int .i64 1, .string ⟨#[]⟩, .slice none 0 0, .int .i64 0, .int .i64 0, .slice none 0 0]) (by simp [results, Tryz.results28, go_sem, *]) rfl (SpR.row HQ.out (fun V _ => srcS_nil V) ((Below.refl _ _).alloc (Nat.le_refl _) _))
  have he : (x.toList == [97, 108, 108]) = false := by rw [lit_is, HX.out]; exact decide_eq_false (tb_ne ha)
  cases hc : cutQ 61 l with
  | some pr =>
    obtain ⟨name, rst⟩ := pr
    have hrl : (tb rst).size ≤ 1000 := by have := cutQ_len hc; rw [tb_size]; omega
    have HLF : Hid (leafS l = match cutS 46 2 rst with
      | [a, _, c] => ⟨6, tb name, [], numS a, numS c, []⟩
      | _ => ⟨0, ⟨#[]⟩, [], 0, 0, []⟩) := by
      show _ = _
      unfold leafS
      rw [if_neg ha]
      simp only [hc]
      rfl
    have C1 := Lib.hid (fun V => HC.out 61 1 V (by omega))
    rw [cutS_one, hc] at C1
    generalize leafS l = q at HLF ⊢
    go_enter Tryz.func28, Tryz.ntmps28
    go_wp2_with fail
    generalize (w.alloc (.cells #[.int .i64 0, .string ⟨#[]⟩, .slice none 0 0, .int .i64 0, .int .i64 0, .slice none 0 0] 27)) = W0 at hB0 r0 z0 ⊢
    refine (C1.out W0).mono ?_
    rintro e w1 ⟨g1, c1, ⟨rfl, ow1⟩, hb1⟩
    have x0 : w1.cell? ⟨g1, 0, none⟩ = some (.string (tb name)) := ownT_at ow1 (j := 0) (by simp)
    have x1 : w1.cell? ⟨g1, 1, none⟩ = some (.string (tb rst)) := ownT_at ow1 (j := 1) (by simp)
    obtain ⟨k1, k2, k3, k4⟩ := OwnE.capOk ow1
    have r1 := (hb1.block w.heap.size z0).trans r0
    have hB1 := hB0.trans (hb1.mono hB0.size)
    clear r0 hc ha
    go_wp2_with fail
    have CD := l1Cut_any (tb rst) 46 _ rfl 2 _ rfl w1 hrl (by omega)
    rw [tb_list] at CD
    have hml := cutS_len 46 2 rst
    generalize cutS 46 2 rst = M at HLF CD hml
    refine CD.mono ?_
    rintro e w2 ⟨g2, c2, ⟨rfl, ow2⟩, hb2⟩
    have r2 := (hb2.block w.heap.size (by omega)).trans r1
    have hB2 := hB1.trans (hb2.mono hB1.size)
    have x2 := (belowL hb2 (o := 0) k4).trans x0
    obtain ⟨m1, m2, m3, m4⟩ := OwnE.capOk ow2
    have hM : ∀ y ∈ M, y.length ≤ 1000 := fun y hy => by have := hml.2 y hy; rw [tb_size] at hrl; omega
    have hM3 := hml.1
    clear CD hml x0 x1 r1 hB1 C1 HC HX he hxs
    obtain ⟨s0, s1, s2, s3, s4, s5⟩ := blk6 r2
    have t0 := frozen_blk r2 0
    have t1 := frozen_blk r2 1
    have t2 := frozen_blk r2 2
    have t3 := frozen_blk r2 3
    have t4 := frozen_blk r2 4
    have t5 := frozen_blk r2 5
    rcases M with _ | ⟨a, _ | ⟨b, _ | ⟨cc, _ | ⟨d, M⟩⟩⟩⟩
    · have HQ : Hid (q = ⟨0, ⟨#[]⟩, [], 0, 0, []⟩) := HLF.out
      have HF := Lib.hid (fun W (h6 : OnlyS (fun k => k = w.heap.size) w2 W) => SpR.row (n := n) HQ.out (fun V _ => srcS_nil V) (hB2.trans (h6.base (fun k hk => by omega) hB2.size)))
      clear HLF hM hM3 ow2 hB2 r2
      go_wp2
      exact bodyPost_ret (v := .agg #[.int .i64 0, .string ⟨#[]⟩, .slice none 0 0, .int .i64 0, .int .i64 0, .slice none 0 0]) (by simp [results, Tryz.results28, go_sem, *]) rfl (HF.out _ (OnlyS.sixS _ _ _ _ _ _ _ _))
    · have HQ : Hid (q = ⟨0, ⟨#[]⟩, [], 0, 0, []⟩) := HLF.out
      have HF := Lib.hid (fun W (h6 : OnlyS (fun k => k = w.heap.size) w2 W) => SpR.row (n := n) HQ.out (fun V _ => srcS_nil V) (hB2.trans (h6.base (fun k hk => by omega) hB2.size)))
      clear HLF hM hM3 ow2 hB2 r2
      go_wp2
      exact bodyPost_ret (v := .agg #[.int .i64 0, .string ⟨#[]⟩, .slice none 0 0, .int .i64 0, .int .i64 0, .slice none 0 0]) (by simp [results, Tryz.results28, go_sem, *]) rfl (HF.out _ (OnlyS.sixS _ _ _ _ _ _ _ _))
    · have HQ : Hid (q = ⟨0, ⟨#[]⟩, [], 0, 0, []⟩) := HLF.out
      have HF := Lib.hid (fun W (h6 : OnlyS (fun k => k = w.heap.size) w2 W) => SpR.row (n := n) HQ.out (fun V _ => srcS_nil V) (hB2.trans (h6.base (fun k hk => by omega) hB2.size)))
      clear HLF hM hM3 ow2 hB2 r2
      go_wp2
      exact bodyPost_ret (v := .agg #[.int .i64 0, .string ⟨#[]⟩, .slice none 0 0, .int .i64 0, .int .i64 0, .slice none 0 0]) (by simp [results, Tryz.results28, go_sem, *]) rfl (HF.out _ (OnlyS.sixS _ _ _ _ _ _ _ _))
    · have HQ : Hid (q = ⟨6, tb name, [], numS a, numS cc, []⟩) := HLF.out
      have y0 : w2.cell? ⟨g2, 0, none⟩ = some (.string (tb a)) := ownT_at ow2 (j := 0) (by simp)
      have y2 : w2.cell? ⟨g2, 2, none⟩ = some (.string (tb cc)) := ownT_at ow2 (j := 2) (by simp)
      have CN := Lib.hid (fun (l : Tx) (hl : l.length ≤ 1000) (V : World) => (l1Num_tb l hl V).mono fun e w' ⟨h1, h2⟩ => (⟨h1, h2.symm⟩ : e = Ending.returned (.int .i64 (numS l)) ∧ w' = V))
      have hla := hM a (by simp)
      have hlc := hM cc (by simp)
      have HF := Lib.hid (fun W (h6 : OnlyS (fun k => k = w.heap.size) w2 W) => SpR.row (n := n) HQ.out (fun V _ => srcS_nil V) (hB2.trans (h6.base (fun k hk => by omega) hB2.size)))
      have hg1 : g1 ≠ w.heap.size := by omega
      have hg2 : g2 ≠ w.heap.size := by have := hb2.size; omega
      have hg1l : g1 < w2.heap.size := by have := hb2.size; omega
      clear HLF hM hM3 ow2 hB2 HQ hb1 hb2 ow1
      go_wp2_with fail
      refine region_sw 12 (by kernel_rfl) (by kernel_rfl) ?_
      intro Wd hWd
      simp only [List.take_succ_cons, List.take_zero, List.drop_succ_cons, List.drop_zero]
      replace HF := Lib.hid (fun W (h6 : OnlyS (fun k => k = w.heap.size) Wd W) => HF.out W (by rw [hWd] at h6; exact h6))
      replace x2 : Wd.cell? ⟨g1, 0, none⟩ = some (.string (tb name)) := by rw [hWd]; exact x2
      replace y0 : Wd.cell? ⟨g2, 0, none⟩ = some (.string (tb a)) := by rw [hWd]; exact y0
      replace y2 : Wd.cell? ⟨g2, 2, none⟩ = some (.string (tb cc)) := by rw [hWd]; exact y2
      have rd : Wd.heap[w.heap.size]? = some (.cells #[.int .i64 0, .string ⟨#[]⟩, .slice none 0 0, .int .i64 0, .int .i64 0, .slice none 0 0] 27) := by rw [hWd]; exact r2
      clear s0 s1 s2 s3 s4 s5 t0 t1 t2 t3 t4 t5 r2 hWd
      obtain ⟨s0, s1, s2, s3, s4, s5⟩ := blk6 rd
      have t0 := frozen_blk rd 0
      have t1 := frozen_blk rd 1
      have t2 := frozen_blk rd 2
      have t3 := frozen_blk rd 3
      have t4 := frozen_blk rd 4
      have t5 := frozen_blk rd 5
      clear rd
      repeat (
        refine sw_step (fun K hK => ?_)
        go_simp
        first
          | (refine hK _ ?_; clear hK K)
          | (refine ⟨_, CN.out _ ?_ _, hK _ ?_⟩; (first | exact hla | exact hlc); clear hK K))
      refine sw_nil ?_
      go_wp2
      exact bodyPost_ret (v := .agg #[.int .i64 6, .string (tb name), .slice none 0 0, .int .i64 (numS a), .int .i64 (numS cc), .slice none 0 0]) (by simp [results, Tryz.results28, go_sem, *]) rfl (HF.out _ (OnlyS.sixS _ _ _ _ _ _ _ _))
    · simp at hM3
  | none =>
    cases hc2 : cutQ 58 l with
    | none =>
      have HQ : Hid (leafS l = ⟨0, ⟨#[]⟩, [], 0, 0, []⟩) := by
        show _ = _
        unfold leafS
        rw [if_neg ha]
        simp only [hc, hc2]
      have C1 := Lib.hid (fun V => HC.out 61 1 V (by omega))
      have C2 := Lib.hid (fun V => HC.out 58 1 V (by omega))
      rw [cutS_one, hc] at C1
      rw [cutS_one, hc2] at C2
      generalize leafS l = q at HQ ⊢
      go_enter Tryz.func28, Tryz.ntmps28
      go_wp2_with fail
      generalize (w.alloc (.cells #[.int .i64 0, .string ⟨#[]⟩, .slice none 0 0, .int .i64 0, .int .i64 0, .slice none 0 0] 27)) = W0 at hB0 r0 z0 ⊢
      refine (C1.out W0).mono ?_
      rintro e w1 ⟨g1, c1, ⟨rfl, ow1⟩, hb1⟩
      have r1 := (hb1.block w.heap.size z0).trans r0
      have z1 := hb1.size
      have hB1 := hB0.trans (hb1.mono hB0.size)
      clear r0 hb1 hB0
      go_wp2_with fail
      refine (C2.out w1).mono ?_
      rintro e w2 ⟨g2, c2, ⟨rfl, ow2⟩, hb2⟩
      have r2 := (hb2.block w.heap.size (by omega)).trans r1
      have hB2 := hB1.trans (hb2.mono hB1.size)
      have HF := Lib.hid (fun W (h6 : OnlyS (fun k => k = w.heap.size) w2 W) => SpR.row (n := n) HQ.out (fun V _ => srcS_nil V) (hB2.trans (h6.base (fun k hk => by omega) hB2.size)))
      obtain ⟨s0, s1, s2, s3, s4, s5⟩ := blk6 r2
      have t0 := frozen_blk r2 0
      have t1 := frozen_blk r2 1
      have t2 := frozen_blk r2 2
      have t3 := frozen_blk r2 3
      have t4 := frozen_blk r2 4
      have t5 := frozen_blk r2 5
      clear r1 r2 hb2 hB1 hB2 HQ C1 C2 HC HX ow1 ow2 hc hc2 ha
      go_wp2
      exact bodyPost_ret (v := .agg #[.int .i64 0, .string ⟨#[]⟩, .slice none 0 0, .int .i64 0, .int .i64 0, .slice none 0 0]) (by simp [results, Tryz.results28, go_sem, *]) rfl (HF.out _ (OnlyS.sixS _ _ _ _ _ _ _ _))
    | some pr =>
      obtain ⟨name, rst⟩ := pr
      have hrl : (tb rst).size ≤ 1000 := by have := cutQ_len hc2; rw [tb_size]; omega
      have HLF : Hid (leafS l = match cutQ 126 rst with
        | some (ws, slop) => ⟨3, tb name, (cutS 43 5 ws).map tb, numS slop, 0, []⟩
        | none => match cutQ 37 rst with
          | some (wd, far) => ⟨4, tb name, [tb wd], numS far, 0, []⟩
          | none => if wordB (tb rst) = true then ⟨2, tb name, [tb rst], 0, 0, []⟩ else ⟨5, tb name, [tb rst], 0, 0, []⟩) := by
        show _ = _
        unfold leafS
        rw [if_neg ha]
        simp only [hc, hc2]
        rfl
      have C1 := Lib.hid (fun V => HC.out 61 1 V (by omega))
      have C2 := Lib.hid (fun V => HC.out 58 1 V (by omega))
      rw [cutS_one, hc] at C1
      rw [cutS_one, hc2] at C2
      have HD := Lib.hid (fun (b : UInt8) (V : World) => l1Cut_any (tb rst) b _ rfl 1 _ rfl V hrl (by omega))
      rw [tb_list] at HD
      generalize leafS l = q at HLF ⊢
      go_enter Tryz.func28, Tryz.ntmps28
      go_wp2_with fail
      generalize (w.alloc (.cells #[.int .i64 0, .string ⟨#[]⟩, .slice none 0 0, .int .i64 0, .int .i64 0, .slice none 0 0] 27)) = W0 at hB0 r0 z0 ⊢
      refine (C1.out W0).mono ?_
      rintro e w1 ⟨g1, c1, ⟨rfl, ow1⟩, hb1⟩
      have r1 := (hb1.block w.heap.size z0).trans r0
      have z1 := hb1.size
      have hB1 := hB0.trans (hb1.mono hB0.size)
      clear r0 hb1 hB0 ow1
      go_wp2_with fail
      refine (C2.out w1).mono ?_
      rintro e w2 ⟨g2, c2, ⟨rfl, ow2⟩, hb2⟩
      have r2 := (hb2.block w.heap.size (by omega)).trans r1
      have z2 := hb2.size
      have hB2 := hB1.trans (hb2.mono hB1.size)
      obtain ⟨m1, m2, m3, m4⟩ := OwnE.capOk ow2
      have x0 : w2.cell? ⟨g2, 0, none⟩ = some (.string (tb name)) := ownT_at ow2 (j := 0) (by simp)
      have fW : Below w2.heap.size w2 (w2.alloc (.cells #[.int .i64 0, .string (tb name), .slice none 0 0, .int .i64 0, .int .i64 0, .slice none 0 0] 27)) := (Below.refl _ _).alloc (Nat.le_refl _) _
      have v3 := alloc_new w2 (.cells #[.int .i64 0, .string (tb name), .slice none 0 0, .int .i64 0, .int .i64 0, .slice none 0 0] 27)
      have zz3 : w2.heap.size < (w2.alloc (.cells #[.int .i64 0, .string (tb name), .slice none 0 0, .int .i64 0, .int .i64 0, .slice none 0 0] 27)).heap.size := by simp
      have r3 := (fW.block w.heap.size (by omega)).trans r2
      have hB3 := hB2.trans (fW.mono hB2.size)
      have ow3 := own_belowZ ow2 fW
      have x1 : (w2.alloc (.cells #[.int .i64 0, .string (tb name), .slice none 0 0, .int .i64 0, .int .i64 0, .slice none 0 0] 27)).cell? ⟨g2, 1, none⟩ = some (.string (tb rst)) := ownT_at ow3 (j := 1) (by simp)
      have hg2 : w.heap.size < g2 := by omega
      clear r1 hb2 hB1 r2 ow2 hB2 fW HC HX C1 C2 hc hc2 ha he hxs
      go_wp2_with fail
      generalize (w2.alloc (.cells #[.int .i64 0, .string (tb name), .slice none 0 0, .int .i64 0, .int .i64 0, .slice none 0 0] 27)) = W3 at v3 zz3 r3 hB3 ow3 x1 ⊢
      generalize w2.heap.size = p at v3 zz3 m4 z2 ⊢
      have D1 := Lib.hid (fun V => HD.out 126 V)
      have D2 := Lib.hid (fun V => HD.out 37 V)
      obtain ⟨L4, hL4⟩ : ∃ L4, L4 = (cutS 126 1 rst).map tb := ⟨_, rfl⟩
      obtain ⟨L5, hL5⟩ : ∃ L5, L5 = (cutS 37 1 rst).map tb := ⟨_, rfl⟩
      rw [← hL4] at D1
      rw [← hL5] at D2
      rw [cutS_one] at hL4 hL5
      have HL4 := Lib.hid hL4
      have HL5 := Lib.hid hL5
      clear hL4 hL5
      refine (D1.out W3).mono ?_
      rintro e w4 ⟨g4, c4, ⟨rfl, ow4⟩, hb4⟩
      have v4 := (hb4.block p zz3).trans v3
      have r4 := (hb4.block w.heap.size (by omega)).trans r3
      have x4 := (belowL hb4 (o := 1) (show g2 < W3.heap.size by omega)).trans x1
      have ow3b := own_belowZ ow3 hb4
      have hB4 := hB3.trans (hb4.mono hB3.size)
      have z4 := hb4.size
      have k4 := (OwnE.capOk ow4).2.2
      clear v3 r3 x1 ow3 hb4 hB3 x0
      go_wp2_with fail
      refine (D2.out w4).mono ?_
      rintro e w5 ⟨g5, c5, ⟨rfl, ow5⟩, hb5⟩
      have v5 := (hb5.block p (by omega)).trans v4
      have r5 := (hb5.block w.heap.size (by omega)).trans r4
      have x5 := (belowL hb5 (o := 1) (show g2 < w4.heap.size by omega)).trans x4
      have ow3c := own_belowZ ow3b hb5
      have ow4b := own_belowZ ow4 hb5
      have hB5 := hB4.trans (hb5.mono hB4.size)
      have z5 := hb5.size
      have k5 := (OwnE.capOk ow5).2.2
      clear v4 r4 x4 ow3b ow4 hb5 hB4 D1 D2 HD
      have hpw : p ≠ w.heap.size := by omega
      have hp4 : p ≠ g4 := by omega
      have hp5 : p ≠ g5 := by omega
      have hp2 : p ≠ g2 := by omega
      have hpl : w.heap.size < p := by omega
      cases hc3 : cutQ 126 rst with
      | some pr =>
        obtain ⟨ws, slop⟩ := pr
        have hwl : (tb ws).size ≤ 1000 := by have := cutQ_len hc3; rw [tb_size] at hrl ⊢; omega
        have hsl : slop.length ≤ 1000 := by have := cutQ_len hc3; rw [tb_size] at hrl; omega
        have HQ : Hid (q = ⟨3, tb name, (cutS 43 5 ws).map tb, numS slop, 0, []⟩) := by show _ = _; rw [HLF.out, hc3]
        have hL4 := HL4.out
        rw [hc3] at hL4
        subst hL4
        have q4 : w5.cell? ⟨g4, 0, none⟩ = some (.string (tb ws)) := ownT_at ow4b (j := 0) (by simp)
        have q4b : w5.cell? ⟨g4, 1, none⟩ = some (.string (tb slop)) := ownT_at ow4b (j := 1) (by simp)
        have f0 := frozen_blk v5 0
        obtain ⟨y0, _, _, _, _, _⟩ := blk6 v5
        have v6 : (w5.setCell ⟨p, 0, none⟩ (.int .i64 3)).heap[p]? = some (.cells #[.int .i64 3, .string (tb name), .slice none 0 0, .int .i64 0, .int .i64 0, .slice none 0 0] 27 (0, 0)) := heap_setCell_same w5 p 0 _ _ (.int .i64 3) v5
        have r6 : (w5.setCell ⟨p, 0, none⟩ (.int .i64 3)).heap[w.heap.size]? = some (.cells #[.int .i64 0, .string ⟨#[]⟩, .slice none 0 0, .int .i64 0, .int .i64 0, .slice none 0 0] 27) := (heap_setCell_other w5 ⟨p, 0, none⟩ w.heap.size (.int .i64 3) (by show w.heap.size ≠ p; omega)).trans r5
        have hB6 : Below w.heap.size w (w5.setCell ⟨p, 0, none⟩ (.int .i64 3)) := hB5.setCell (p := ⟨p, 0, none⟩) (by show _ ≤ p; omega) _
        have hz6 : (w5.setCell ⟨p, 0, none⟩ (.int .i64 3)).heap.size = w5.heap.size := by simp
        have CD := l1Cut_any (tb ws) 43 _ rfl 5 _ rfl (w5.setCell ⟨p, 0, none⟩ (.int .i64 3)) hwl (by omega)
        rw [tb_list] at CD
        have CN := Lib.hid (fun V => l1Num_tb slop hsl V)
        have k6 : (w5.setCell ⟨p, 0, none⟩ (.int .i64 3)).cell? ⟨g4, 1, none⟩ = some (.string (tb slop)) := (World.cell?_of_block (w := w5) (a := ⟨g4, 1, none⟩) (heap_setCell_other w5 ⟨p, 0, none⟩ g4 _ (by show g4 ≠ p; omega))).trans q4b
        generalize numS slop = ms at HQ CN
        generalize (cutS 43 5 ws).map tb = M at HQ CD
        clear HLF HL4 HL5 v5 r5 x5 ow3c ow4b ow5 hB5 hc3
        go_wp2_with fail
        generalize (w5.setCell ⟨p, 0, none⟩ (.int .i64 3)) = W6 at v6 r6 hB6 hz6 CD k6 ⊢
        refine CD.mono ?_
        rintro e w7 ⟨g7, c7, ⟨rfl, ow7⟩, hb7⟩
        have v7 := (hb7.block p (by omega)).trans v6
        have r7 := (hb7.block w.heap.size (by omega)).trans r6
        have q7 := (belowL hb7 (o := 1) (show g4 < W6.heap.size by omega)).trans k6
        have o7c := OwnE.capOk ow7
        have HF := Lib.hid (SpR.sets (n := n) HQ.out ⟨OwnE.src ow7, o7c.1, o7c.2.1⟩ hpl (by have := o7c.2.2.1; omega) (by have := o7c.2.2.1; omega) (hB6.trans (hb7.mono hB6.size)))
        have hp7 : p ≠ g7 := by have := o7c.2.2.1; omega
        obtain ⟨y0, y1, y2, y3, y4, y5⟩ := blk6 v7
        have f2 := frozen_blk v7 2
        have f3 := frozen_blk v7 3
        obtain ⟨s0, s1, s2, s3, s4, s5⟩ := blk6 r7
        have t0 := frozen_blk r7 0
        have t1 := frozen_blk r7 1
        have t2 := frozen_blk r7 2
        have t3 := frozen_blk r7 3
        have t4 := frozen_blk r7 4
        have t5 := frozen_blk r7 5
        clear v6 r6 hB6 v7 r7 ow7 hb7 o7c HQ CD q4 q4b k6 hz6
        go_wp2_with fail
        refine (CN.out _).mono ?_
        rintro e w8 ⟨rfl, rfl⟩
        go_wp2
        exact bodyPost_ret (v := .agg #[.int .i64 3, .string (tb name), .slice (some ⟨g7, 0, none⟩) M.length c7, .int .i64 ms, .int .i64 0, .slice none 0 0]) (by simp [results, Tryz.results28, go_sem, *]) rfl (HF.out _ ((((((((((OnlyS.refl _ _).put (.inl rfl)).put (.inl rfl)).put (.inr rfl)).put (.inr rfl)).put (.inr rfl)).put (.inr rfl)).put (.inr rfl)).put (.inr rfl))))
      | none =>
        have HLF2 : Hid (q = match cutQ 37 rst with
          | some (wd, far) => ⟨4, tb name, [tb wd], numS far, 0, []⟩
          | none => if wordB (tb rst) = true then ⟨2, tb name, [tb rst], 0, 0, []⟩ else ⟨5, tb name, [tb rst], 0, 0, []⟩) := by
          show _ = _
          rw [HLF.out, hc3]
        have hL4 := HL4.out
        rw [hc3] at hL4
        subst hL4
        cases hc4 : cutQ 37 rst with
        | some pr =>
          obtain ⟨wd, far⟩ := pr
          have hfl : far.length ≤ 1000 := by have := cutQ_len hc4; rw [tb_size] at hrl; omega
          have HQ : Hid (q = ⟨4, tb name, [tb wd], numS far, 0, []⟩) := by show _ = _; rw [HLF2.out, hc4]
          have hL5 := HL5.out
          rw [hc4] at hL5
          subst hL5
          have q5 : w5.cell? ⟨g5, 1, none⟩ = some (.string (tb far)) := ownT_at ow5 (j := 1) (by simp)
          have o5c := OwnE.capOk ow5
          have hsrc : SrcT w5 (some ⟨g5, 0, none⟩) c5 [tb wd] := SrcE.take (k := 1) encT_ok (OwnE.src ow5) (by simp)
          have hcap : 2 ≤ c5 := by have := o5c.1; simpa using this
          have hcapi : (1 : Int) ≤ (c5 : Int) := by omega
          have CN := Lib.hid (fun V => l1Num_tb far hfl V)
          generalize numS far = ms at HQ CN
          have HF := Lib.hid (SpR.sets (n := n) HQ.out ⟨hsrc, by show 1 ≤ c5; omega, o5c.2.1⟩ hpl (by omega) (by omega) hB5)
          obtain ⟨y0, y1, y2, y3, y4, y5⟩ := blk6 v5
          have f0 := frozen_blk v5 0
          have f2 := frozen_blk v5 2
          have f3 := frozen_blk v5 3
          obtain ⟨s0, s1, s2, s3, s4, s5⟩ := blk6 r5
          have t0 := frozen_blk r5 0
          have t1 := frozen_blk r5 1
          have t2 := frozen_blk r5 2
          have t3 := frozen_blk r5 3
          have t4 := frozen_blk r5 4
          have t5 := frozen_blk r5 5
          clear HLF HLF2 HL4 HL5 v5 r5 x5 ow3c ow4b ow5 hB5 hc3 hc4 hsrc o5c HQ
          go_wp2_with fail
          refine (CN.out _).mono ?_
          rintro e w8 ⟨rfl, rfl⟩
          go_wp2
          exact bodyPost_ret (v := .agg #[.int .i64 4, .string (tb name), .slice (some ⟨g5, 0, none⟩) 1 c5, .int .i64 ms, .int .i64 0, .slice none 0 0]) (by simp [results, Tryz.results28, go_sem, *]) rfl (HF.out _ (((((((((((OnlyS.refl _ _).put (.inl rfl)).put (.inl rfl)).put (.inl rfl)).put (.inr rfl)).put (.inr rfl)).put (.inr rfl)).put (.inr rfl)).put (.inr rfl)).put (.inr rfl))))
        | none =>
          have HQ : Hid (q = if wordB (tb rst) = true then ⟨2, tb name, [tb rst], 0, 0, []⟩ else ⟨5, tb name, [tb rst], 0, 0, []⟩) := by show _ = _; rw [HLF2.out, hc4]
          have hL5 := HL5.out
          rw [hc4] at hL5
          subst hL5
          have hts : (tb rst).size ≤ 9223372036854775000 := by omega
          have o3c := OwnE.capOk ow3c
          have hcap : 2 ≤ c2 := by have := o3c.1; simpa using this
          have hcapi : (1 : Int) ≤ (c2 : Int) := by omega
          have hcn : ¬ c2 = 1 := by omega
          have hsrc : SrcT w5 (some ⟨g2, 0 + 1, none⟩) (c2 - 1) [tb rst] := SrcE.drop (k := 1) (L := [tb name, tb rst]) encT_ok (OwnE.src ow3c) rfl
          have hsq : SrcQ w5 (some ⟨g2, 0 + 1, none⟩) (c2 - 1) [tb rst] := ⟨hsrc, by show 1 ≤ c2 - 1; omega, by have := o3c.2.1; omega⟩
          clear HLF HLF2 HL4 HL5 ow3c ow4b ow5 hc3 hc4 hsrc o3c
          generalize tb rst = u at HQ hts hsq x5 ⊢
          go_wp2_with fail
          refine (l1WordOk_any u w5 hts).mono ?_
          rintro e w6 ⟨rfl, hb6⟩
          have v6 := (hb6.block p (by omega)).trans v5
          have r6 := (hb6.block w.heap.size (by omega)).trans r5
          have hsq6 := hsq.below hb6
          have hB6 := hB5.trans (hb6.mono hB5.size)
          obtain ⟨y0, y1, y2, y3, y4, y5⟩ := blk6 v6
          have f0 := frozen_blk v6 0
          have f2 := frozen_blk v6 2
          obtain ⟨s0, s1, s2, s3, s4, s5⟩ := blk6 r6
          have t0 := frozen_blk r6 0
          have t1 := frozen_blk r6 1
          have t2 := frozen_blk r6 2
          have t3 := frozen_blk r6 3
          have t4 := frozen_blk r6 4
          have t5 := frozen_blk r6 5
          clear v5 r5 v6 r6 hsq hb6 hB5 x5
          cases hw : wordB u with
          | true =>
            have HF := Lib.hid (SpR.sets (n := n) (HQ.out.trans (if_pos hw)) hsq6 hpl (by omega) (by omega) hB6)
            clear hsq6 hB6 HQ hts
            go_wp2
            exact bodyPost_ret (v := .agg #[.int .i64 2, .string (tb name), .slice (some ⟨g2, 0 + 1, none⟩) 1 (c2 - 1), .int .i64 0, .int .i64 0, .slice none 0 0]) (by simp [results, Tryz.results28, go_sem, *]) rfl (HF.out _ ((((((((((OnlyS.refl _ _).put (.inl rfl)).put (.inl rfl)).put (.inr rfl)).put (.inr rfl)).put (.inr rfl)).put (.inr rfl)).put (.inr rfl)).put (.inr rfl))))
          | false =>
            have HF := Lib.hid (SpR.sets (n := n) (HQ.out.trans (if_neg (by rw [hw]; decide))) hsq6 hpl (by omega) (by omega) hB6)
            clear hsq6 hB6 HQ hts
            go_wp2
            exact bodyPost_ret (v := .agg #[.int .i64 5, .string (tb name), .slice (some ⟨g2, 0 + 1, none⟩) 1 (c2 - 1), .int .i64 0, .int .i64 0, .slice none 0 0]) (by simp [results, Tryz.results28, go_sem, *]) rfl (HF.out _ ((((((((((OnlyS.refl _ _).put (.inl rfl)).put (.inl rfl)).put (.inr rfl)).put (.inr rfl)).put (.inr rfl)).put (.inr rfl)).put (.inr rfl)).put (.inr rfl))))
end Go.Proofs.YtaobgliimbmemaaGreatDoor
