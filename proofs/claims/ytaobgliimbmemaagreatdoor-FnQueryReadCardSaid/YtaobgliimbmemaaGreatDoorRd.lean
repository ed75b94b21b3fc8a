/-
  The reader of drawn bytes: contracts of l30Open, pick, one.
-/
import Derived.Test.YtaobgliimbmemaaGreatDoorBase
import Derived.Laws.BitsAllLaws
import Derived.Deep.RegionHeld3
import Derived.Laws.OwnMore
namespace Go.Proofs.YtaobgliimbmemaaGreatDoor
open Go.RowKit
set_option linter.unusedVariables false

/-- the code's bytes: at most 2000 of them, in a block below g. -/
def Code8 (w : World) (g : Nat) (a : Option Addr) (len : Nat) (zs : List Int) : Prop :=
  len ≤ 2000 ∧ (0 < len → ∃ b off, a = some ⟨b, off, none⟩ ∧ b < g ∧ (∀ i, i < len → w.cell? ⟨b, off + i, none⟩ = some (.int .u8 (zs.getD i 0))) ∧ ∀ i, i < len → 0 ≤ zs.getD i 0 ∧ zs.getD i 0 ≤ 255)
/-- block g is a reader that has read p times. -/
def Rd (w : World) (g p : Nat) : Prop :=
  ∃ a len cap zs, w.heap[g]? = some (.cells #[.slice a len cap, .int .i64 (p : Int)] 47 (0, 0)) ∧ Code8 w g a len zs ∧ p ≤ 1000000

theorem ofInt_i64 (a : Nat) (ha : a < 9223372036854775808) : (BitVec.ofInt 64 (a : Int)).toNat = a := by
  rw [BitVec.ofInt_natCast, BitVec.toNat_ofNat]; exact Nat.mod_eq_of_lt (by omega)
theorem i64_xor_nat (a b : Nat) (ha : a < 9223372036854775808) (hb : b < 9223372036854775808) : bits .xor .i64 (a : Int) (b : Int) = ((a ^^^ b : Nat) : Int) := by
  have hx : a ^^^ b < 2 ^ 63 := Nat.xor_lt_two_pow (by omega) (by omega)
  show IntKind.i64.wrap ((BitVec.ofInt 64 (a : Int) ^^^ BitVec.ofInt 64 (b : Int)).toNat : Int) = _
  rw [BitVec.toNat_xor, ofInt_i64 a ha, ofInt_i64 b hb, IntKind.wrap_i64]
  omega
theorem xor64 (x : Int) (h0 : 0 ≤ x) (h1 : x ≤ 1000000000) : ∃ y : Int, bits .xor .i64 x (x / 64) = y ∧ 0 ≤ y := by
  obtain ⟨n, rfl⟩ := Int.eq_ofNat_of_zero_le h0
  have e : ((n : Int) / 64) = ((n / 64 : Nat) : Int) := by omega
  exact ⟨_, rfl, by rw [e, i64_xor_nat _ _ (by omega) (by omega)]; omega⟩

theorem pick_any (g p : Nat) (n : Int) (hn1 : 1 ≤ n) (hn2 : n ≤ 1000000) (w : World) (hr : Rd w g p) (hp : p < 1000000) :
    Calls Tryz.prog 21 #[.pointer (some ⟨g, 0, none⟩), .int .i64 n] w fun e w' => ∃ v : Int, (e = .returned (.int .i64 v) ∧ 0 ≤ v ∧ v < n) ∧ ∃ q, w' = (w.setCell ⟨g, 1, none⟩ (.int .i64 ((p : Int) + 1))).drewN q := by
  obtain ⟨a, len, cap, zs, hb, ⟨hl, hc⟩, _⟩ := hr
  have c0 : w.cell? ⟨g, 0, none⟩ = some (.slice a len cap) := by simp [World.cell?, hb]
  have c1 : w.cell? ⟨g, 1, none⟩ = some (.int .i64 p) := by simp [World.cell?, hb]
  have f1 : w.frozen? ⟨g, 1, none⟩ = false := by simp [World.frozen?, hb]
  have d0 : (w.setCell ⟨g, 1, none⟩ (.int .i64 ((p : Int) + 1))).cell? ⟨g, 0, none⟩ = some (.slice a len cap) := by
    rw [World.cell?_setCell_other _ _ _ _ (by simp)]; exact c0
  have d1 : (w.setCell ⟨g, 1, none⟩ (.int .i64 ((p : Int) + 1))).cell? ⟨g, 1, none⟩ = some (.int .i64 ((p : Int) + 1)) := by
    simp [World.cell?, World.setCell, Array.getElem?_modify, hb]
  clear hb
  rcases Nat.eq_zero_or_pos len with rfl | hlen
  · go_enter Tryz.func21, Tryz.ntmps21
    go_wp2
    go_ret
    exact ⟨0, ⟨rfl, by omega, by omega⟩, 0, rfl⟩
  · obtain ⟨b, off, rfl, hbg, hcell, hrange⟩ := hc hlen
    have hne : ((len : Int) == 0) = false := by simp; omega
    by_cases hk : p < len
    · have hx := hcell p hk
      have e0 : (w.setCell ⟨g, 1, none⟩ (.int .i64 ((p : Int) + 1))).cell? ⟨b, off + p, none⟩ = some (.int .u8 (zs.getD p 0)) := by
        rw [World.cell?_setCell_other _ _ _ _ (by intro h; injection h; omega)]; exact hx
      obtain ⟨h1, h2⟩ := hrange p hk
      obtain ⟨z, hz⟩ : ∃ z, z = zs.getD p 0 := ⟨_, rfl⟩
      rw [← hz] at e0 h1 h2
      clear hx hz hcell hrange hc
      have hm1 : 0 ≤ z % n := Int.emod_nonneg _ (by omega)
      have hm2 : z % n < n := Int.emod_lt_of_pos _ (by omega)
      go_enter Tryz.func21, Tryz.ntmps21
      go_wp2
      go_ret
      exact ⟨z % n, ⟨rfl, hm1, hm2⟩, 0, rfl⟩
    · have i1 : (p : Int) % (len : Int) = ((p % len : Nat) : Int) := by simp
      have i2 : ((p : Int) * 7 + 3) % (len : Int) = (((p * 7 + 3) % len : Nat) : Int) := by simp
      have l1 : p % len < len := Nat.mod_lt _ hlen
      have l2 : (p * 7 + 3) % len < len := Nat.mod_lt _ hlen
      have e1 : (w.setCell ⟨g, 1, none⟩ (.int .i64 ((p : Int) + 1))).cell? ⟨b, off + (p % len), none⟩ = some (.int .u8 (zs.getD (p % len) 0)) := by
        rw [World.cell?_setCell_other _ _ _ _ (by intro h; injection h; omega)]; exact hcell _ l1
      have e2 : (w.setCell ⟨g, 1, none⟩ (.int .i64 ((p : Int) + 1))).cell? ⟨b, off + ((p * 7 + 3) % len), none⟩ = some (.int .u8 (zs.getD ((p * 7 + 3) % len) 0)) := by
        rw [World.cell?_setCell_other _ _ _ _ (by intro h; injection h; omega)]; exact hcell _ l2
      obtain ⟨h1, h2⟩ := hrange _ l1
      obtain ⟨h3, h4⟩ := hrange _ l2
      obtain ⟨z1, hz1⟩ : ∃ z, z = zs.getD (p % len) 0 := ⟨_, rfl⟩
      obtain ⟨z2, hz2⟩ : ∃ z, z = zs.getD ((p * 7 + 3) % len) 0 := ⟨_, rfl⟩
      rw [← hz1] at e1 h1 h2
      rw [← hz2] at e2 h3 h4
      clear hz1 hz2 hcell hrange hc
      obtain ⟨q1, hq1⟩ : ∃ q, q = p % len := ⟨_, rfl⟩
      obtain ⟨q2, hq2⟩ : ∃ q, q = (p * 7 + 3) % len := ⟨_, rfl⟩
      rw [← hq1] at i1 l1 e1
      rw [← hq2] at i2 l2 e2
      clear hq1 hq2
      have hd0 : 0 ≤ (p : Int) / (len : Int) := Int.ediv_nonneg (by omega) (by omega)
      have hd1 : (p : Int) / (len : Int) ≤ p := Int.ediv_le_self _ (by omega)
      go_enter Tryz.func21, Tryz.ntmps21
      go_wp2
      go_quiet (fail)
      generalize hx : (z1 * 131 + z2 * 1117 + (p : Int) * 29 + (p : Int) / (len : Int) * 53) = x
      have hx0 : 0 ≤ x := by omega
      have hx1 : x ≤ 1000000000 := by omega
      clear hx
      obtain ⟨y, hy, hy0⟩ := xor64 x hx0 hx1
      have hm1 : 0 ≤ y % n := Int.emod_nonneg _ (by omega)
      have hm2 : y % n < n := Int.emod_lt_of_pos _ (by omega)
      go_wp2
      go_ret
      exact ⟨y % n, ⟨rfl, hm1, hm2⟩, _, rfl⟩

theorem rd_next {w : World} {g p : Nat} (hr : Rd w g p) (hp : p < 1000000) (q : Nat) : Rd ((w.setCell ⟨g, 1, none⟩ (.int .i64 ((p : Int) + 1))).drewN q) g (p + 1) := by
  obtain ⟨a, len, cap, zs, hb, ⟨hl, hc⟩, _⟩ := hr
  refine ⟨a, len, cap, zs, ?_, ⟨hl, fun h => ?_⟩, by omega⟩
  · show (w.setCell ⟨g, 1, none⟩ (.int .i64 ((p : Int) + 1))).heap[g]? = _
    simp [World.setCell, Array.getElem?_modify, hb]
  · obtain ⟨b, off, e, hbg, hcell, hrange⟩ := hc h
    refine ⟨b, off, e, hbg, fun i hi => ?_, hrange⟩
    show (w.setCell ⟨g, 1, none⟩ (.int .i64 ((p : Int) + 1))).cell? _ = _
    rw [World.cell?_setCell_other _ _ _ _ (by intro h; injection h; omega)]
    exact hcell i hi
theorem Rd.lt {w : World} {g p : Nat} (h : Rd w g p) : g < w.heap.size := by
  obtain ⟨_, _, _, _, h, _⟩ := h
  rcases Nat.lt_or_ge g w.heap.size with hl | hl
  · exact hl
  · rw [Array.getElem?_eq_none hl] at h; cases h
/-- what turns nothing up to the reader's block leaves the reader. -/
theorem Rd.below {w w' : World} {g p : Nat} (h : Rd w g p) (hb : Below (g + 1) w w') : Rd w' g p := by
  obtain ⟨a, len, cap, zs, hh, ⟨hl, hc⟩, hp⟩ := h
  refine ⟨a, len, cap, zs, (hb.block g (by omega)).trans hh, ⟨hl, fun h0 => ?_⟩, hp⟩
  obtain ⟨b, off, e, hbg, hcell, hr⟩ := hc h0
  exact ⟨b, off, e, hbg, fun i hi => (hb.cell (p := ⟨b, off + i, none⟩) (show b < g + 1 by omega)).trans (hcell i hi), hr⟩
theorem Rd.fit {w : World} {g p : Nat} (h : Rd w g p) : p ≤ 1000000 := by obtain ⟨_, _, _, _, _, _, h⟩ := h; exact h
/-- below block B, but for block g, w' is as w was. -/
def Outer (B g : Nat) (w w' : World) : Prop :=
  (w'.os = w.os ∧ w'.tape = w.tape ∧ w'.output = w.output) ∧ w.heap.size ≤ w'.heap.size ∧ ∀ k, k < B → k ≠ g → w'.heap[k]? = w.heap[k]?
theorem Outer.refl (B g : Nat) (w : World) : Outer B g w w := ⟨⟨rfl, rfl, rfl⟩, Nat.le_refl _, fun _ _ _ => rfl⟩
theorem Outer.trans {B g : Nat} {a b c : World} (h : Outer B g a b) (k : Outer B g b c) : Outer B g a c :=
  ⟨⟨k.1.1.trans h.1.1, k.1.2.1.trans h.1.2.1, k.1.2.2.trans h.1.2.2⟩, Nat.le_trans h.2.1 k.2.1, fun i hi hn => (k.2.2 i hi hn).trans (h.2.2 i hi hn)⟩
theorem Outer.mono {B B' g : Nat} {a b : World} (h : Outer B g a b) (hB : B' ≤ B) : Outer B' g a b := ⟨h.1, h.2.1, fun k hk hn => h.2.2 k (Nat.lt_of_lt_of_le hk hB) hn⟩
theorem Outer.of {B g : Nat} {a b : World} (h : Below B a b) : Outer B g a b := ⟨⟨h.os, h.tape, h.output⟩, h.size, fun k hk _ => h.block k hk⟩
theorem Outer.below {B g : Nat} {a b c : World} (h : Outer B g a b) (k : Below B b c) : Outer B g a c := h.trans (Outer.of k)
/-- where the reader's block is a new one, nothing below has turned. -/
theorem Outer.under {B g : Nat} {a b : World} (h : Outer B g a b) {B' : Nat} (hB : B' ≤ B) (hg : B' ≤ g) : Below B' a b :=
  ⟨h.1.1, h.1.2.1, h.1.2.2, h.2.1, fun k hk => h.2.2 k (Nat.lt_of_lt_of_le hk hB) (by omega)⟩
theorem Outer.cells {W w1 : World} {g B : Nat} (h : Outer B g W w1) : (∀ b o, b < B → b ≠ g → w1.cell? ⟨b, o, none⟩ = W.cell? ⟨b, o, none⟩) ∧ (∀ b o, b < B → b ≠ g → w1.frozen? ⟨b, o, none⟩ = W.frozen? ⟨b, o, none⟩) :=
  ⟨fun b o hb hne => World.cell?_of_block (w := W) (a := ⟨b, o, none⟩) (h.2.2 b hb hne), fun b o hb hne => World.frozen?_of_block (w := W) (a := ⟨b, o, none⟩) (h.2.2 b hb hne)⟩
/-- what a drawing function leaves: the reader has read on, at most k times; new blocks; nothing else has turned. -/
def Gen (w w' : World) (g p k : Nat) : Prop := ∃ p', p' ≤ p + k ∧ Rd w' g p' ∧ Outer w.heap.size g w w'
theorem Gen.rd {w w' : World} {g p k : Nat} (h : Gen w w' g p k) : ∃ p', p' ≤ p + k ∧ Rd w' g p' := by obtain ⟨p', h1, h2, _⟩ := h; exact ⟨p', h1, h2⟩
theorem Gen.outer {w w' : World} {g p k : Nat} (h : Gen w w' g p k) : Outer w.heap.size g w w' := by obtain ⟨p', _, _, h⟩ := h; exact h
theorem gen_of_set {w : World} {g p : Nat} (hr : Rd w g p) (hp : p < 1000000) (q : Nat) : Gen w ((w.setCell ⟨g, 1, none⟩ (.int .i64 ((p : Int) + 1))).drewN q) g p 1 :=
  ⟨p + 1, Nat.le_refl _, rd_next hr hp q, ⟨rfl, rfl, rfl⟩, by simp [World.setCell], fun k hk hne => by
    show (w.setCell ⟨g, 1, none⟩ (.int .i64 ((p : Int) + 1))).heap[k]? = _
    exact Below.heap_setCell _ _ _ _ hne⟩
theorem pick_gen (g p : Nat) (n : Int) (hn1 : 1 ≤ n) (hn2 : n ≤ 1000000) (w : World) (hr : Rd w g p) (hp : p < 1000000) :
    Calls Tryz.prog 21 #[.pointer (some ⟨g, 0, none⟩), .int .i64 n] w fun e w' => ∃ v : Int, (e = .returned (.int .i64 v) ∧ 0 ≤ v ∧ v < n) ∧ Gen w w' g p 1 :=
  (pick_any g p n hn1 hn2 w hr hp).mono fun e w' ⟨v, h, q, hw⟩ => ⟨v, h, by subst hw; exact gen_of_set hr hp q⟩
end Go.Proofs.YtaobgliimbmemaaGreatDoor
