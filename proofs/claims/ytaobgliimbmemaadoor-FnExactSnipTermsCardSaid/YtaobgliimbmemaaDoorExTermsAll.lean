/-
  FnExactSnipTerms: sizes, rows of the call's own, marks, the walk, in one text.
-/
import Derived.Test.YtaobgliimbmemaaDoorQd
import Derived.Test.YtaobgliimbmemaaDoorQdTo2
import Derived.Test.YtaobgliimbmemaaDoorMark2
import Derived.Test.YtaobgliimbmemaaDoorConfMark
import Derived.Deep.RegionHeld3
import Derived.Deep.RegionLaw
import Derived.Test.YtaobgliimbmemaaDoorTermsAll
set_option linter.unusedVariables false
set_option linter.unusedSimpArgs false
namespace Go.Proofs.YtaobgliimbmemaaDoor
open Go.RowKit Go.Sort

def SzF (left : Int) (Q : Int → Prop) (w : World) (e : Ending) (w' : World) : Prop := ∃ r : Int, (e = .returned (.int .i64 r) ∧ r ≤ left ∧ (r < 0 ∨ Q r)) ∧ Below w.heap.size w w'
/-- how many words and nodes there are below. -/
def cntQ : Nat → QD → Nat
  | 0, _ => 0
  | n + 1, q => q.ws.length + q.ks.length + (q.ks.map (cntQ n)).sum
def cntK (n : Nat) (L : List QD) : Nat := (L.map (cntQ n)).sum
theorem cntK_nil (n : Nat) : cntK n [] = 0 := rfl
theorem cntK_snoc (n : Nat) {L : List QD} {k : Nat} (hk : k < L.length) : cntK n (L.take (k + 1)) = cntK n (L.take k) + cntQ n L[k] := by
  unfold cntK
  rw [← List.take_append_getElem hk, List.map_append, List.sum_append]
  simp
theorem cntQ_eq (n : Nat) (q : QD) : cntQ (n + 1) q = q.ws.length + q.ks.length + cntK n q.ks := rfl
def SzN (n : Nat) : Prop := ∀ (q : QD) (A : Option Addr) (c : Nat) (B : Option Addr) (d : Nat) (left : Int) (w : World), HasQ n w q A c B → LmQ 9223372036854775807 n q → 0 ≤ left → left ≤ 1048576 →
  Calls Tryd.prog 22 #[.agg #[.int .i64 q.kd, .string q.fd, .slice A q.ws.length c, .int .i64 q.fr, .int .i64 q.tgt, .slice B q.ks.length d], .int .i64 left] w (SzF left (fun r => LmQ 1048576 n q ∧ (cntQ n q : Int) ≤ left - r) w)
theorem szStringS_n (A : Option Addr) (c : Nat) (L : List ByteArray) (left : Int) (w : World) (h : SrcT w A c L) (hL : L.length ≤ 9223372036854775807) (hb : ∀ s ∈ L, s.size ≤ 9223372036854775807) (h0 : 0 ≤ left) (h1 : left ≤ 1048576) :
    Calls Tryd.prog 48 #[.slice A L.length c, .int .i64 left] w (SzF left (fun r => SmT L ∧ (L.length : Int) ≤ left - r) w) := by
  by_cases h2 : left - (L.length : Int) < 0
  · go_enter Tryd.func48, Tryd.ntmps48
    go_wp2
    go_ret
    exact ⟨-1, ⟨rfl, by omega, .inl (by omega)⟩, Below.refl _ _⟩
  · have HL := Lib.hid hb
    clear hb
    have hl6 : L.length ≤ 1048576 := by omega
    go_enter Tryd.func48, Tryd.ntmps48
    go_wp2_with fail
    go_loopw [1, 5] (fun m i wr => ∃ k : Nat, k ≤ L.length ∧ i = .int .i64 k ∧ ∃ r : Int, m = .int .i64 r ∧ 0 ≤ r ∧ r ≤ left - L.length ∧ Hid (∀ f ∈ L.take k, f.size ≤ 1048576) ∧ wr = w) (fun _ i _ => L.length - (intOf i).toNat)
    case atStart => exact ⟨0, Nat.zero_le _, rfl, _, rfl, by omega, by omega, fun f hf => by simp at hf, rfl⟩
    case round =>
      obtain ⟨k, hk, rfl, r, rfl, hr0, hrl, hr, rfl⟩ := hrel
      have hr1 : r ≤ 1048576 := by omega
      by_cases hlt : k < L.length
      · obtain ⟨b, off, rfl, hbb, x0⟩ := h.atT hlt
        have hi0 : (k : Int) < (L.length : Int) := by omega
        have hb1 := HL.out L[k] (List.getElem_mem _)
        have HT : Hid (L[k].size ≤ 1048576 → ∀ f ∈ L.take (k + 1), f.size ≤ 1048576) := fun h5 f hf => by
          rw [← List.take_append_getElem hlt, List.mem_append] at hf
          rcases hf with hf | hf
          · exact hr.out f hf
          · simp at hf; rw [hf]; exact h5
        clear hr
        generalize L[k] = x at x0 hb1 HT
        by_cases hneg : r - (x.size : Int) < 0
        · go_wp2
          go_ret
          exact ⟨-1, ⟨rfl, by omega, .inl (by omega)⟩, Below.refl _ _⟩
        · have hr2 : Hid (∀ f ∈ L.take (k + 1), f.size ≤ 1048576) := HT.out (by omega)
          clear HT
          go_wp2
          go_roundw
          case rel => exact ⟨k + 1, by omega, by go_num, _, rfl, by omega, by omega, hr2, by first | rfl | trivial⟩
          case measure => simp [intOf]; omega
      · have hr2 : Hid (∀ f ∈ L, f.size ≤ 1048576) := fun f hf => hr.out f (by rw [List.take_of_length_le (by omega)]; exact hf)
        clear hr
        go_wp2
        go_ret
        exact ⟨_, ⟨rfl, by omega, .inr ⟨⟨hl6, hr2.out⟩, by omega⟩⟩, Below.refl _ _⟩
theorem szQueryS_n (n : Nat) (IH : SzN n) (B : Option Addr) (d : Nat) (Ks : List QD) (left : Int) (w : World) (h : RdK (HasQ n) w B Ks) (hl : Ks.length ≤ 9223372036854775807) (hb : ∀ y ∈ Ks, LmQ 9223372036854775807 n y) (h0 : 0 ≤ left) (h1 : left ≤ 1048576) :
    Calls Tryd.prog 49 #[.slice B Ks.length d, .int .i64 left] w (SzF left (fun r => (Ks.length ≤ 1048576 ∧ ∀ y ∈ Ks, LmQ 1048576 n y) ∧ ((Ks.length + cntK n Ks : Nat) : Int) ≤ left - r) w) := by
  by_cases h2 : left - (Ks.length : Int) < 0
  · go_enter Tryd.func49, Tryd.ntmps49
    go_wp2
    go_ret
    exact ⟨-1, ⟨rfl, by omega, .inl (by omega)⟩, Below.refl _ _⟩
  · have HL := Lib.hid hb
    have HI := Lib.hid IH
    clear hb IH
    have hl6 : Ks.length ≤ 1048576 := by omega
    go_enter Tryd.func49, Tryd.ntmps49
    go_wp2_with fail
    go_loopw [1, 5] (fun m i wr => ∃ k : Nat, k ≤ Ks.length ∧ i = .int .i64 k ∧ ∃ r : Int, m = .int .i64 r ∧ 0 ≤ r ∧ r ≤ left ∧ Hid ((∀ d ∈ Ks.take k, LmQ 1048576 n d) ∧ r + ((Ks.length + cntK n (Ks.take k) : Nat) : Int) ≤ left) ∧ Below w.heap.size w wr) (fun _ i _ => Ks.length - (intOf i).toNat)
    case atStart => exact ⟨0, Nat.zero_le _, rfl, _, rfl, by omega, by omega, ⟨fun f hf => by simp at hf, by rw [show Ks.take 0 = [] from rfl, cntK_nil]; omega⟩, Below.refl _ _⟩
    case round =>
      obtain ⟨k, hk, rfl, r, rfl, hr0, hrl, hr, hB⟩ := hrel
      have hr1 : r ≤ 1048576 := by omega
      by_cases hlt : k < Ks.length
      · obtain ⟨b, off, A1, c1, B1, d1, rfl, hbb, x0, x1, x2, x3, x4, x5, hh⟩ := (rdQ_below h hB).cells hlt
        have hi0 : (k : Int) < (Ks.length : Int) := by omega
        have hb1 := Lib.hid (HL.out Ks[k] (List.getElem_mem _))
        have hh := Lib.hid hh
        go_wp2_with fail
        refine (HI.out Ks[k] A1 c1 B1 d1 r _ hh.out hb1.out hr0 hr1).mono ?_
        rintro e w1 ⟨r2, ⟨rfl, h3, h4⟩, hb2⟩
        have hB2 := hB.trans (hb2.mono hB.size)
        by_cases hneg : r2 < 0
        · go_wp2
          go_ret
          exact ⟨-1, ⟨rfl, by omega, .inl (by omega)⟩, hB2⟩
        · have h5 := h4.resolve_left (by omega)
          have hr2 : Hid ((∀ d ∈ Ks.take (k + 1), LmQ 1048576 n d) ∧ r2 + ((Ks.length + cntK n (Ks.take (k + 1)) : Nat) : Int) ≤ left) := by
            refine ⟨fun f hf => ?_, ?_⟩
            · rw [← List.take_append_getElem hlt, List.mem_append] at hf
              rcases hf with hf | hf
              · exact hr.out.1 f hf
              · simp at hf; rw [hf]; exact h5.1
            · have := hr.out.2
              have := h5.2
              rw [cntK_snoc n hlt]
              omega
          clear hr h4 h5
          go_wp2
          go_roundw
          case rel => exact ⟨k + 1, by omega, by go_num, _, rfl, by omega, by omega, hr2, hB2⟩
          case measure => simp [intOf]; omega
      · have hr2 : Hid (((Ks.length ≤ 1048576) ∧ ∀ d ∈ Ks, LmQ 1048576 n d) ∧ ((Ks.length + cntK n Ks : Nat) : Int) ≤ left - r) := by
          have h9 := hr.out
          rw [List.take_of_length_le (by omega)] at h9
          exact ⟨⟨hl6, h9.1⟩, by omega⟩
        clear hr
        go_wp2
        go_ret
        exact ⟨_, ⟨rfl, by omega, .inr hr2.out⟩, hB⟩
theorem szQuery_n : ∀ n, SzN n
  | 0 => fun q A c B d left w h _ _ _ => h.elim
  | n + 1 => fun q A c B d left w h hb h0 h1 => by
    have IH := Lib.hid (szQuery_n n)
    have ⟨hf1, hw1, hw2, hk1, hk2⟩ := hb
    have ⟨hS, hK⟩ := h
    have HK := Lib.hid hK
    have HW := Lib.hid hw2
    have HK2 := Lib.hid hk2
    have hB0 : Below w.heap.size w (w.alloc (.cells #[.int .i64 q.kd, .string q.fd, .slice A q.ws.length c, .int .i64 q.fr, .int .i64 q.tgt, .slice B q.ks.length d] 38)) := (Below.refl _ _).alloc (Nat.le_refl _) _
    have f2 : (w.alloc (.cells #[.int .i64 q.kd, .string q.fd, .slice A q.ws.length c, .int .i64 q.fr, .int .i64 q.tgt, .slice B q.ks.length d] 38)).cell? ⟨w.heap.size, 2, none⟩ = some (.slice A q.ws.length c) := by simp [go_sem]
    have f1 : (w.alloc (.cells #[.int .i64 q.kd, .string q.fd, .slice A q.ws.length c, .int .i64 q.fr, .int .i64 q.tgt, .slice B q.ks.length d] 38)).cell? ⟨w.heap.size, 1, none⟩ = some (.string q.fd) := by simp [go_sem]
    have f5 : (w.alloc (.cells #[.int .i64 q.kd, .string q.fd, .slice A q.ws.length c, .int .i64 q.fr, .int .i64 q.tgt, .slice B q.ks.length d] 38)).cell? ⟨w.heap.size, 5, none⟩ = some (.slice B q.ks.length d) := by simp [go_sem]
    have hs0 : w.heap.size < (w.alloc (.cells #[.int .i64 q.kd, .string q.fd, .slice A q.ws.length c, .int .i64 q.fr, .int .i64 q.tgt, .slice B q.ks.length d] 38)).heap.size := by simp
    clear h hb hK hw2 hk2
    go_enter Tryd.func22, Tryd.ntmps22
    by_cases hn0 : left - (q.fd.size : Int) < 0
    · go_wp2
      go_ret
      exact ⟨-1, ⟨rfl, by omega, .inl (by omega)⟩, hB0⟩
    · go_wp2_with fail
      generalize (w.alloc (.cells #[.int .i64 q.kd, .string q.fd, .slice A q.ws.length c, .int .i64 q.fr, .int .i64 q.tgt, .slice B q.ks.length d] 38)) = W0 at hB0 f1 f2 f5 hs0 ⊢
      refine (szStringS_n A c q.ws (left - (q.fd.size : Int)) _ (hS.below hB0).1 hw1 HW.out (by omega) (by omega)).mono ?_
      rintro e w1 ⟨r, ⟨rfl, hr1, hr2⟩, hb1⟩
      have hB1 := hB0.trans (hb1.mono hB0.size)
      by_cases hn : r < 0
      · go_wp2
        go_ret
        exact ⟨-1, ⟨rfl, by omega, .inl (by omega)⟩, hB1⟩
      · have g5 := (hb1.cell (p := ⟨w.heap.size, 5, none⟩) hs0).trans f5
        have h5 := Lib.hid (hr2.resolve_left (by omega))
        clear hr2
        go_wp2_with fail
        refine (szQueryS_n n IH.out B d q.ks r _ (rdQ_below HK.out hB1) hk1 HK2.out (by omega) (by omega)).mono ?_
        rintro e w2 ⟨r2, ⟨rfl, hr3, hr4⟩, hb2⟩
        have hB2 := hB1.trans (hb2.mono hB1.size)
        by_cases hn2 : r2 < 0
        · go_wp2
          go_ret
          exact ⟨-1, ⟨rfl, by omega, .inl (by omega)⟩, hB2⟩
        · have h6 := hr4.resolve_left (by omega)
          have hsm : Hid (LmQ 1048576 (n + 1) q ∧ (cntQ (n + 1) q : Int) ≤ left - r2) := ⟨⟨by omega, h5.out.1.1, h5.out.1.2, h6.1.1, h6.1.2⟩, by
            have a := h5.out.2
            have b := h6.2
            rw [cntQ_eq]
            omega⟩
          clear h6 hr4 h5
          go_wp2
          go_ret
          exact ⟨_, ⟨rfl, by omega, .inr hsm.out⟩, hB2⟩
end Go.Proofs.YtaobgliimbmemaaDoor
namespace Go.Proofs.YtaobgliimbmemaaDoor
open Go.RowKit Go.Sort

abbrev PS := Nat → Prop
def Dis (S T : PS) : Prop := ∀ k, S k → ¬ T k
def Sub (S T : PS) : Prop := ∀ k, S k → T k
theorem Sub.rfl_ (S : PS) : Sub S S := fun _ h => h
theorem Sub.tr {S T U : PS} (h : Sub S T) (k : Sub T U) : Sub S U := fun i hi => k i (h i hi)
/-- the blocks of S stand as they stood. -/
def SameS (S : PS) (w w' : World) : Prop := ∀ k, S k → k < w.heap.size → w'.heap[k]? = w.heap[k]?
theorem SameS.sub {S T : PS} {w w' : World} (h : SameS T w w') (hs : Sub S T) : SameS S w w' := fun k h1 h2 => h k (hs k h1) h2
theorem SameS.only {S T : PS} {w w' : World} (h : OnlyS T w w') (hd : Dis S T) : SameS S w w' := fun k h1 h2 => h.2.2 k h2 (hd k h1)
theorem SameS.below {S : PS} {w w' : World} (h : Below w.heap.size w w') : SameS S w w' := fun k _ h2 => h.block k h2
structure HdR where
  q : QD
  A : Option Addr
  c : Nat
  B : Option Addr
  d : Nat
def encHR (h : HdR) : List Value := encQ h.q h.A h.c h.B h.d
theorem encHR_ok : Enc encHR 6 := ⟨fun _ => rfl, fun a u hu => by simp [encHR, encQ] at hu; rcases hu with rfl | rfl | rfl | rfl | rfl | rfl <;> rfl⟩
abbrev HM := PS → World → HdR → Prop
/-- each of the list has its own part of S. -/
def ZnQ (M : HM) (w : World) : PS → List HdR → Prop
  | _, [] => True
  | S, m :: r => ∃ S1 S2 : PS, Sub S1 S ∧ Sub S2 S ∧ Dis S1 S2 ∧ M S1 w m ∧ ZnQ M w S2 r
def OwnW (S : PS) (w : World) (A : Option Addr) (c : Nat) (L : List ByteArray) : Prop :=
  (A = none ∧ c = 0 ∧ L = []) ∨ ∃ a : Nat, A = some ⟨a, 0, none⟩ ∧ S a ∧ OwnT w 0 a c L
def OwnKs (M : HM) (S : PS) (w : World) (B : Option Addr) (d : Nat) (L : List QD) : Prop :=
  (B = none ∧ d = 0 ∧ L = []) ∨ ∃ (b : Nat) (hv : List HdR) (S' : PS), B = some ⟨b, 0, none⟩ ∧ S b ∧ Sub S' S ∧ ¬ S' b ∧ L = hv.map (·.q) ∧ OwnE encHR 26 6 w 0 b d hv ∧ ZnQ M w S' hv
def OwnQ : Nat → HM
  | 0 => fun _ _ _ => False
  | n + 1 => fun S w h => ∃ S1 S2 : PS, Sub S1 S ∧ Sub S2 S ∧ Dis S1 S2 ∧ OwnW S1 w h.A h.c h.q.ws ∧ OwnKs (OwnQ n) S2 w h.B h.d h.q.ks

theorem own_blk {w w' : World} {base e size n g c : Nat} {xs : List Value} (h : w.ownsRow base e size (.slice (some ⟨g, 0, none⟩) n c) n xs) (hg : w'.heap[g]? = w.heap[g]?) : w'.ownsRow base e size (.slice (some ⟨g, 0, none⟩) n c) n xs := by
  refine ⟨h.1, ?_⟩
  rcases h.2 with ⟨hbad, hx⟩ | ⟨g', cap, cur, hv, hb, hh, h3, h4, h5, h6⟩
  · exact .inl ⟨hbad, hx⟩
  · simp only [Value.slice.injEq, Option.some.injEq, Addr.mk.injEq, and_true, true_and] at hv
    obtain ⟨rfl, rfl⟩ := hv
    exact .inr ⟨g, c, cur, rfl, hb, hg.trans hh, h3, h4, h5, h6⟩
theorem ownE_same {α : Type} {enc : α → List Value} {E F : Nat} {S : PS} {w w' : World} {b c : Nat} {L : List α} (h : OwnE enc E F w 0 b c L) (hb : S b) (hk : SameS S w w') : OwnE enc E F w' 0 b c L := own_blk h (hk b hb (OwnE.capOk h).2.2.2)
theorem OwnW.same {S : PS} {w w' : World} {A : Option Addr} {c : Nat} {L : List ByteArray} (h : OwnW S w A c L) (hk : SameS S w w') : OwnW S w' A c L := by
  rcases h with h | ⟨a, h1, h2, h3⟩
  · exact .inl h
  · exact .inr ⟨a, h1, h2, ownE_same h3 h2 hk⟩
theorem OwnW.sup {S T : PS} {w : World} {A : Option Addr} {c : Nat} {L : List ByteArray} (h : OwnW S w A c L) (hs : Sub S T) : OwnW T w A c L := by
  rcases h with h | ⟨a, h1, h2, h3⟩
  · exact .inl h
  · exact .inr ⟨a, h1, hs a h2, h3⟩
def SameM (M : HM) : Prop := ∀ (S : PS) (w w' : World) (h : HdR), M S w h → SameS S w w' → M S w' h
theorem ZnQ.same {M : HM} (hM : SameM M) {w w' : World} : ∀ {S : PS} {hv : List HdR}, ZnQ M w S hv → SameS S w w' → ZnQ M w' S hv
  | _, [], _, _ => trivial
  | S, m :: r, ⟨S1, S2, s1, s2, hd, h1, h2⟩, hk => ⟨S1, S2, s1, s2, hd, hM _ _ _ _ h1 (hk.sub s1), ZnQ.same hM h2 (hk.sub s2)⟩
theorem ZnQ.sup {M : HM} {w : World} : ∀ {S T : PS} {hv : List HdR}, ZnQ M w S hv → Sub S T → ZnQ M w T hv
  | _, _, [], _, _ => trivial
  | S, T, m :: r, ⟨S1, S2, s1, s2, hd, h1, h2⟩, hs => ⟨S1, S2, s1.tr hs, s2.tr hs, hd, h1, h2⟩
theorem ZnQ.snoc {M : HM} {w : World} {S' T : PS} {m : HdR} : ∀ {S : PS} {hv : List HdR}, ZnQ M w S hv → M S' w m → Dis S S' → Sub S T → Sub S' T → ZnQ M w T (hv ++ [m])
  | S, [], _, h, _, _, s' => ⟨S', fun _ => False, s', fun _ h => h.elim, fun _ _ h => h, h, trivial⟩
  | S, x :: r, ⟨S1, S2, s1, s2, hd, h1, h2⟩, h, hdd, s, s' =>
    ⟨S1, fun k => S2 k ∨ S' k, s1.tr s, fun k hk => hk.elim (fun h => s k (s2 k h)) (s' k), fun k hk h3 => h3.elim (hd k hk) (hdd k (s1 k hk)), h1,
      ZnQ.snoc h2 h (fun k hk => hdd k (s2 k hk)) (fun k hk => .inl hk) (fun k hk => .inr hk)⟩
theorem ZnQ.get {M : HM} {w : World} : ∀ {S : PS} {hv : List HdR}, ZnQ M w S hv → ∀ m ∈ hv, ∃ S1, M S1 w m
  | _, [], _, m, hm => by simp at hm
  | S, x :: r, ⟨S1, S2, s1, s2, hd, h1, h2⟩, m, hm => (List.mem_cons.1 hm).elim (fun e => ⟨S1, e ▸ h1⟩) (ZnQ.get h2 m)
/-- one of the list, and what may come in its place. -/
theorem ZnQ.focus {M : HM} (hM : SameM M) {w : World} {m : HdR} {Q : List HdR} : ∀ {S : PS} {P : List HdR}, ZnQ M w S (P ++ m :: Q) →
    ∃ S1 : PS, Sub S1 S ∧ M S1 w m ∧ ∀ (w' : World) (m' : HdR), M S1 w' m' → (∀ k, S k → ¬ S1 k → k < w.heap.size → w'.heap[k]? = w.heap[k]?) → ZnQ M w' S (P ++ m' :: Q)
  | S, [], ⟨S1, S2, s1, s2, hd, h1, h2⟩ => ⟨S1, s1, h1, fun w' m' h hk => ⟨S1, S2, s1, s2, hd, h, ZnQ.same hM h2 (fun k a b => hk k (s2 k a) (fun e => hd k e a) b)⟩⟩
  | S, x :: P, ⟨S1, S2, s1, s2, hd, h1, h2⟩ => by
    obtain ⟨S3, t1, t2, t3⟩ := ZnQ.focus hM h2
    exact ⟨S3, t1.tr s2, t2, fun w' m' h hk => ⟨S1, S2, s1, s2, hd, hM _ _ _ _ h1 (fun k a b => hk k (s1 k a) (fun e => hd k a (t1 k e)) b), t3 w' m' h (fun k a b c => hk k (s2 k a) b c)⟩⟩
theorem OwnKs.same {M : HM} (hM : SameM M) {S : PS} {w w' : World} {B : Option Addr} {d : Nat} {L : List QD} (h : OwnKs M S w B d L) (hk : SameS S w w') : OwnKs M S w' B d L := by
  rcases h with h | ⟨b, hv, S', h1, h2, h3, h4, h5, h6, h7⟩
  · exact .inl h
  · exact .inr ⟨b, hv, S', h1, h2, h3, h4, h5, ownE_same h6 h2 hk, ZnQ.same hM h7 (hk.sub h3)⟩
theorem OwnKs.sup {M : HM} {S T : PS} {w : World} {B : Option Addr} {d : Nat} {L : List QD} (h : OwnKs M S w B d L) (hs : Sub S T) : OwnKs M T w B d L := by
  rcases h with h | ⟨b, hv, S', h1, h2, h3, h4, h5, h6, h7⟩
  · exact .inl h
  · exact .inr ⟨b, hv, S', h1, hs b h2, h3.tr hs, h4, h5, h6, h7⟩
theorem OwnQ.same : ∀ {n : Nat}, SameM (OwnQ n)
  | 0, _, _, _, _, h, _ => h.elim
  | n + 1, S, w, w', m, ⟨S1, S2, s1, s2, hd, h1, h2⟩, hk => ⟨S1, S2, s1, s2, hd, h1.same (hk.sub s1), h2.same OwnQ.same (hk.sub s2)⟩
theorem OwnQ.sup : ∀ {n : Nat} {S T : PS} {w : World} {m : HdR}, OwnQ n S w m → Sub S T → OwnQ n T w m
  | 0, _, _, _, _, h, _ => h.elim
  | n + 1, S, T, w, m, ⟨S1, S2, s1, s2, hd, h1, h2⟩, hs => ⟨S1, S2, s1.tr hs, s2.tr hs, hd, h1, h2⟩
theorem OwnW.src {S : PS} {w : World} {A : Option Addr} {c : Nat} {L : List ByteArray} (h : OwnW S w A c L) : SrcQ w A c L := by
  rcases h with ⟨rfl, rfl, rfl⟩ | ⟨a, rfl, _, h⟩
  · exact ⟨SrcE.nil_ w 0, Nat.le_refl _, Nat.zero_le _⟩
  · exact ⟨OwnE.src h, (OwnE.capOk h).1, (OwnE.capOk h).2.1⟩
theorem OwnKs.rd {M : HM} {H : HQ} (hM : ∀ {S : PS} {w : World} {h : HdR}, M S w h → H w h.q h.A h.c h.B) {S : PS} {w : World} {B : Option Addr} {d : Nat} {L : List QD} (h : OwnKs M S w B d L) : RdK H w B L := by
  rcases h with ⟨rfl, rfl, rfl⟩ | ⟨b, hv, S', rfl, _, _, _, rfl, h6, h7⟩
  · exact fun k hk => absurd hk (by simp)
  · intro k hk
    have hk' : k < hv.length := by simpa using hk
    have e : (hv.map (·.q))[k] = hv[k].q := by simp
    obtain ⟨S1, hm⟩ := h7.get hv[k] (List.getElem_mem _)
    obtain ⟨b', off, e1, hb, hc⟩ := (OwnE.src h6).cells encHR_ok hk' (by omega)
    simp only [Option.some.injEq, Addr.mk.injEq, and_true] at e1
    obtain ⟨rfl, rfl⟩ := e1
    refine ⟨b, 0, hv[k].A, hv[k].c, hv[k].B, hv[k].d, rfl, hb, fun j u hu => ?_, ?_⟩
    · rw [e] at hu
      have := hc j u hu
      rwa [← Nat.add_assoc] at this
    · rw [e]; exact hM hm
theorem OwnQ.has : ∀ {n : Nat} {S : PS} {w : World} {h : HdR}, OwnQ n S w h → HasQ n w h.q h.A h.c h.B
  | 0, _, _, _, h => h.elim
  | n + 1, S, w, m, ⟨S1, S2, s1, s2, hd, h1, h2⟩ => ⟨h1.src, h2.rd (fun h => OwnQ.has h)⟩
theorem OwnKs.len {M : HM} {S : PS} {w : World} {B : Option Addr} {d : Nat} {L : List QD} (h : OwnKs M S w B d L) : L.length ≤ d ∧ d ≤ maxLen := by
  rcases h with ⟨rfl, rfl, rfl⟩ | ⟨b, hv, S', rfl, _, _, _, rfl, h6, h7⟩
  · exact ⟨Nat.le_refl _, Nat.zero_le _⟩
  · have := OwnE.capOk h6
    rw [List.length_map]; exact ⟨this.1, this.2.1⟩
/-! marks -/
/-- how many marks. -/
def mkN : Nat → QD → Nat
  | 0, _ => 0
  | n + 1, q => q.ws.length + (q.ks.map (fun y => 4 + mkN n y)).sum
def sumN (n : Nat) (L : List QD) : Nat := (L.map (fun y => 4 + mkN n y)).sum
theorem mkN_eq (n : Nat) (q : QD) : mkN (n + 1) q = q.ws.length + sumN n q.ks := rfl
theorem sumN_succ (n : Nat) {L : List QD} {j : Nat} (hj : j < L.length) : sumN n (L.take (j + 1)) = sumN n (L.take j) + (4 + mkN n L[j]) := by
  unfold sumN
  rw [← List.take_append_getElem hj, List.map_append, List.sum_append]; simp
theorem sumN_le (n : Nat) (L : List QD) (j : Nat) : sumN n (L.take j) ≤ sumN n L := by
  unfold sumN
  conv => rhs; rw [← List.take_append_drop j L]
  rw [List.map_append, List.sum_append]; omega
/-- a question with its marks, in a list: the marks of its kids are those of f. -/
def mkY (f : Nat → List QD → List QD) (k : Nat) (y : QD) : QD := ⟨(k : Int), mtx (k + 1), mkL (k + 2) y.ws.length, ((k + 2 + y.ws.length : Nat) : Int), ((k + 3 + y.ws.length : Nat) : Int), f (k + 4 + y.ws.length) y.ks⟩
def mkZ (f : Nat → List QD → List QD) (g : QD → Nat) : Nat → List QD → List QD
  | _, [] => []
  | k, y :: r => mkY f k y :: mkZ f g (k + (4 + g y)) r
def mkKs : Nat → Nat → List QD → List QD
  | 0 => fun _ L => L
  | n + 1 => fun k L => mkZ (mkKs n) (mkN (n + 1)) k L
theorem mkZ_len (f : Nat → List QD → List QD) (g : QD → Nat) : ∀ (L : List QD) (k : Nat), (mkZ f g k L).length = L.length
  | [], _ => rfl
  | y :: r, k => by show (mkZ _ _ _ r).length + 1 = r.length + 1; rw [mkZ_len f g r]
theorem mkKs_len : ∀ (n k : Nat) (L : List QD), (mkKs n k L).length = L.length
  | 0, _, _ => rfl
  | n + 1, k, L => mkZ_len _ _ L k
theorem mkZ_snoc (n : Nat) (f : Nat → List QD → List QD) (y : QD) : ∀ (L : List QD) (k : Nat), mkZ f (mkN n) k (L ++ [y]) = mkZ f (mkN n) k L ++ [mkY f (k + sumN n L) y]
  | [], k => rfl
  | x :: r, k => by
    show mkY f k x :: mkZ f (mkN n) _ (r ++ [y]) = mkY f k x :: (mkZ f (mkN n) _ r ++ [_])
    rw [mkZ_snoc n f y r]
    congr 4
    unfold sumN
    rw [List.map_cons, List.sum_cons]; omega
theorem mkZ_take (n : Nat) (f : Nat → List QD → List QD) (k : Nat) {L : List QD} {j : Nat} (hj : j < L.length) : mkZ f (mkN n) k (L.take (j + 1)) = mkZ f (mkN n) k (L.take j) ++ [mkY f (k + sumN n (L.take j)) L[j]] := by
  rw [← List.take_append_getElem hj, mkZ_snoc]
theorem mkZ_get (n : Nat) (f : Nat → List QD → List QD) : ∀ (L : List QD) (k j : Nat) (hj : j < L.length), (mkZ f (mkN n) k L)[j]? = some (mkY f (k + sumN n (L.take j)) L[j])
  | y :: r, k, 0, hj => rfl
  | y :: r, k, j + 1, hj => by
    have ih := mkZ_get n f r (k + (4 + mkN n y)) j (by simpa using hj)
    show (mkZ f (mkN n) _ r)[j]? = _
    rw [ih]
    congr 2
    unfold sumN
    rw [List.take_succ_cons, List.map_cons, List.sum_cons]; omega
def mkHR (f : Nat → List QD → List QD) (k : Nat) (h : HdR) : HdR := ⟨mkY f k h.q, h.A, h.c, h.B, h.d⟩
/-- the first j have their marks. -/
def mkHs (n : Nat) (f : Nat → List QD → List QD) : Nat → List HdR → List HdR
  | _, [] => []
  | k, h :: r => mkHR f k h :: mkHs n f (k + (4 + mkN n h.q)) r
theorem mkHs_q (n : Nat) (f : Nat → List QD → List QD) : ∀ (hv : List HdR) (k : Nat), (mkHs n f k hv).map (·.q) = mkZ f (mkN n) k (hv.map (·.q))
  | [], _ => rfl
  | h :: r, k => by show mkY f k h.q :: (mkHs n f _ r).map (·.q) = mkY f k h.q :: mkZ f (mkN n) _ (r.map (·.q)); rw [mkHs_q n f r]
theorem mkHs_len (n : Nat) (f : Nat → List QD → List QD) (k : Nat) (hv : List HdR) : (mkHs n f k hv).length = hv.length := by
  have := congrArg List.length (mkHs_q n f hv k)
  rwa [List.length_map, mkZ_len, List.length_map] at this
theorem mkHs_snoc (n : Nat) (f : Nat → List QD → List QD) (h : HdR) : ∀ (hv : List HdR) (k : Nat), mkHs n f k (hv ++ [h]) = mkHs n f k hv ++ [mkHR f (k + sumN n (hv.map (·.q))) h]
  | [], k => rfl
  | x :: r, k => by
    show mkHR f k x :: mkHs n f _ (r ++ [h]) = mkHR f k x :: (mkHs n f _ r ++ [_])
    rw [mkHs_snoc n f h r]
    congr 4
    unfold sumN
    rw [List.map_cons, List.map_cons, List.sum_cons]; omega
theorem encHR_cells (P Q : List HdR) (m : HdR) (j : Nat) (hj : j < 6) : ((P ++ m :: Q).flatMap encHR)[P.length * 6 + j]? = (encHR m)[j]? := by
  have hl : (P.flatMap encHR).length = P.length * 6 := encHR_ok.flat P
  rw [List.flatMap_append, List.flatMap_cons, List.getElem?_append_right (by omega), hl, show P.length * 6 + j - P.length * 6 = j by omega, List.getElem?_append_left (by rw [show (encHR m).length = 6 from rfl]; exact hj)]
theorem encHR_set4 (P Q : List HdR) (m m' : HdR) (u0 u1 u3 u4 : Value) (e : encHR m' = (((encHR m).set 0 u0).set 1 u1 |>.set 3 u3).set 4 u4) :
    (((((P ++ m :: Q).flatMap encHR).set (P.length * 6) u0).set (P.length * 6 + 1) u1).set (P.length * 6 + 3) u3).set (P.length * 6 + 4) u4 = (P ++ m' :: Q).flatMap encHR := by
  have hl : (P.flatMap encHR).length = P.length * 6 := encHR_ok.flat P
  have h6 : (encHR m).length = 6 := rfl
  rw [List.flatMap_append, List.flatMap_append, List.flatMap_cons, List.flatMap_cons, List.set_append_right _ _ (by omega), hl, Nat.sub_self, List.set_append_right _ _ (by omega), hl, show P.length * 6 + 1 - P.length * 6 = 1 by omega,
    List.set_append_right _ _ (by omega), hl, show P.length * 6 + 3 - P.length * 6 = 3 by omega, List.set_append_right _ _ (by omega), hl, show P.length * 6 + 4 - P.length * 6 = 4 by omega, e]
  rfl
end Go.Proofs.YtaobgliimbmemaaDoor
namespace Go.Proofs.YtaobgliimbmemaaDoor
open Go.RowKit Go.Sort

def toR (h : HdQ) : HdR := ⟨h.q, h.A, h.q.ws.length, h.B, h.q.ks.length⟩
def OwP (n : Nat) (q : QD) (w : World) (e : Ending) (w' : World) : Prop := ∃ (A B : Option Addr), (e = .returned (.agg #[.int .i64 q.kd, .string q.fd, .slice A q.ws.length q.ws.length, .int .i64 q.fr, .int .i64 q.tgt, .slice B q.ks.length q.ks.length]) ∧ OwnQ n (fun k => w.heap.size ≤ k ∧ k < w'.heap.size) w' ⟨q, A, q.ws.length, B, q.ks.length⟩) ∧ Below w.heap.size w w'
theorem OwP.mk {n : Nat} {q : QD} {w w' : World} {A B : Option Addr} (h : OwnQ n (fun k => w.heap.size ≤ k ∧ k < w'.heap.size) w' ⟨q, A, q.ws.length, B, q.ks.length⟩) (hb : Below w.heap.size w w') : OwP n q w (.returned (.agg #[.int .i64 q.kd, .string q.fd, .slice A q.ws.length q.ws.length, .int .i64 q.fr, .int .i64 q.tgt, .slice B q.ks.length q.ks.length])) w' := ⟨A, B, ⟨rfl, h⟩, hb⟩
def OwK (n : Nat) (L : List QD) (w : World) (e : Ending) (w' : World) : Prop := ∃ (B : Option Addr), (e = .returned (.slice B L.length L.length) ∧ OwnKs (OwnQ n) (fun k => w.heap.size ≤ k ∧ k < w'.heap.size) w' B L.length L) ∧ Below w.heap.size w w'
def OwC (n : Nat) : Prop := ∀ (q : QD) (A : Option Addr) (c : Nat) (B : Option Addr) (d : Nat) (w : World), HasQ n w q A c B → LmQ 1048576 n q →
  Calls Tryd.prog 23 #[.agg #[.int .i64 q.kd, .string q.fd, .slice A q.ws.length c, .int .i64 q.fr, .int .i64 q.tgt, .slice B q.ks.length d]] w (OwP n q w)
set_option maxHeartbeats 3200000 in
theorem toQueryS_own (n : Nat) (IH : Hid (OwC n)) (B : Option Addr) (d : Nat) (Ks : List QD) (w : World) (h : RdK (HasQ n) w B Ks) (hn : Ks.length ≤ 1048576) (hs : Hid (∀ y ∈ Ks, LmQ 1048576 n y)) :
    Calls Tryd.prog 51 #[.slice B Ks.length d] w (OwK n Ks w) := by
  obtain ⟨i0, hi, hz0, hz1, hz2⟩ := info_partsZ infoQ
  obtain ⟨wm, hmk, hown0, hg0⟩ := run_make_full (P := Tryd.prog) w w.heap.size 24 26 i0 _ 6 Tryd.underlying24 hi hz0 hz1 .i64 .i64 Ks.length (by rw [hz2]; omega) (by unfold maxLen; omega) (Nat.le_refl _)
  have hB0 : Below w.heap.size w wm := (Below.refl _ _).grown hg0 (Nat.le_refl _) (fun k hk => by cases hk)
  have hwm : w.heap.size < wm.heap.size := (World.ownsRow.lt hown0 w.heap.size rfl).2
  go_enter Tryd.func51, Tryd.ntmps51
  go_wp2
  go_loopw [4] (fun i wr => ∃ k : Nat, k ≤ Ks.length ∧ i = .int .i64 k ∧ ∃ hv : List HdQ, Hid (hv.map (·.q) = Ks.take k) ∧ Hid (ZnQ (OwnQ n) wr (fun k => w.heap.size < k ∧ k < wr.heap.size) (hv.map toR)) ∧ w.heap.size < wr.heap.size ∧ wr.ownsRow w.heap.size 26 6 (.slice (some ⟨w.heap.size, 0, none⟩) Ks.length Ks.length) Ks.length (fillQ hv Ks.length) ∧ Below w.heap.size w wr) (fun i _ => Ks.length - (intOf i).toNat)
  case atStart => exact ⟨0, Nat.zero_le _, rfl, [], rfl, trivial, hwm, by rw [fillQ_nil, ← made_rep (Value.agg #[.int .i64 0, .string ⟨#[]⟩, .slice none 0 0, .int .i64 0, .int .i64 0, .slice none 0 0]).cells zsQ 6 Ks.length rfl rfl (by omega)]; exact hown0, hB0⟩
  case round =>
    obtain ⟨k, hk, rfl, hv, hm, hh, hws, hown, hB⟩ := hrel
    have HLv : Hid (hv.length = k) := by
      show _ = _
      have := congrArg List.length hm.out
      rw [List.length_map, List.length_take] at this
      omega
    by_cases hlt : k < Ks.length
    · obtain ⟨b, off, A1, c1, B1, d1, rfl, hb, x0, x1, x2, x3, x4, x5, hd⟩ := (rdQ_below h hB).cells hlt
      have hi0 : (k : Int) < (Ks.length : Int) := by omega
      have hsm := Lib.hid (hs.out _ (List.getElem_mem hlt))
      have hd := Lib.hid hd
      have f0 : (fillQ hv Ks.length)[k * 6]? = some (.int .i64 0) := fillQ_get (n := Ks.length) HLv.out hlt (j := 0) (by omega)
      have f1 : (fillQ hv Ks.length)[k * 6 + 1]? = some (.string ⟨#[]⟩) := fillQ_get (n := Ks.length) HLv.out hlt (j := 1) (by omega)
      have f2 : (fillQ hv Ks.length)[k * 6 + 2]? = some (.slice none 0 0) := fillQ_get (n := Ks.length) HLv.out hlt (j := 2) (by omega)
      have f3 : (fillQ hv Ks.length)[k * 6 + 3]? = some (.int .i64 0) := fillQ_get (n := Ks.length) HLv.out hlt (j := 3) (by omega)
      have f4 : (fillQ hv Ks.length)[k * 6 + 4]? = some (.int .i64 0) := fillQ_get (n := Ks.length) HLv.out hlt (j := 4) (by omega)
      have f5 : (fillQ hv Ks.length)[k * 6 + 5]? = some (.slice none 0 0) := fillQ_get (n := Ks.length) HLv.out hlt (j := 5) (by omega)
      have HMM : Hid (∀ (A2 B2 : Option Addr), (hv ++ [(⟨Ks[k], A2, B2⟩ : HdQ)]).map (fun m => m.q) = Ks.take (k + 1)) := fun A2 B2 => by rw [List.map_append, hm.out, ← List.take_append_getElem hlt]; rfl
      go_wp2_with fail
      refine (IH.out Ks[k] A1 c1 B1 d1 _ hd.out hsm.out).mono ?_
      rintro e w2 ⟨A2, B2, ⟨rfl, r1⟩, hb2⟩
      have own2 := own_belowZ hown hb2
      have q0 := (own2.cellAt (k * 6) (by omega)).trans f0
      have q1 := (own2.cellAt (k * 6 + 1) (by omega)).trans f1
      have q2 := (own2.cellAt (k * 6 + 2) (by omega)).trans f2
      have q3 := (own2.cellAt (k * 6 + 3) (by omega)).trans f3
      have q4 := (own2.cellAt (k * 6 + 4) (by omega)).trans f4
      have q5 := (own2.cellAt (k * 6 + 5) (by omega)).trans f5
      have z0 := own2.frozenAt (k * 6)
      have z1 := own2.frozenAt (k * 6 + 1)
      have z2 := own2.frozenAt (k * 6 + 2)
      have z3 := own2.frozenAt (k * 6 + 3)
      have z4 := own2.frozenAt (k * 6 + 4)
      have z5 := own2.frozenAt (k * 6 + 5)
      have hstep := fillQ_step HLv.out hlt ⟨Ks[k], A2, B2⟩ _ _ _ _ _ _ rfl
      dsimp only at hstep
      have a1 := own2.stored (k * 6) (.int .i64 Ks[k].kd)
      have a2 := a1.1.stored (k * 6 + 1) (.string Ks[k].fd)
      have a3 := a2.1.stored (k * 6 + 2) (.slice A2 Ks[k].ws.length Ks[k].ws.length)
      have a4 := a3.1.stored (k * 6 + 3) (.int .i64 Ks[k].fr)
      have a5 := a4.1.stored (k * 6 + 4) (.int .i64 Ks[k].tgt)
      have a6 := a5.1.stored (k * 6 + 5) (.slice B2 Ks[k].ks.length Ks[k].ks.length)
      have own5 := a6.1
      rw [hstep] at own5
      have hB2 := hB.trans (hb2.mono hB.size)
      have hw2s := hb2.size
      have hB5 := (((((hB2.setCell (p := ⟨w.heap.size, k * 6, none⟩) (Nat.le_refl _) (.int .i64 Ks[k].kd)).setCell (p := ⟨w.heap.size, k * 6 + 1, none⟩) (Nat.le_refl _) (.string Ks[k].fd)).setCell (p := ⟨w.heap.size, k * 6 + 2, none⟩) (Nat.le_refl _) (.slice A2 Ks[k].ws.length Ks[k].ws.length)).setCell (p := ⟨w.heap.size, k * 6 + 3, none⟩) (Nat.le_refl _) (.int .i64 Ks[k].fr)).setCell (p := ⟨w.heap.size, k * 6 + 4, none⟩) (Nat.le_refl _) (.int .i64 Ks[k].tgt)).setCell (p := ⟨w.heap.size, k * 6 + 5, none⟩) (Nat.le_refl _) (.slice B2 Ks[k].ks.length Ks[k].ks.length)
      have HS5 : Hid (∀ W5, W5 = ((((((w2.setCell ⟨w.heap.size, k * 6, none⟩ (.int .i64 Ks[k].kd)).setCell ⟨w.heap.size, k * 6 + 1, none⟩ (.string Ks[k].fd)).setCell ⟨w.heap.size, k * 6 + 2, none⟩ (.slice A2 Ks[k].ws.length Ks[k].ws.length)).setCell ⟨w.heap.size, k * 6 + 3, none⟩ (.int .i64 Ks[k].fr)).setCell ⟨w.heap.size, k * 6 + 4, none⟩ (.int .i64 Ks[k].tgt)).setCell ⟨w.heap.size, k * 6 + 5, none⟩ (.slice B2 Ks[k].ks.length Ks[k].ks.length)) →
          ZnQ (OwnQ n) W5 (fun k => w.heap.size < k ∧ k < W5.heap.size) ((hv ++ [(⟨Ks[k], A2, B2⟩ : HdQ)]).map toR) ∧ w.heap.size < W5.heap.size) := by
        rintro W5 rfl
        have e5 : SameR (w.heap.size + 1) w2.heap.size w2 ((((((w2.setCell ⟨w.heap.size, k * 6, none⟩ (.int .i64 Ks[k].kd)).setCell ⟨w.heap.size, k * 6 + 1, none⟩ (.string Ks[k].fd)).setCell ⟨w.heap.size, k * 6 + 2, none⟩ (.slice A2 Ks[k].ws.length Ks[k].ws.length)).setCell ⟨w.heap.size, k * 6 + 3, none⟩ (.int .i64 Ks[k].fr)).setCell ⟨w.heap.size, k * 6 + 4, none⟩ (.int .i64 Ks[k].tgt)).setCell ⟨w.heap.size, k * 6 + 5, none⟩ (.slice B2 Ks[k].ks.length Ks[k].ks.length)) :=
          (((((SameR.set w2 _ (by omega) (Nat.le_refl _)).set2 _ (by omega)).set2 _ (by omega)).set2 _ (by omega)).set2 _ (by omega)).set2 _ (by omega)
        have hsz5 := e5.1
        refine ⟨?_, by omega⟩
        rw [List.map_append]
        refine ZnQ.snoc (S' := fun k => wr.heap.size ≤ k ∧ k < w2.heap.size) (ZnQ.same OwnQ.same hh.out (fun k h1 h2 => (e5.2 k (by omega) (by have := hb2.size; omega)).trans (hb2.block k h2))) (OwnQ.same _ _ _ _ r1 (fun k h1 h2 => e5.2 k (by have := h1.1; omega) h1.2)) (fun k h1 h2 => by have := h1.2; have := h2.1; omega) (fun k h1 => ⟨h1.1, by have := h1.2; omega⟩) (fun k h1 => ⟨by have := h1.1; omega, by have := h1.2; omega⟩)
      have HM5 := Lib.hid (HMM.out A2 B2)
      have O5 := Lib.hid own5
      have HS6 := Lib.hid (HS5.out _ rfl)
      clear hh hown hd own2 r1 hstep a1 a2 a3 a4 a5 a6 own5 hB2 f0 f1 f2 f3 f4 f5 hsm hb2 hB HMM hm HLv HS5 hw2s
      generalize hv ++ [⟨Ks[k], A2, B2⟩] = hv2 at HS6 O5 HM5
      generalize Ks[k].kd = n0 at x0 HS6 O5 hB5 ⊢
      generalize Ks[k].fd = n1 at x1 HS6 O5 hB5 ⊢
      generalize Ks[k].ws.length = n2 at x2 HS6 O5 hB5 ⊢
      generalize Ks[k].fr = n3 at x3 HS6 O5 hB5 ⊢
      generalize Ks[k].tgt = n4 at x4 HS6 O5 hB5 ⊢
      generalize Ks[k].ks.length = n5 at x5 HS6 O5 hB5 ⊢
      go_wp2
      go_roundw
      case rel => exact ⟨k + 1, by omega, by go_num, _, HM5, HS6.out.1, HS6.out.2, O5.out, hB5⟩
      case measure => simp [intOf]; omega
    · obtain rfl : k = Ks.length := by omega
      have HM5 : Hid (hv.map (·.q) = Ks) := by show _ = _; rw [hm.out, List.take_length]
      have HO : Hid (OwnKs (OwnQ n) (fun k => w.heap.size ≤ k ∧ k < wr.heap.size) wr (some ⟨w.heap.size, 0, none⟩) Ks.length Ks) := by
        rw [fillQ_all HLv.out] at hown
        refine .inr ⟨w.heap.size, hv.map toR, fun k => w.heap.size < k ∧ k < wr.heap.size, rfl, ⟨Nat.le_refl _, hws⟩, fun k h => ⟨Nat.le_of_lt h.1, h.2⟩, fun h => absurd h.1 (Nat.lt_irrefl _), ?_, ?_, hh.out⟩
        · rw [List.map_map]; exact HM5.out.symm
        · have e1 : (hv.map toR).length = Ks.length := by rw [List.length_map]; exact HLv.out
          have e2 : (hv.map toR).flatMap encHR = hv.flatMap encHQ := by rw [List.flatMap_map]; rfl
          have hown2 : wr.ownsRow w.heap.size 26 6 (.slice (some ⟨w.heap.size, 0, none⟩) Ks.length Ks.length) Ks.length (hv.flatMap encHQ) := hown
          unfold OwnE
          rw [e1, e2]
          exact own_monoZ hown2 (Nat.zero_le _)
      clear hm HLv hown hh hws HM5
      go_wp2
      go_ret
      exact ⟨_, ⟨rfl, HO.out⟩, hB⟩
set_option maxHeartbeats 3200000 in
theorem toQuery_own : ∀ n, OwC n
  | 0 => fun q A c B d w h _ => h.elim
  | n + 1 => fun q A c B d w h hs => by
    have IH := Lib.hid (toQuery_own n)
    have ⟨hf1, hw1, hw2, hk1, hk2⟩ := hs
    have ⟨hS, hK⟩ := h
    have HK := Lib.hid hK
    have HK2 := Lib.hid hk2
    clear h hs hK hw2 hk2
    obtain ⟨p0, r0, v0, hB, hsz⟩ := box3 w (.cells #[.int .i64 q.kd, .string q.fd, .slice A q.ws.length c, .int .i64 q.fr, .int .i64 q.tgt, .slice B q.ks.length d] 38) (.cells #[.int .i64 0, .string ⟨#[]⟩, .slice none 0 0, .int .i64 0, .int .i64 0, .slice none 0 0] 26) (.cells #[.int .i64 q.kd, .string q.fd, .slice none 0 0, .int .i64 0, .int .i64 0, .slice none 0 0] 26) _ rfl
    go_enter Tryd.func23, Tryd.ntmps23
    go_wp2_with fail
    generalize (((w.alloc (.cells #[.int .i64 q.kd, .string q.fd, .slice A q.ws.length c, .int .i64 q.fr, .int .i64 q.tgt, .slice B q.ks.length d] 38)).alloc (.cells #[.int .i64 0, .string ⟨#[]⟩, .slice none 0 0, .int .i64 0, .int .i64 0, .slice none 0 0] 26)).alloc (.cells #[.int .i64 q.kd, .string q.fd, .slice none 0 0, .int .i64 0, .int .i64 0, .slice none 0 0] 26)) = W at hB p0 r0 v0 hsz ⊢
    refine (toStringS_any A c q.ws _ (hS.below hB).1 hw1).mono ?_
    rintro e w1 ⟨g1, ⟨rfl, r1⟩, hb1⟩
    have p1 := (hb1.block _ (by omega)).trans p0
    have r1b := (hb1.block _ (by omega)).trans r0
    have v1 := (hb1.block _ (by omega)).trans v0
    have hw1s := hb1.size
    have hB1 := hB.trans (hb1.mono hB.size)
    have hg1 := (World.ownsRow.lt r1 g1 rfl)
    have T1 := Lib.hid (own_monoZ r1 (Nat.zero_le _))
    obtain ⟨_, _, _, x3, x4, x5⟩ := blk6 p1
    obtain ⟨_, _, k2, k3, k4, k5⟩ := blk6 v1
    have z2 := frozen_blk v1 2
    have z3 := frozen_blk v1 3
    have z4 := frozen_blk v1 4
    have v2 := heap_setCell_same w1 (w.heap.size + 1 + 1) 2 _ _ (.slice (some ⟨g1, 0, none⟩) q.ws.length q.ws.length) v1
    have v3 := heap_setCell_same _ (w.heap.size + 1 + 1) 3 _ _ (.int .i64 q.fr) v2
    have v4 := heap_setCell_same _ (w.heap.size + 1 + 1) 4 _ _ (.int .i64 q.tgt) v3
    have e4 : SameR (w.heap.size + 3) w1.heap.size w1 (((w1.setCell ⟨w.heap.size + 1 + 1, 2, none⟩ (.slice (some ⟨g1, 0, none⟩) q.ws.length q.ws.length)).setCell ⟨w.heap.size + 1 + 1, 3, none⟩ (.int .i64 q.fr)).setCell ⟨w.heap.size + 1 + 1, 4, none⟩ (.int .i64 q.tgt)) :=
      ((SameR.set w1 _ (by omega) (Nat.le_refl _)).set2 _ (by omega)).set2 _ (by omega)
    have hB4 := ((hB1.setCell (p := ⟨w.heap.size + 1 + 1, 2, none⟩) (by show _ ≤ _ + 1 + 1; omega) (.slice (some ⟨g1, 0, none⟩) q.ws.length q.ws.length)).setCell (p := ⟨w.heap.size + 1 + 1, 3, none⟩) (by show _ ≤ _ + 1 + 1; omega) (.int .i64 q.fr)).setCell (p := ⟨w.heap.size + 1 + 1, 4, none⟩) (by show _ ≤ _ + 1 + 1; omega) (.int .i64 q.tgt)
    have r4 : (((w1.setCell ⟨w.heap.size + 1 + 1, 2, none⟩ (.slice (some ⟨g1, 0, none⟩) q.ws.length q.ws.length)).setCell ⟨w.heap.size + 1 + 1, 3, none⟩ (.int .i64 q.fr)).setCell ⟨w.heap.size + 1 + 1, 4, none⟩ (.int .i64 q.tgt)).heap[w.heap.size + 1]? = some (.cells #[.int .i64 0, .string ⟨#[]⟩, .slice none 0 0, .int .i64 0, .int .i64 0, .slice none 0 0] 26 (0, 0)) := by
      rw [heap_setCell_other _ _ _ _ (by simp), heap_setCell_other _ _ _ _ (by simp), heap_setCell_other _ _ _ _ (by simp)]; exact r1b
    replace v4 : (((w1.setCell ⟨w.heap.size + 1 + 1, 2, none⟩ (.slice (some ⟨g1, 0, none⟩) q.ws.length q.ws.length)).setCell ⟨w.heap.size + 1 + 1, 3, none⟩ (.int .i64 q.fr)).setCell ⟨w.heap.size + 1 + 1, 4, none⟩ (.int .i64 q.tgt)).heap[w.heap.size + 1 + 1]? = some (.cells #[.int .i64 q.kd, .string q.fd, .slice (some ⟨g1, 0, none⟩) q.ws.length q.ws.length, .int .i64 q.fr, .int .i64 q.tgt, .slice none 0 0] 26 (0, 0)) := v4
    have HCAP : Hid (q.ws.length ≤ maxLen) := by show _ ≤ maxLen; unfold maxLen; omega
    have V4 := Lib.hid v4
    have E4 := Lib.hid e4
    have R4 := Lib.hid r4
    have BB4 := Lib.hid hB4
    clear p0 r0 v0 p1 r1b v1 v2 v3 v4 e4 r4 hB4 hB hb1 hB1 r1 hS hf1 hw1
    go_wp2_with fail
    generalize (((w1.setCell ⟨w.heap.size + 1 + 1, 2, none⟩ (.slice (some ⟨g1, 0, none⟩) q.ws.length q.ws.length)).setCell ⟨w.heap.size + 1 + 1, 3, none⟩ (.int .i64 q.fr)).setCell ⟨w.heap.size + 1 + 1, 4, none⟩ (.int .i64 q.tgt)) = V at V4 E4 R4 BB4 ⊢
    clear x3 x4 x5 k2 k3 k4 k5 z2 z3 z4
    have hB4 := BB4.out
    have hVs := E4.out.1
    refine (toQueryS_own n IH B d q.ks _ (rdQ_below HK.out hB4) hk1 HK2).mono ?_
    rintro e w2 ⟨B2, ⟨rfl, hk3⟩, hb2⟩
    have hw2s := hb2.size
    have v5 := (hb2.block _ (by omega)).trans V4.out
    have r5 := (hb2.block _ (by omega)).trans R4.out
    obtain ⟨y0, y1, y2, y3, y4, y5⟩ := blk6 v5
    have z5 := frozen_blk v5 5
    obtain ⟨s0, s1, s2, s3, s4, s5⟩ := blk6 r5
    have t0 := frozen_blk r5 0
    have t1 := frozen_blk r5 1
    have t2 := frozen_blk r5 2
    have t3 := frozen_blk r5 3
    have t4 := frozen_blk r5 4
    have t5 := frozen_blk r5 5
    have HF : Hid (∀ W5, (SameR (w.heap.size + 3) w2.heap.size w2 W5 ∧ Below w.heap.size w W5) → OwnQ (n + 1) (fun k => w.heap.size ≤ k ∧ k < W5.heap.size) W5 ⟨q, some ⟨g1, 0, none⟩, q.ws.length, B2, q.ks.length⟩) := fun W5 h5 => by
      have hs5 := h5.1.1
      refine ⟨fun k => k = g1, fun k => V.heap.size ≤ k ∧ k < w2.heap.size, ?_, ?_, ?_, ?_, ?_⟩
      · rintro k rfl; exact ⟨by omega, by omega⟩
      · intro k h; exact ⟨by have := h.1; omega, by have := h.2; omega⟩
      · rintro k rfl h; have := h.1; omega
      · refine .inr ⟨g1, rfl, rfl, ?_⟩
        exact own_blk T1.out ((h5.1.2 g1 (by omega) (by omega)).trans ((hb2.block g1 (by omega)).trans (E4.out.2 g1 (by omega) (by omega))))
      · exact hk3.same OwnQ.same (fun k h1 h2 => h5.1.2 k (by have := h1.1; omega) h1.2)
    have HG : Hid (∀ u0 u1 u2 u3 u4 u5 u6, SameR (w.heap.size + 3) w2.heap.size w2 (((((((w2.setCell ⟨w.heap.size + 1 + 1, 5, none⟩ u6).setCell ⟨w.heap.size + 1, 0, none⟩ u0).setCell ⟨w.heap.size + 1, 1, none⟩ u1).setCell ⟨w.heap.size + 1, 2, none⟩ u2).setCell ⟨w.heap.size + 1, 3, none⟩ u3).setCell ⟨w.heap.size + 1, 4, none⟩ u4).setCell ⟨w.heap.size + 1, 5, none⟩ u5) ∧
        Below w.heap.size w (((((((w2.setCell ⟨w.heap.size + 1 + 1, 5, none⟩ u6).setCell ⟨w.heap.size + 1, 0, none⟩ u0).setCell ⟨w.heap.size + 1, 1, none⟩ u1).setCell ⟨w.heap.size + 1, 2, none⟩ u2).setCell ⟨w.heap.size + 1, 3, none⟩ u3).setCell ⟨w.heap.size + 1, 4, none⟩ u4).setCell ⟨w.heap.size + 1, 5, none⟩ u5)) := fun u0 u1 u2 u3 u4 u5 u6 =>
      ⟨((((((SameR.set w2 _ (by omega) (Nat.le_refl _)).set2 _ (by omega)).set2 _ (by omega)).set2 _ (by omega)).set2 _ (by omega)).set2 _ (by omega)).set2 _ (by omega),
       (((((((hB4.trans (hb2.mono (by omega))).setCell (p := ⟨w.heap.size + 1 + 1, 5, none⟩) (by show _ ≤ _ + 1 + 1; omega) _).setCell (p := ⟨w.heap.size + 1, 0, none⟩) (by show _ ≤ _ + 1; omega) _).setCell (p := ⟨w.heap.size + 1, 1, none⟩) (by show _ ≤ _ + 1; omega) _).setCell (p := ⟨w.heap.size + 1, 2, none⟩) (by show _ ≤ _ + 1; omega) _).setCell (p := ⟨w.heap.size + 1, 3, none⟩) (by show _ ≤ _ + 1; omega) _).setCell (p := ⟨w.heap.size + 1, 4, none⟩) (by show _ ≤ _ + 1; omega) _).setCell (p := ⟨w.heap.size + 1, 5, none⟩) (by show _ ≤ _ + 1; omega) _⟩
    clear v5 r5 V4 R4 E4 BB4 hB4 hb2 hk3 HK HK2 T1 hVs hw2s hw1s hg1 hsz hk1
    go_wp2
    exact bodyPost_ret (v := .agg #[.int .i64 q.kd, .string q.fd, .slice (some ⟨g1, 0, none⟩) q.ws.length q.ws.length, .int .i64 q.fr, .int .i64 q.tgt, .slice B2 q.ks.length q.ks.length]) (by simp [results, Tryd.results23, go_sem, *]) rfl (OwP.mk (HF.out _ (HG.out _ _ _ _ _ _ _)) (HG.out _ _ _ _ _ _ _).2)
end Go.Proofs.YtaobgliimbmemaaDoor
namespace Go.Proofs.YtaobgliimbmemaaDoor
open Go.RowKit Go.Sort

theorem OnlyS.up {S T : PS} {w w' : World} (h : OnlyS S w w') (hs : Sub S T) : OnlyS T w w' := ⟨h.1, h.2.1, fun k hk hn => h.2.2 k hk (fun e => hn (hs k e))⟩
theorem markText_x (k : Nat) (x : Int) (hx : x = (k : Int)) (h0 : 1 ≤ k) (h1 : k ≤ 4611686018427387904) (w : World) :
    Calls Tryd.prog 66 #[.int .i64 x] w fun e w' => e = .returned (.string (mtx k)) ∧ Below w.heap.size w w' := by subst hx; exact markText_fn k h0 h1 w
theorem cMarkText_x (k : Nat) (x : Int) (hx : x = (k : Int)) (h0 : 1 ≤ k) (h1 : k ≤ 4611686018427387904) (W : World) (d : Nat) (os : Array Obj) :
    Calls Tryd.prog 66 #[.int .i64 x] (grow (redrawn W d) os) fun e w'' => e = .returned (.string (mtx k)) ∧ ∃ p : Regrown, w'' = grow (redrawn W p.d) p.os := by subst hx; exact cMarkText k h0 h1 W d os
theorem markW_any (S : PS) (A : Option Addr) (c : Nat) (L : List ByteArray) (n k r : Nat) (x : Int) (hx : x = (k : Int)) (hl : Hid (n = L.length)) (hr : Hid (r = k + n)) (w : World) (h : Hid (OwnW S w A c L)) (hn : n ≤ 1048576) (h0 : 1 ≤ k) (h1 : k ≤ 1000000000000000) :
    Calls Tryd.prog 35 #[.slice A n c, .int .i64 x] w fun e w' => (e = .returned (.int .i64 (r : Int)) ∧ OwnW S w' A c (mkL k n)) ∧ OnlyS S w w' := by
  have e1 := hl.out
  have e2 := hr.out
  subst hx e1 e2
  rcases h.out with ⟨rfl, rfl, rfl⟩ | ⟨a, rfl, hS, h⟩
  · refine (markStringS_zero none 0 k w).mono ?_
    rintro e w' ⟨rfl, hb⟩
    exact ⟨⟨rfl, .inl ⟨rfl, rfl, rfl⟩⟩, OnlyS.of hb⟩
  · refine (markStringS_any a c 0 L k w h hn h0 (by omega)).mono ?_
    rintro e w' ⟨⟨rfl, ho⟩, hg⟩
    exact ⟨⟨rfl, .inr ⟨a, rfl, hS, ho⟩⟩, OnlyS.grown hg hS⟩
def MarkC (n : Nat) : Prop := ∀ (S : PS) (B : Option Addr) (d : Nat) (L : List QD) (N k r : Nat) (x : Int) (w : World), x = (k : Int) → Hid (N = L.length) → Hid (r = k + sumN n L) → Hid (OwnKs (OwnQ n) S w B d L) → N ≤ 1048576 → Hid (∀ y ∈ L, LmQ 1048576 n y) → 1 ≤ k → r ≤ 1000000000000000 →
  Calls Tryd.prog 46 #[.slice B N d, .int .i64 x] w fun e w' => (e = .returned (.int .i64 (r : Int)) ∧ OwnKs (OwnQ n) S w' B d (mkKs n k L)) ∧ OnlyS S w w'
theorem markS_zero (B : Option Addr) (d : Nat) (k : Nat) (w : World) (hk : k ≤ 1000000000000000) :
    Calls Tryd.prog 46 #[.slice B 0 d, .int .i64 (k : Int)] w fun e w' => e = .returned (.int .i64 (k : Int)) ∧ w = w' := by
  go_enter Tryd.func46, Tryd.ntmps46
  go_wp2_with fail
  go_loopw [1, 5] (fun m i wr => m = .int .i64 (k : Int) ∧ i = .int .i64 0 ∧ wr = w) (fun _ _ _ => 0)
  case atStart => exact ⟨rfl, rfl, rfl⟩
  case round =>
    obtain ⟨rfl, rfl, rfl⟩ := hrel
    go_wp2
    go_ret
    exact ⟨rfl, rfl⟩
theorem MarkC_zero : MarkC 0 := fun S B d L N k r x w hx hN hr h hN1 hL h0 hk => by
  have e1 := hN.out
  have e2 := hr.out
  have e : L = [] := by
    rcases h.out with ⟨_, _, e⟩ | ⟨b, hv, S', _, _, _, _, e, _, h7⟩
    · exact e
    · cases hv with
      | nil => exact e
      | cons m r => obtain ⟨S1, S2, _, _, _, h1, _⟩ := h7; exact h1.elim
  subst e hx e1
  obtain rfl : k = r := e2.symm
  refine (markS_zero B d k w hk).mono ?_
  rintro e w' ⟨rfl, rfl⟩
  exact ⟨⟨rfl, h.out⟩, OnlyS.refl _ _⟩
set_option maxRecDepth 8000 in
set_option maxHeartbeats 3200000 in
theorem MarkC_step (n : Nat) (IH : Hid (MarkC n)) : MarkC (n + 1) := fun S B d L N k r x w hx hN hr h hN1 hL h0 hk => by
  have e1 := hN.out
  have e2 := hr.out
  subst hx
  rcases h.out with ⟨rfl, rfl, rfl⟩ | ⟨kb, hv, S', rfl, hSb, hsub, hnb, rfl, hown0, hzn0⟩
  · subst e1
    obtain rfl : k = r := e2.symm
    refine (markS_zero none 0 k w hk).mono ?_
    rintro e w' ⟨rfl, rfl⟩
    exact ⟨⟨rfl, .inl ⟨rfl, rfl, rfl⟩⟩, OnlyS.refl _ _⟩
  · have HSb := Lib.hid hSb
    have Hsub := Lib.hid hsub
    have Hnb := Lib.hid hnb
    have HLv : Hid (N = hv.length) := by show _ = _; rw [e1, List.length_map]
    have hZ0 := Lib.hid hzn0
    have hown : w.ownsRow 0 26 6 (.slice (some ⟨kb, 0, none⟩) N d) N (hv.flatMap encHR) := by rw [HLv.out]; exact hown0
    have hbd : Hid (∀ j, (hj : j < hv.length) → k + sumN (n + 1) ((hv.take j).map (·.q)) + (4 + mkN (n + 1) hv[j].q) ≤ r) := fun j hj => by
      have h1 := sumN_succ (n + 1) (L := hv.map (·.q)) (j := j) (by simpa using hj)
      have h2 := sumN_le (n + 1) (hv.map (·.q)) (j + 1)
      rw [List.getElem_map] at h1
      rw [List.map_take, e2]
      omega
    clear hSb hsub hnb hown0 hzn0 h e1
    go_enter Tryd.func46, Tryd.ntmps46
    go_wp2_with fail
    go_loopw [1, 5] (fun m i wr => ∃ (j q : Nat), j ≤ N ∧ i = .int .i64 j ∧ m = .int .i64 (q : Int) ∧ Hid (q = k + sumN (n + 1) ((hv.take j).map (·.q))) ∧ wr.ownsRow 0 26 6 (.slice (some ⟨kb, 0, none⟩) N d) N ((mkHs (n + 1) (mkKs n) k (hv.take j) ++ hv.drop j).flatMap encHR) ∧ Hid (ZnQ (OwnQ (n + 1)) wr S' (mkHs (n + 1) (mkKs n) k (hv.take j) ++ hv.drop j)) ∧ Hid (OnlyS S w wr)) (fun _ i _ => N - (intOf i).toNat)
    case atStart => exact ⟨0, k, Nat.zero_le _, rfl, rfl, by show _ = _; simp [sumN], by simpa [mkHs] using hown, by simpa [mkHs] using hZ0, OnlyS.refl _ _⟩
    case round =>
      clear hown hZ0
      obtain ⟨j, q, hj, rfl, rfl, hq, hown, hzn, hz⟩ := hrel
      by_cases hlt : j < N
      · have hjv : j < hv.length := by have := HLv.out; omega
        have hi0 : (j : Int) < (N : Int) := by omega
        have hqb := hbd.out j hjv
        rw [← hq.out] at hqb
        have hPl : (mkHs (n + 1) (mkKs n) k (hv.take j)).length = j := by rw [mkHs_len, List.length_take]; omega
        have HNX : Hid (mkHs (n + 1) (mkKs n) k (hv.take (j + 1)) ++ hv.drop (j + 1) = mkHs (n + 1) (mkKs n) k (hv.take j) ++ mkHR (mkKs n) q hv[j] :: hv.drop (j + 1)) := by
          show _ = _
          rw [← List.take_append_getElem hjv, mkHs_snoc, ← hq.out, List.append_assoc]; rfl
        have HQX : Hid (k + sumN (n + 1) ((hv.take (j + 1)).map (·.q)) = q + (4 + mkN (n + 1) hv[j].q)) := by
          show _ = _
          rw [List.map_take, sumN_succ (n + 1) (by simpa using hjv), List.getElem_map, ← List.map_take, hq.out]; omega
        have hlm := hL.out hv[j].q (List.mem_map.2 ⟨_, List.getElem_mem hjv, rfl⟩)
        have hzn := hzn.out
        rw [List.drop_eq_getElem_cons hjv] at hown hzn
        clear hq
        generalize mkHs (n + 1) (mkKs n) k (hv.take j) = P at hown hzn HNX hPl
        obtain ⟨Q, hQ⟩ : ∃ Q, Q = hv.drop (j + 1) := ⟨_, rfl⟩
        rw [← hQ] at hown hzn
        have HQQ := Lib.hid hQ
        have HNX : Hid (mkHs (n + 1) (mkKs n) k (hv.take (j + 1)) ++ hv.drop (j + 1) = P ++ mkHR (mkKs n) q hv[j] :: Q) := by show _ = _; rw [HQQ.out]; exact HNX.out
        clear hQ
        generalize hv[j] = m at hown hzn HNX HQX hqb hlm
        obtain ⟨⟨mkd, mfd, mws, mfr, mto, mks⟩, A, c, B2, d2⟩ := m
        have e0 : ((P ++ ⟨⟨mkd, mfd, mws, mfr, mto, mks⟩, A, c, B2, d2⟩ :: Q).flatMap encHR)[j * 6]? = some (.int .i64 mkd) := by have := encHR_cells P Q ⟨⟨mkd, mfd, mws, mfr, mto, mks⟩, A, c, B2, d2⟩ 0 (by omega); rw [hPl] at this; exact this
        have e1 : ((P ++ ⟨⟨mkd, mfd, mws, mfr, mto, mks⟩, A, c, B2, d2⟩ :: Q).flatMap encHR)[j * 6 + 1]? = some (.string mfd) := by have := encHR_cells P Q ⟨⟨mkd, mfd, mws, mfr, mto, mks⟩, A, c, B2, d2⟩ 1 (by omega); rw [hPl] at this; exact this
        have e2 : ((P ++ ⟨⟨mkd, mfd, mws, mfr, mto, mks⟩, A, c, B2, d2⟩ :: Q).flatMap encHR)[j * 6 + 2]? = some (.slice A mws.length c) := by have := encHR_cells P Q ⟨⟨mkd, mfd, mws, mfr, mto, mks⟩, A, c, B2, d2⟩ 2 (by omega); rw [hPl] at this; exact this
        have e3 : ((P ++ ⟨⟨mkd, mfd, mws, mfr, mto, mks⟩, A, c, B2, d2⟩ :: Q).flatMap encHR)[j * 6 + 3]? = some (.int .i64 mfr) := by have := encHR_cells P Q ⟨⟨mkd, mfd, mws, mfr, mto, mks⟩, A, c, B2, d2⟩ 3 (by omega); rw [hPl] at this; exact this
        have e4 : ((P ++ ⟨⟨mkd, mfd, mws, mfr, mto, mks⟩, A, c, B2, d2⟩ :: Q).flatMap encHR)[j * 6 + 4]? = some (.int .i64 mto) := by have := encHR_cells P Q ⟨⟨mkd, mfd, mws, mfr, mto, mks⟩, A, c, B2, d2⟩ 4 (by omega); rw [hPl] at this; exact this
        have e5 : ((P ++ ⟨⟨mkd, mfd, mws, mfr, mto, mks⟩, A, c, B2, d2⟩ :: Q).flatMap encHR)[j * 6 + 5]? = some (.slice B2 mks.length d2) := by have := encHR_cells P Q ⟨⟨mkd, mfd, mws, mfr, mto, mks⟩, A, c, B2, d2⟩ 5 (by omega); rw [hPl] at this; exact this
        obtain ⟨S1, s1, ⟨Sa, Sk, sa, sk, hdd, hW, hK⟩, hback⟩ := ZnQ.focus OwnQ.same hzn
        dsimp only at hW hK
        have HS1 := Lib.hid s1
        have HSA := Lib.hid sa
        have HSK := Lib.hid sk
        have HDD := Lib.hid hdd
        have HW := Lib.hid hW
        have HK := Lib.hid hK
        have HB := Lib.hid hback
        have HKA : Hid (¬ Sa kb) := fun e => Hnb.out (s1 kb (sa kb e))
        have HKK : Hid (¬ Sk kb) := fun e => Hnb.out (s1 kb (sk kb e))
        obtain ⟨nm, hnm⟩ : ∃ nm, nm = mws.length := ⟨_, rfl⟩
        obtain ⟨nk, hnk⟩ : ∃ nk, nk = mks.length := ⟨_, rfl⟩
        obtain ⟨r1, hr1⟩ : ∃ r1, r1 = q + 2 + nm := ⟨_, rfl⟩
        obtain ⟨r2, hr2⟩ : ∃ r2, r2 = r1 + 2 + sumN n mks := ⟨_, rfl⟩
        have hmN : mkN (n + 1) ⟨mkd, mfd, mws, mfr, mto, mks⟩ = mws.length + sumN n mks := rfl
        dsimp only at hqb HQX
        rw [hmN, ← hnm] at hqb
        have hq2 : r2 ≤ 1000000000000000 := by omega
        have hq1 : r1 + 2 ≤ 1000000000000000 := by omega
        have hq0 : q + 2 ≤ 1000000000000000 := by omega
        have HQY : Hid (r2 = k + sumN (n + 1) ((hv.take (j + 1)).map (·.q))) := by show _ = _; rw [HQX.out, hmN, ← hnm]; omega
        have hlw : nm ≤ 1048576 := by rw [hnm]; exact hlm.2.1
        have hlk : nk ≤ 1048576 := by rw [hnk]; exact hlm.2.2.2.1
        have HLM := Lib.hid hlm.2.2.2.2
        have HNM := Lib.hid hnm
        have HNK := Lib.hid hnk
        have HR1 := Lib.hid hr1
        have HR2 := Lib.hid hr2
        have hr1q : q + 2 ≤ r1 := by omega
        have HST : Hid ((((((P ++ ⟨⟨mkd, mfd, mws, mfr, mto, mks⟩, A, c, B2, d2⟩ :: Q).flatMap encHR).set (j * 6) (.int .i64 (q : Int))).set (j * 6 + 1) (.string (mtx (q + 1)))).set (j * 6 + 3) (.int .i64 (r1 : Int))).set (j * 6 + 4) (.int .i64 ((r1 : Int) + 1)) = (P ++ mkHR (mkKs n) q ⟨⟨mkd, mfd, mws, mfr, mto, mks⟩, A, c, B2, d2⟩ :: Q).flatMap encHR) := by
          show _ = _
          have := encHR_set4 P Q ⟨⟨mkd, mfd, mws, mfr, mto, mks⟩, A, c, B2, d2⟩ (mkHR (mkKs n) q ⟨⟨mkd, mfd, mws, mfr, mto, mks⟩, A, c, B2, d2⟩) (.int .i64 (q : Int)) (.string (mtx (q + 1))) (.int .i64 (r1 : Int)) (.int .i64 ((r1 : Int) + 1)) (by
            have a1 : ((q + 2 + mws.length : Nat) : Int) = (r1 : Int) := by omega
            have a2 : ((q + 3 + mws.length : Nat) : Int) = (r1 : Int) + 1 := by omega
            simp only [encHR, encQ, mkHR, mkY, mkL_len, mkKs_len, a1, a2]
            rfl)
          rw [hPl] at this
          exact this
        rw [← hnm] at e2
        rw [← hnk] at e5
        clear hnm hnk hr1 hr2 hqb hlm HQX hmN s1 sa sk hdd hW hK hback hzn hPl
        have x0 := (hown.cellAt (j * 6) (by omega)).trans e0
        have z0 := hown.frozenAt (j * 6)
        have A1 := Lib.hid (hown.stored (j * 6) (.int .i64 (q : Int)))
        have E1 : Hid ((((P ++ ⟨⟨mkd, mfd, mws, mfr, mto, mks⟩, A, c, B2, d2⟩ :: Q).flatMap encHR).set (j * 6) (.int .i64 (q : Int)))[j * 6 + 1]? = some (.string mfd)) := by show _ = _; rw [List.getElem?_set_ne (by omega)]; exact e1
        have E2 : Hid ((((P ++ ⟨⟨mkd, mfd, mws, mfr, mto, mks⟩, A, c, B2, d2⟩ :: Q).flatMap encHR).set (j * 6) (.int .i64 (q : Int)))[j * 6 + 2]? = some (.slice A nm c)) := by show _ = _; rw [List.getElem?_set_ne (by omega)]; exact e2
        have E3 : Hid (((((P ++ ⟨⟨mkd, mfd, mws, mfr, mto, mks⟩, A, c, B2, d2⟩ :: Q).flatMap encHR).set (j * 6) (.int .i64 (q : Int))).set (j * 6 + 1) (.string (mtx (q + 1))))[j * 6 + 3]? = some (.int .i64 mfr)) := by show _ = _; rw [List.getElem?_set_ne (by omega), List.getElem?_set_ne (by omega)]; exact e3
        have E4 : Hid (((((P ++ ⟨⟨mkd, mfd, mws, mfr, mto, mks⟩, A, c, B2, d2⟩ :: Q).flatMap encHR).set (j * 6) (.int .i64 (q : Int))).set (j * 6 + 1) (.string (mtx (q + 1))))[j * 6 + 4]? = some (.int .i64 mto)) := by show _ = _; rw [List.getElem?_set_ne (by omega), List.getElem?_set_ne (by omega)]; exact e4
        have E5 : Hid (((((P ++ ⟨⟨mkd, mfd, mws, mfr, mto, mks⟩, A, c, B2, d2⟩ :: Q).flatMap encHR).set (j * 6) (.int .i64 (q : Int))).set (j * 6 + 1) (.string (mtx (q + 1))))[j * 6 + 5]? = some (.slice B2 nk d2)) := by show _ = _; rw [List.getElem?_set_ne (by omega), List.getElem?_set_ne (by omega)]; exact e5
        clear e0 e1 e2 e3 e4 e5 hown
        generalize (P ++ ⟨⟨mkd, mfd, mws, mfr, mto, mks⟩, A, c, B2, d2⟩ :: Q).flatMap encHR = X at HST A1 E1 E2 E3 E4 E5
        go_wp2_with fail
        refine (markText_x (q + 1) _ (by omega) (by omega) (by omega) _).mono ?_
        rintro e w2 ⟨rfl, hb2⟩
        have own2 := own_belowZ A1.out.1 hb2
        have x1 := (own2.cellAt (j * 6 + 1) (by omega)).trans E1.out
        have x2 := (own2.cellAt (j * 6 + 2) (by omega)).trans E2.out
        have z1 := own2.frozenAt (j * 6 + 1)
        have a2 := own2.stored (j * 6 + 1) (.string (mtx (q + 1)))
        have OK1 : Hid (OnlyS (fun b => b = kb) wr (w2.setCell ⟨kb, j * 6 + 1, none⟩ (.string (mtx (q + 1))))) := ((OnlyS.grown (S := fun b => b = kb) A1.out.2 rfl).trans (OnlyS.of hb2)).trans (OnlyS.grown (S := fun b => b = kb) a2.2 rfl)
        have O3 := Lib.hid a2.1
        clear a2 own2 A1 hb2 x0 z0 E1 E2
        generalize mtx (q + 1) = t at HST OK1 O3 E3 E4 E5 ⊢
        have HW3 : Hid (OwnW Sa (w2.setCell ⟨kb, j * 6 + 1, none⟩ (.string t)) A c mws) := HW.out.same (SameS.only OK1.out (fun k hk e => HKA.out (e ▸ hk)))
        go_wp2_with fail
        refine (markW_any Sa A c mws nm (q + 2) r1 _ (by omega) HNM HR1 _ HW3 hlw (by omega) (by omega)).mono ?_
        rintro e w4 ⟨⟨rfl, hw4⟩, o4⟩
        have own4 := own_blk O3.out (o4.2.2 kb (O3.out.lt kb rfl).2 HKA.out)
        have x3 := (own4.cellAt (j * 6 + 3) (by omega)).trans E3.out
        have x4 := (own4.cellAt (j * 6 + 4) (by omega)).trans E4.out
        have x5 := (own4.cellAt (j * 6 + 5) (by omega)).trans E5.out
        have z3 := own4.frozenAt (j * 6 + 3)
        have z4 := own4.frozenAt (j * 6 + 4)
        have a3 := own4.stored (j * 6 + 3) (.int .i64 (r1 : Int))
        have a4 := a3.1.stored (j * 6 + 4) (.int .i64 ((r1 : Int) + 1))
        have OKa : Hid (OnlyS (fun b => b = kb) w4 ((w4.setCell ⟨kb, j * 6 + 3, none⟩ (.int .i64 (r1 : Int))).setCell ⟨kb, j * 6 + 4, none⟩ (.int .i64 ((r1 : Int) + 1)))) := (OnlyS.grown (S := fun b => b = kb) a3.2 rfl).trans (OnlyS.grown (S := fun b => b = kb) a4.2 rfl)
        have OK2 : Hid (OnlyS (fun b => b = kb ∨ Sa b) wr ((w4.setCell ⟨kb, j * 6 + 3, none⟩ (.int .i64 (r1 : Int))).setCell ⟨kb, j * 6 + 4, none⟩ (.int .i64 ((r1 : Int) + 1)))) :=
          ((OK1.out.up (fun k hk => .inl hk)).trans (o4.up (fun k hk => .inr hk))).trans (OKa.out.up (fun k hk => .inl hk))
        have O5 := Lib.hid a4.1
        have HW4 := Lib.hid hw4
        have HK6 : Hid (OwnKs (OwnQ n) Sk ((w4.setCell ⟨kb, j * 6 + 3, none⟩ (.int .i64 (r1 : Int))).setCell ⟨kb, j * 6 + 4, none⟩ (.int .i64 ((r1 : Int) + 1))) B2 d2 mks) :=
          HK.out.same OwnQ.same (SameS.only OK2.out (fun k hk e => e.elim (fun e => HKK.out (e ▸ hk)) (fun e => HDD.out k e hk)))
        clear a3 a4 own4 O3 hw4 o4 OK1 HW3 HW HK x1 x2 z1 E3 E4 E5
        go_wp2_with fail
        refine (IH.out Sk B2 d2 mks nk (r1 + 2) r2 _ _ (by omega) HNK HR2 HK6 hlk HLM (by omega) (by omega)).mono ?_
        rintro e w7 ⟨⟨rfl, hk7⟩, o7⟩
        have hkb := (O5.out.lt kb rfl).2
        have O7 : Hid (w7.ownsRow 0 26 6 (.slice (some ⟨kb, 0, none⟩) N d) N ((mkHs (n + 1) (mkKs n) k (hv.take (j + 1)) ++ hv.drop (j + 1)).flatMap encHR)) := by
          have := own_blk O5.out (o7.2.2 kb hkb HKK.out)
          rw [HST.out] at this
          rw [HNX.out]
          exact this
        have OU : OnlyS (fun b => b = kb ∨ S1 b) wr w7 := (OK2.out.up (fun k hk => hk.elim .inl (fun h => .inr (HSA.out k h)))).trans (o7.up (fun k hk => .inr (HSK.out k hk)))
        have HW7 : OwnW Sa w7 A c (mkL (q + 2) nm) := HW4.out.same (SameS.only ((OKa.out.up (T := fun b => b = kb ∨ Sk b) (fun k hk => .inl hk)).trans (o7.up (fun k hk => .inr hk))) (fun k hk e => e.elim (fun e => HKA.out (e ▸ hk)) (fun e => HDD.out k hk e)))
        have ZN : Hid (ZnQ (OwnQ (n + 1)) w7 S' (mkHs (n + 1) (mkKs n) k (hv.take (j + 1)) ++ hv.drop (j + 1))) := by
          rw [HNX.out]
          refine HB.out w7 _ ⟨Sa, Sk, HSA.out, HSK.out, HDD.out, ?_, ?_⟩ (fun k h1 h2 h3 => OU.2.2 k h3 (fun e => e.elim (fun e => Hnb.out (e ▸ h1)) h2))
          · show OwnW Sa w7 A c (mkL (q + 2) mws.length); rw [← HNM.out]; exact HW7
          · show OwnKs (OwnQ n) Sk w7 B2 d2 (mkKs n (q + 4 + mws.length) mks)
            rw [show q + 4 + mws.length = r1 + 2 by have := HR1.out; have := HNM.out; omega]; exact hk7
        have HZ : Hid (OnlyS S w w7) := hz.out.trans (OU.up (fun k hk => hk.elim (fun e => e ▸ HSb.out) (fun h => Hsub.out k (HS1.out k h))))
        clear OU HW7 hk7 o7 HW4 OKa OK2 O5 HK6 hkb HB hz x3 x4 x5 z3 z4 HST HNX
        go_wp2
        go_roundw
        case rel => exact ⟨j + 1, r2, by omega, by go_num, rfl, HQY, O7.out, ZN, HZ⟩
        case measure => simp [intOf]; omega
      · obtain rfl : j = N := by omega
        have hq2 : Hid (q = r) := by show _ = _; rw [hq.out, e2, HLv.out, List.take_length]
        have O5 : Hid (OwnKs (OwnQ (n + 1)) S wr (some ⟨kb, 0, none⟩) d (mkKs (n + 1) k (hv.map (·.q)))) := by
          have hzn := hzn.out
          rw [HLv.out, List.take_length, List.drop_length, List.append_nil] at hown hzn
          refine .inr ⟨kb, mkHs (n + 1) (mkKs n) k hv, S', rfl, HSb.out, Hsub.out, Hnb.out, (mkHs_q _ _ _ _).symm, ?_, hzn⟩
          unfold OwnE
          rw [mkHs_len]
          exact hown
        clear hown hq hzn
        go_wp2
        go_ret
        exact ⟨⟨by rw [hq2.out]; rfl, O5.out⟩, hz.out⟩
theorem markQueryS_any (n : Nat) : MarkC n := by
  induction n with
  | zero => exact MarkC_zero
  | succ n ih => exact MarkC_step n ih
end Go.Proofs.YtaobgliimbmemaaDoor
namespace Go.Proofs.YtaobgliimbmemaaDoor
open Go.RowKit Go.Sort

def HeldC (n : Nat) : Prop := ∀ (B : Option Addr) (d : Nat) (L : List QD) (N k r : Nat) (x : Int) (w : World), x = (k : Int) → Hid (N = L.length) → Hid (r = k + sumN n L) → Hid (RdK (HasQ n) w B (mkKs n k L)) → N ≤ 1048576 → Hid (∀ y ∈ L, LmQ 1048576 n y) → 1 ≤ k → r ≤ 1000000000000000 →
  Calls Tryd.prog 47 #[.slice B N d, .int .i64 x] w fun e w' => e = .returned (.int .i64 (r : Int)) ∧ Below w.heap.size w w'
theorem heldStringS_x (A : Option Addr) (c : Nat) (k n r : Nat) (x : Int) (hx : x = (k : Int)) (hr : Hid (r = k + n)) (w : World) (h : SrcT w A c (mkL k n)) (hn : n ≤ 1048576) (h0 : 1 ≤ k) (h1 : k ≤ 2305843009213693952) :
    Calls Tryd.prog 36 #[.slice A n c, .int .i64 x] w fun e w' => e = .returned (.int .i64 (r : Int)) ∧ Below w.heap.size w w' := by
  have e := hr.out
  subst hx e
  exact heldStringS_any A c k n w h hn h0 h1
theorem heldS_zero (B : Option Addr) (d : Nat) (k : Nat) (w : World) (hk : k ≤ 1000000000000000) :
    Calls Tryd.prog 47 #[.slice B 0 d, .int .i64 (k : Int)] w fun e w' => e = .returned (.int .i64 (k : Int)) ∧ Below w.heap.size w w' := by
  go_enter Tryd.func47, Tryd.ntmps47
  go_wp2_with fail
  go_loopw [1, 5] (fun m i wr => m = .int .i64 (k : Int) ∧ i = .int .i64 0 ∧ wr = w) (fun _ _ _ => 0)
  case atStart => exact ⟨rfl, rfl, rfl⟩
  case round =>
    obtain ⟨rfl, rfl, rfl⟩ := hrel
    go_wp2
    go_ret
    exact ⟨rfl, Below.refl _ _⟩
theorem HeldC_zero : HeldC 0 := fun B d L N k r x w hx hN hr h hN1 hL h0 hk => by
  have e1 := hN.out
  have e2 := hr.out
  have e : L = [] := by
    cases L with
    | nil => rfl
    | cons y r => obtain ⟨b, off, A1, c1, B1, d1, _, _, _, h1⟩ := h.out 0 (by show 0 < (y :: r).length; simp); exact h1.elim
  subst e hx e1
  obtain rfl : k = r := e2.symm
  exact heldS_zero B d k w hk
set_option maxRecDepth 8000 in
set_option maxHeartbeats 3200000 in
theorem HeldC_step (n : Nat) (IH : Hid (HeldC n)) : HeldC (n + 1) := fun B d L N k r x w hx hN hr h hN1 hL h0 hk => by
  have hbd : Hid (∀ j, (hj : j < L.length) → k + sumN (n + 1) (L.take j) + (4 + mkN (n + 1) L[j]) ≤ r) := fun j hj => by
    have h1 := sumN_succ (n + 1) hj
    have h2 := sumN_le (n + 1) L (j + 1)
    rw [hr.out]
    omega
  subst hx
  go_enter Tryd.func47, Tryd.ntmps47
  go_wp2_with fail
  go_loopw [1, 5] (fun m i wr => ∃ (j q : Nat), j ≤ N ∧ i = .int .i64 j ∧ m = .int .i64 (q : Int) ∧ Hid (q = k + sumN (n + 1) (L.take j)) ∧ Hid (Below w.heap.size w wr)) (fun _ i _ => N - (intOf i).toNat)
  case atStart => exact ⟨0, k, Nat.zero_le _, rfl, rfl, by show _ = _; simp [sumN], Below.refl _ _⟩
  case round =>
    obtain ⟨j, q, hj, rfl, rfl, hq, hB0⟩ := hrel
    by_cases hlt : j < N
    · have hjL : j < L.length := by have := hN.out; omega
      have hi0 : (j : Int) < (N : Int) := by omega
      have hqb := hbd.out j hjL
      rw [← hq.out] at hqb
      have HQX : Hid (k + sumN (n + 1) (L.take (j + 1)) = q + (4 + mkN (n + 1) L[j])) := by
        show _ = _
        rw [sumN_succ (n + 1) hjL, hq.out]; omega
      have hlm := hL.out L[j] (List.getElem_mem hjL)
      have hjm : j < (mkKs (n + 1) k L).length := by rw [mkKs_len]; exact hjL
      have hB := hB0.out
      obtain ⟨b, off, A1, c1, B1, d1, rfl, hb, y0, y1, y2, y3, y4, y5, hh⟩ := (rdQ_below h.out hB).cells hjm
      have hg2 : (mkKs (n + 1) k L)[j] = mkY (mkKs n) q L[j] := by
        have h1 := mkZ_get (n + 1) (mkKs n) L k j hjL
        rw [← hq.out] at h1
        exact Option.some.inj ((List.getElem?_eq_getElem hjm).symm.trans h1)
      rw [hg2] at y0 y1 y2 y3 y4 y5 hh
      clear hg2 hjm hq
      generalize L[j] = m at y0 y1 y2 y3 y4 y5 hh HQX hqb hlm
      obtain ⟨mkd, mfd, mws, mfr, mto, mks⟩ := m
      obtain ⟨nm, hnm⟩ : ∃ nm, nm = mws.length := ⟨_, rfl⟩
      obtain ⟨nk, hnk⟩ : ∃ nk, nk = mks.length := ⟨_, rfl⟩
      obtain ⟨r1, hr1⟩ : ∃ r1, r1 = q + 2 + nm := ⟨_, rfl⟩
      obtain ⟨r2, hr2⟩ : ∃ r2, r2 = r1 + 2 + sumN n mks := ⟨_, rfl⟩
      have hmN : mkN (n + 1) ⟨mkd, mfd, mws, mfr, mto, mks⟩ = mws.length + sumN n mks := rfl
      rw [hmN, ← hnm] at hqb
      have x0 : wr.cell? ⟨b, off + j * 6, none⟩ = some (.int .i64 (q : Int)) := y0
      have x1 : wr.cell? ⟨b, off + j * 6 + 1, none⟩ = some (.string (mtx (q + 1))) := y1
      have x2 : wr.cell? ⟨b, off + j * 6 + 2, none⟩ = some (.slice A1 nm c1) := by rw [hnm, ← mkL_len (q + 2) mws.length]; exact y2
      have x3 : wr.cell? ⟨b, off + j * 6 + 3, none⟩ = some (.int .i64 (r1 : Int)) := by rw [hr1, hnm]; exact y3
      have x4 : wr.cell? ⟨b, off + j * 6 + 4, none⟩ = some (.int .i64 ((r1 : Int) + 1)) := by rw [show (r1 : Int) + 1 = ((q + 3 + mws.length : Nat) : Int) by omega]; exact y4
      have x5 : wr.cell? ⟨b, off + j * 6 + 5, none⟩ = some (.slice B1 nk d1) := by rw [hnk, ← mkKs_len n (q + 4 + mws.length) mks]; exact y5
      have hS : Hid (SrcT wr A1 c1 (mkL (q + 2) nm)) := by rw [hnm]; exact hh.1.1
      have hK : Hid (RdK (HasQ n) wr B1 (mkKs n (r1 + 2) mks)) := by rw [show r1 + 2 = q + 4 + mws.length by omega]; exact hh.2
      have hq2 : r2 ≤ 1000000000000000 := by omega
      have hq1 : r1 + 2 ≤ 1000000000000000 := by omega
      have hq0 : q + 2 ≤ 1000000000000000 := by omega
      have HQY : Hid (r2 = k + sumN (n + 1) (L.take (j + 1))) := by show _ = _; rw [HQX.out, hmN, ← hnm]; omega
      have hlw : nm ≤ 1048576 := by rw [hnm]; exact hlm.2.1
      have hlk : nk ≤ 1048576 := by rw [hnk]; exact hlm.2.2.2.1
      have HLM := Lib.hid hlm.2.2.2.2
      have HNK := Lib.hid hnk
      have HR1 := Lib.hid hr1
      have HR2 := Lib.hid hr2
      have hr1q : q + 2 ≤ r1 := by omega
      clear y0 y1 y2 y3 y4 y5 hh hnm hnk hr1 hr2 hqb hlm HQX hmN
      have k1 := cell_regrown x1
      have hxq : (q : Int) + 1 = ((q + 1 : Nat) : Int) := by omega
      have hkj1 : 1 ≤ q + 1 := by omega
      have hkj2 : q + 1 ≤ 4611686018427387904 := by omega
      have HX := Lib.hid hxq
      clear hxq
      go_wp2_with fail
      refine region_qw (by kernel_rfl) (by kernel_rfl) ?_
      repeat (
        refine qw_step (fun K hK => ?_)
        go_simp
        first
          | (refine hK _ ?_; clear hK K)
          | (apply Exists.intro
             refine ⟨fun _ => ?_, hK _ ?_⟩
             (first | (go_at_call 66; exact cMarkText_x (q + 1) _ HX.out hkj1 hkj2 _ _ _))
             clear hK K))
      refine qw_nil ?_
      intro _ hw'
      obtain ⟨⟨dq, osq⟩, hw''⟩ := hw'
      subst hw''
      have hbw := below_regrown wr dq osq
      dsimp only
      generalize grow (redrawn wr dq) osq = Wq at hbw ⊢
      have hBq := Lib.hid (hB.trans (hbw.mono hB.size))
      have w2 := (hbw.cell (p := ⟨b, off + j * 6 + 2, none⟩) hb).trans x2
      have w3 := (hbw.cell (p := ⟨b, off + j * 6 + 3, none⟩) hb).trans x3
      have w4 := (hbw.cell (p := ⟨b, off + j * 6 + 4, none⟩) hb).trans x4
      have w5 := (hbw.cell (p := ⟨b, off + j * 6 + 5, none⟩) hb).trans x5
      have hSq := Lib.hid (SrcE.below hS.out hbw)
      have hKq := Lib.hid (rdQ_below hK.out hbw)
      have hbq := blt hbw b hb
      clear x0 x1 x2 x3 x4 x5 k1 hbw hS hK hB hB0 hb
      go_wp2_with fail
      refine (heldStringS_x A1 c1 (q + 2) nm r1 _ (by omega) HR1 _ hSq.out hlw (by omega) (by omega)).mono ?_
      rintro e W2 ⟨rfl, hb2⟩
      have hB2 := Lib.hid (hBq.out.trans (hb2.mono hBq.out.size))
      have v3 := (hb2.cell (p := ⟨b, off + j * 6 + 3, none⟩) hbq).trans w3
      have v4 := (hb2.cell (p := ⟨b, off + j * 6 + 4, none⟩) hbq).trans w4
      have v5 := (hb2.cell (p := ⟨b, off + j * 6 + 5, none⟩) hbq).trans w5
      have hKr := Lib.hid (rdQ_below hKq.out hb2)
      have hd : decide ((r1 : Int) < 0) = false := decide_eq_false (by omega)
      clear w2 w3 w4 w5 hSq hKq hb2 hBq hbq
      go_wp2_with fail
      refine (IH.out B1 d1 mks nk (r1 + 2) r2 _ _ (by omega) HNK HR2 hKr hlk HLM (by omega) (by omega)).mono ?_
      rintro e W3 ⟨rfl, hb3⟩
      have hB3 := Lib.hid (hB2.out.trans (hb3.mono hB2.out.size))
      have hd2 : decide ((r2 : Int) < 0) = false := decide_eq_false (by omega)
      clear v3 v4 v5 hKr hb3 hB2
      go_wp2
      go_roundw
      case rel => exact ⟨j + 1, r2, by omega, by go_num, rfl, HQY, hB3⟩
      case measure => simp [intOf]; omega
    · have hq2 : Hid (q = r) := by show _ = _; rw [hq.out, hr.out, List.take_of_length_le (by have := hN.out; omega)]
      clear hq
      go_wp2
      go_ret
      exact ⟨by rw [hq2.out]; rfl, hB0.out⟩
theorem heldQueryS_any (n : Nat) : HeldC n := by
  induction n with
  | zero => exact HeldC_zero
  | succ n ih => exact HeldC_step n ih
/-- a question with its marks. -/
def mkT (n k : Nat) (q : QD) : QD := ⟨q.kd, q.fd, mkL k q.ws.length, q.fr, q.tgt, mkKs n (k + q.ws.length) q.ks⟩
theorem markQuery_any (n : Nat) (S : PS) (h : HdR) (k r : Nat) (w : World) (hr : Hid (r = k + mkN (n + 1) h.q)) (ho : Hid (OwnQ (n + 1) S w h)) (hL : Hid (LmQ 1048576 (n + 1) h.q)) (h0 : 1 ≤ k) (hk : r ≤ 1000000000000000) :
    Calls Tryd.prog 19 #[.agg #[.int .i64 h.q.kd, .string h.q.fd, .slice h.A h.q.ws.length h.c, .int .i64 h.q.fr, .int .i64 h.q.tgt, .slice h.B h.q.ks.length h.d], .int .i64 (k : Int)] w fun e w' => (e = .returned (.int .i64 (r : Int)) ∧ OwnQ (n + 1) S w' ⟨mkT n k h.q, h.A, h.c, h.B, h.d⟩) ∧ OnlyS S w w' := by
  obtain ⟨⟨qkd, qfd, qws, qfr, qto, qks⟩, A, c, B, d⟩ := h
  dsimp only at hr ho hL ⊢
  obtain ⟨S1, S2, s1, s2, hd, hW, hK⟩ := ho.out
  dsimp only at hW hK
  have ⟨hl1, hl2, hl3, hl4, hl5⟩ := hL.out
  dsimp only at hl2 hl4
  obtain ⟨nm, hnm⟩ : ∃ nm, nm = qws.length := ⟨_, rfl⟩
  obtain ⟨nk, hnk⟩ : ∃ nk, nk = qks.length := ⟨_, rfl⟩
  obtain ⟨r1, hr1⟩ : ∃ r1, r1 = k + nm := ⟨_, rfl⟩
  have hr2 : Hid (r = r1 + sumN n qks) := by show _ = _; rw [hr.out, mkN_eq]; dsimp only; omega
  have hr3 : r1 ≤ r := by have := hr2.out; omega
  have hk1 : k ≤ r1 := by omega
  rw [← hnm] at hl2 ⊢
  rw [← hnk] at hl4 ⊢
  have HNM := Lib.hid hnm
  have HNK := Lib.hid hnk
  have HR1 := Lib.hid hr1
  have HS1 := Lib.hid s1
  have HS2 := Lib.hid s2
  have HD := Lib.hid hd
  have HLM := Lib.hid hl5
  have hB : Below w.heap.size w (w.alloc (.cells #[.int .i64 qkd, .string qfd, .slice A nm c, .int .i64 qfr, .int .i64 qto, .slice B nk d] 26)) := (Below.refl _ _).alloc (Nat.le_refl _) _
  have f5 : (w.alloc (.cells #[.int .i64 qkd, .string qfd, .slice A nm c, .int .i64 qfr, .int .i64 qto, .slice B nk d] 26)).cell? ⟨w.heap.size, 5, none⟩ = some (.slice B nk d) := by simp [go_sem]
  have hsz : w.heap.size < (w.alloc (.cells #[.int .i64 qkd, .string qfd, .slice A nm c, .int .i64 qfr, .int .i64 qto, .slice B nk d] 26)).heap.size := by simp
  have HW0 : Hid (OwnW (fun b => S1 b ∧ b < w.heap.size) (w.alloc (.cells #[.int .i64 qkd, .string qfd, .slice A nm c, .int .i64 qfr, .int .i64 qto, .slice B nk d] 26)) A c qws) := by
    refine OwnW.same ?_ (SameS.below hB)
    rcases hW with h | ⟨a, h1, h2, h3⟩
    · exact .inl h
    · exact .inr ⟨a, h1, ⟨h2, (OwnE.capOk h3).2.2.2⟩, h3⟩
  have HK0 : Hid (OwnKs (OwnQ n) S2 (w.alloc (.cells #[.int .i64 qkd, .string qfd, .slice A nm c, .int .i64 qfr, .int .i64 qto, .slice B nk d] 26)) B d qks) := hK.same OwnQ.same (SameS.below hB)
  clear hnm hnk hr1 s1 s2 hd hl1 hl3 hl5 hW hK ho hL hr
  go_enter Tryd.func19, Tryd.ntmps19
  go_wp2_with fail
  generalize (w.alloc (.cells #[.int .i64 qkd, .string qfd, .slice A nm c, .int .i64 qfr, .int .i64 qto, .slice B nk d] 26)) = W0 at hB f5 hsz HW0 HK0 ⊢
  refine (markW_any _ A c qws nm k r1 _ rfl HNM HR1 _ HW0 hl2 h0 (by omega)).mono ?_
  rintro e w1 ⟨⟨rfl, hw1⟩, o1⟩
  have g5 : w1.cell? ⟨w.heap.size, 5, none⟩ = some (.slice B nk d) := (World.cell?_of_block (w := W0) (a := ⟨w.heap.size, 5, none⟩) (o1.2.2 _ hsz (fun e => absurd e.2 (Nat.lt_irrefl _)))).trans f5
  have HW1 := Lib.hid hw1
  have HK1 : Hid (OwnKs (OwnQ n) S2 w1 B d qks) := HK0.out.same OwnQ.same (SameS.only o1 (fun k hk e => HD.out k e.1 hk))
  have O1 : Hid (OnlyS S w w1) := (OnlyS.of hB).trans (o1.up (fun k hk => HS1.out k hk.1))
  clear hw1 o1 HK0 HW0 f5 hsz hB
  go_wp2_with fail
  refine (markQueryS_any n S2 B d qks nk r1 r _ _ rfl HNK hr2 HK1 hl4 HLM (by omega) hk).mono ?_
  rintro e w2 ⟨⟨rfl, hk2⟩, o2⟩
  have O2 : Hid (OnlyS S w w2) := O1.out.trans (o2.up HS2.out)
  have HQ2 : Hid (OwnQ (n + 1) S w2 ⟨mkT n k ⟨qkd, qfd, qws, qfr, qto, qks⟩, A, c, B, d⟩) := by
    refine ⟨S1, S2, HS1.out, HS2.out, HD.out, ?_, ?_⟩
    · show OwnW S1 w2 A c (mkL k qws.length)
      rw [← HNM.out]
      exact (HW1.out.same (SameS.only o2 (fun k hk e => HD.out k hk.1 e))).sup (fun k hk => hk.1)
    · show OwnKs (OwnQ n) S2 w2 B d (mkKs n (k + qws.length) qks)
      rw [← HNM.out, ← HR1.out]
      exact hk2
  clear hk2 o2 HK1 HW1 O1 g5
  go_wp2
  go_ret
  exact ⟨⟨rfl, HQ2.out⟩, O2.out⟩
theorem heldQuery_any (n : Nat) (q : QD) (A : Option Addr) (c : Nat) (B : Option Addr) (d : Nat) (k r : Nat) (w : World) (hr : Hid (r = k + mkN (n + 1) q)) (h : Hid (HasQ (n + 1) w (mkT n k q) A c B)) (hL : Hid (LmQ 1048576 (n + 1) q)) (h0 : 1 ≤ k) (hk : r ≤ 1000000000000000) :
    Calls Tryd.prog 20 #[.agg #[.int .i64 q.kd, .string q.fd, .slice A q.ws.length c, .int .i64 q.fr, .int .i64 q.tgt, .slice B q.ks.length d], .int .i64 (k : Int)] w fun e w' => e = .returned (.int .i64 (r : Int)) ∧ Below w.heap.size w w' := by
  obtain ⟨qkd, qfd, qws, qfr, qto, qks⟩ := q
  dsimp only at hr h hL ⊢
  obtain ⟨hW, hK⟩ := h.out
  have ⟨hl1, hl2, hl3, hl4, hl5⟩ := hL.out
  dsimp only at hl2 hl4
  obtain ⟨nm, hnm⟩ : ∃ nm, nm = qws.length := ⟨_, rfl⟩
  obtain ⟨nk, hnk⟩ : ∃ nk, nk = qks.length := ⟨_, rfl⟩
  obtain ⟨r1, hr1⟩ : ∃ r1, r1 = k + nm := ⟨_, rfl⟩
  have hr2 : Hid (r = r1 + sumN n qks) := by show _ = _; rw [hr.out, mkN_eq]; dsimp only; omega
  have hr3 : r1 ≤ r := by have := hr2.out; omega
  have hk1 : k ≤ r1 := by omega
  have HW : Hid (SrcT w A c (mkL k nm)) := by rw [hnm]; exact hW.1
  have HK : Hid (RdK (HasQ n) w B (mkKs n r1 qks)) := by rw [hr1, hnm]; exact hK
  rw [← hnm] at hl2 ⊢
  rw [← hnk] at hl4 ⊢
  have HNK := Lib.hid hnk
  have HR1 := Lib.hid hr1
  have HLM := Lib.hid hl5
  have hB : Below w.heap.size w (w.alloc (.cells #[.int .i64 qkd, .string qfd, .slice A nm c, .int .i64 qfr, .int .i64 qto, .slice B nk d] 26)) := (Below.refl _ _).alloc (Nat.le_refl _) _
  have f5 : (w.alloc (.cells #[.int .i64 qkd, .string qfd, .slice A nm c, .int .i64 qfr, .int .i64 qto, .slice B nk d] 26)).cell? ⟨w.heap.size, 5, none⟩ = some (.slice B nk d) := by simp [go_sem]
  have hsz : w.heap.size < (w.alloc (.cells #[.int .i64 qkd, .string qfd, .slice A nm c, .int .i64 qfr, .int .i64 qto, .slice B nk d] 26)).heap.size := by simp
  clear hnm hnk hr1 hl1 hl3 hl5 hW hK h hL hr
  go_enter Tryd.func20, Tryd.ntmps20
  go_wp2_with fail
  generalize (w.alloc (.cells #[.int .i64 qkd, .string qfd, .slice A nm c, .int .i64 qfr, .int .i64 qto, .slice B nk d] 26)) = W0 at hB f5 hsz ⊢
  refine (heldStringS_x A c k nm r1 _ rfl HR1 _ (SrcE.below HW.out hB) hl2 h0 (by omega)).mono ?_
  rintro e w1 ⟨rfl, hb1⟩
  have g5 := (hb1.cell (p := ⟨w.heap.size, 5, none⟩) hsz).trans f5
  have hB1 := hB.trans (hb1.mono hB.size)
  have hd : decide ((r1 : Int) < 0) = false := decide_eq_false (by omega)
  have HK1 := Lib.hid (rdQ_below HK.out hB1)
  clear HK HW f5 hsz hb1 hB
  go_wp2_with fail
  refine (heldQueryS_any n B d qks nk r1 r _ _ rfl HNK hr2 HK1 hl4 HLM (by omega) hk).mono ?_
  rintro e w2 ⟨rfl, hb2⟩
  have hB2 := hB1.trans (hb2.mono hB1.size)
  have hd2 : decide ((r : Int) < 0) = false := decide_eq_false (by omega)
  clear HK1 hb2 hB1 g5
  go_wp2
  go_ret
  exact ⟨rfl, hB2⟩
end Go.Proofs.YtaobgliimbmemaaDoor
namespace Go.Proofs.YtaobgliimbmemaaDoor
open Go.RowKit Go.Sort

theorem mkN_le : ∀ (n : Nat) (q : QD), mkN n q ≤ 4 * cntQ n q
  | 0, _ => Nat.le_refl _
  | n + 1, q => by
    rw [mkN_eq, cntQ_eq]
    have h : ∀ L : List QD, sumN n L ≤ 4 * (L.length + cntK n L) := fun L => by
      induction L with
      | nil => exact Nat.zero_le _
      | cons y r ih =>
        have h1 := mkN_le n y
        unfold sumN cntK at ih ⊢
        simp only [List.map_cons, List.sum_cons, List.length_cons]
        omega
    have := h q.ks
    omega
theorem snipR_len (dd : ConfD) (q : QD) : (snipR dd q).length ≤ 25600 := by
  unfold snipR
  split
  · rename_i h
    rw [Bool.and_eq_true] at h
    exact spec17_len dd 4 q h.2
  · simp
theorem OnlyS.belowS {S : PS} {w w' : World} {B : Nat} (h : OnlyS S w w') (hs : ∀ k, S k → B ≤ k) (hB : B ≤ w.heap.size) : Below B w w' :=
  ⟨h.1.1, h.1.2.1, h.1.2.2, h.2.1, fun k hk => h.2.2 k (by omega) (fun e => by have := hs k e; omega)⟩
theorem boxes2 (w : World) (o1 o2 : Obj) : ∀ W : World, W = (w.alloc o1).alloc o2 → W.heap[w.heap.size]? = some o1 ∧ W.heap[w.heap.size + 1]? = some o2 ∧ Below w.heap.size w W ∧ w.heap.size + 1 < W.heap.size := by
  rintro W rfl
  have e1 : (w.alloc o1).heap.size = w.heap.size + 1 := by simp
  refine ⟨alloc_elder (alloc_new w o1), ?_, (((Below.refl _ w).alloc (Nat.le_refl _) o1).alloc (by omega) o2), by simp⟩
  have := alloc_new (w.alloc o1) o2; rw [e1] at this; exact this
theorem markConf_e {d : ConfD} {hv : List HdY} {g1 c1 g2 c2 base T : Nat} {w : World} (h : OwnC w base d g1 c1 g2 c2 hv) (hs : SmC d) (hT1 : g1 < T) (hT2 : g2 < T) (hT3 : ∀ m ∈ hv, m.g < T) (hTw : T ≤ w.heap.size) :
    Calls Tryd.prog 34 #[.agg #[.slice (some ⟨g1, 0, none⟩) d.st.length c1, .slice (some ⟨g2, 0, none⟩) d.sy.length c2], .int .i64 1] w fun e w' => ∃ q : Nat, (e = .returned (.int .i64 (q : Int)) ∧ 1 ≤ q ∧ q ≤ 2000000000000) ∧ ZoneR base T w w' := by
  obtain ⟨st, sy⟩ := d
  have e := h.eq
  dsimp only at e
  subst e
  have hb := endS_le (1 + st.length) (hv.map (·.y)) (fun y hy => (hs.2.2 y hy).1.1)
  have h1 := hs.1.1
  have h2 := hs.2.1
  dsimp only at h1 h2
  rw [List.length_map] at h2 hb ⊢
  exact (markConf_any st hv g1 c1 g2 c2 base T 1 w h hs (by omega) (by omega) hT1 hT2 hT3 hTw).mono fun e w' ⟨⟨h3, _⟩, h4⟩ => ⟨_, ⟨h3, by show 1 ≤ endS _ _; omega, by show endS _ _ ≤ _; omega⟩, h4⟩
set_option maxRecDepth 20000 in
set_option maxHeartbeats 12800000 in
theorem walk_FnExactSnipTerms (bm n : Nat) (dd : ConfD) (A1 A2 : Option Addr) (c1 c2 : Nat) (q : QD) (A : Option Addr) (c : Nat) (B : Option Addr) (d : Nat) (w : World) (hl : LaidSh bm w) (hC : HasC w dd A1 c1 A2) (hbC : BgC dd) (h : HasQ (n + 1) w q A c B) (hb : LmQ 9223372036854775807 (n + 1) q) (hwq : WfQ (n + 1) q) :
    Calls Tryd.prog 9 #[.agg #[.slice A1 dd.st.length c1, .slice A2 dd.sy.length c2], .agg #[.int .i64 q.kd, .string q.fd, .slice A q.ws.length c, .int .i64 q.fr, .int .i64 q.tgt, .slice B q.ks.length d]] w fun e w' => e = .returned (.bool true) ∧ Below w.heap.size w w' := by
  have HH := Lib.hid h
  have HL := Lib.hid hl
  have HBG := Lib.hid hb
  have HWQ := Lib.hid hwq
  have HC := Lib.hid hC
  have HBC := Lib.hid hbC
  clear h hl hb hwq hC hbC
  obtain ⟨hv0, hu0, hB0, hz0⟩ := boxes2 w (.cells #[.slice A1 dd.st.length c1, .slice A2 dd.sy.length c2] 54) (.cells #[.int .i64 q.kd, .string q.fd, .slice A q.ws.length c, .int .i64 q.fr, .int .i64 q.tgt, .slice B q.ks.length d] 38) _ rfl
  go_enter Tryd.func9, Tryd.ntmps9
  go_wp2_with fail
  generalize ((w.alloc (.cells #[.slice A1 dd.st.length c1, .slice A2 dd.sy.length c2] 54)).alloc (.cells #[.int .i64 q.kd, .string q.fd, .slice A q.ws.length c, .int .i64 q.fr, .int .i64 q.tgt, .slice B q.ks.length d] 38)) = W0 at hv0 hu0 hB0 hz0 ⊢
  refine (szConf_any dd A1 A2 c1 c2 1048576 _ (HC.out.below hB0) HBC.out (by omega) (by omega)).mono ?_
  rintro e w1 ⟨r, ⟨rfl, hr1, hr3⟩, hb1⟩
  have hB1 := hB0.trans (hb1.mono hB0.size)
  by_cases hr : r < 0
  · go_wp2
    go_ret
    exact ⟨rfl, hB1⟩
  have hs := Lib.hid (hr3.resolve_left hr)
  have hv1 := (hb1.block w.heap.size (by omega)).trans hv0
  have hu1 := (hb1.block (w.heap.size + 1) hz0).trans hu0
  have hz1 : w.heap.size + 1 < w1.heap.size := by have := hb1.size; omega
  obtain ⟨a0, a1, a2, a3, a4, a5⟩ := blk6 hu1
  clear hr3 hv0 hu0 hb1 hB0 hz0 HBC
  go_wp2_with fail
  refine (szQuery_n (n + 1) q A c B d r _ (HH.out.below hB1) HBG.out (by omega) hr1).mono ?_
  rintro e w2 ⟨r2, ⟨rfl, hr4, hr5⟩, hb2⟩
  have hB2 := hB1.trans (hb2.mono hB1.size)
  clear a0 a1 a2 a3 a4 a5
  by_cases hr2 : r2 < 0
  · go_wp2
    go_ret
    exact ⟨rfl, hB2⟩
  obtain ⟨hlq0, hcn⟩ := hr5.resolve_left hr2
  have hlq := Lib.hid hlq0
  have hmk : Hid (mkN (n + 1) q ≤ 4194304) := by
    have := mkN_le (n + 1) q
    show _ ≤ _
    omega
  have hv2 := (hb2.block w.heap.size (by omega)).trans hv1
  have hu2 := (hb2.block (w.heap.size + 1) hz1).trans hu1
  have hz2 : w.heap.size + 1 < w2.heap.size := by have := hb2.size; omega
  have KC : Hid (∀ V, Below w2.heap.size w2 V → V.cell? ⟨w.heap.size, 0, none⟩ = some (.slice A1 dd.st.length c1) ∧ V.cell? ⟨w.heap.size, 1, none⟩ = some (.slice A2 dd.sy.length c2)) := fun V hV => ⟨(belowL hV (by omega)).trans (cells_blk hv2 rfl), (belowL hV (by omega)).trans (cells_blk hv2 rfl)⟩
  have KQ : Hid (∀ V, Below w2.heap.size w2 V → V.cell? ⟨w.heap.size + 1, 0, none⟩ = some (.int .i64 q.kd) ∧ V.cell? ⟨w.heap.size + 1, 1, none⟩ = some (.string q.fd) ∧ V.cell? ⟨w.heap.size + 1, 2, none⟩ = some (.slice A q.ws.length c) ∧ V.cell? ⟨w.heap.size + 1, 3, none⟩ = some (.int .i64 q.fr) ∧ V.cell? ⟨w.heap.size + 1, 4, none⟩ = some (.int .i64 q.tgt) ∧ V.cell? ⟨w.heap.size + 1, 5, none⟩ = some (.slice B q.ks.length d)) := fun V hV => ⟨(belowL hV hz2).trans (cells_blk hu2 rfl), (belowL hV hz2).trans (cells_blk hu2 rfl), (belowL hV hz2).trans (cells_blk hu2 rfl), (belowL hV hz2).trans (cells_blk hu2 rfl), (belowL hV hz2).trans (cells_blk hu2 rfl), (belowL hV hz2).trans (cells_blk hu2 rfl)⟩
  have HA := Lib.hid (fun V (hV : Below w2.heap.size w2 V) => (HC.out.below hB2).below hV)
  have HQ := Lib.hid (fun V (hV : Below w2.heap.size w2 V) => (HH.out.below hB2).below hV)
  have HS := Lib.hid (fun V (hV : Below w2.heap.size w2 V) => (HL.out.below hB2).below hV)
  have CS := Lib.hid (fun (A1 A2 : Option Addr) (c1 c2 : Nat) (A : Option Addr) (c : Nat) (B : Option Addr) (d : Nat) (V : World) (h1 : HasC V dd A1 c1 A2) (h2 : HasQ (n + 1) V q A c B) => specSnipTerms_any (n + 1) dd A1 A2 c1 c2 q A c B d V h1 hs.out h2 hlq.out)
  have CI := Lib.hid (fun (A1 A2 : Option Addr) (c1 c2 : Nat) (A : Option Addr) (c : Nat) (B : Option Addr) (d : Nat) (V : World) (hl : LaidSh bm V) (h1 : HasC V dd A1 c1 A2) (h2 : HasQ (n + 1) V q A c B) => snipTerms_any bm (n + 1) dd A1 A2 c1 c2 q A c B d V hl h1 hs.out h2 hlq.out HWQ)
  have hRl := snipR_len dd q
  clear hv1 hu1 hv2 hu2 hz1 hb2 hr1 hr4 hr5 hcn hlq0 HH HL HC HBG HWQ hr
  generalize snipR dd q = R at CS CI hRl
  -- the reference
  have ka0 : ∀ V, Below w2.heap.size w2 V → V.cell? ⟨w.heap.size, 0, none⟩ = some (.slice A1 dd.st.length c1) := fun V hV => (KC.out V (hV)).1
  have ka1 : ∀ V, Below w2.heap.size w2 V → V.cell? ⟨w.heap.size, 1, none⟩ = some (.slice A2 dd.sy.length c2) := fun V hV => (KC.out V (hV)).2
  have kq0 : ∀ V, Below w2.heap.size w2 V → V.cell? ⟨w.heap.size + 1, 0, none⟩ = some (.int .i64 q.kd) := fun V hV => (KQ.out V (hV)).1
  have kq1 : ∀ V, Below w2.heap.size w2 V → V.cell? ⟨w.heap.size + 1, 1, none⟩ = some (.string q.fd) := fun V hV => (KQ.out V (hV)).2.1
  have kq2 : ∀ V, Below w2.heap.size w2 V → V.cell? ⟨w.heap.size + 1, 2, none⟩ = some (.slice A q.ws.length c) := fun V hV => (KQ.out V (hV)).2.2.1
  have kq3 : ∀ V, Below w2.heap.size w2 V → V.cell? ⟨w.heap.size + 1, 3, none⟩ = some (.int .i64 q.fr) := fun V hV => (KQ.out V (hV)).2.2.2.1
  have kq4 : ∀ V, Below w2.heap.size w2 V → V.cell? ⟨w.heap.size + 1, 4, none⟩ = some (.int .i64 q.tgt) := fun V hV => (KQ.out V (hV)).2.2.2.2.1
  have kq5 : ∀ V, Below w2.heap.size w2 V → V.cell? ⟨w.heap.size + 1, 5, none⟩ = some (.slice B q.ks.length d) := fun V hV => (KQ.out V (hV)).2.2.2.2.2
  go_wp2_with fail
  go_region_held3 (fun V => Below w2.heap.size w2 V)
    ((repeat' (first | exact Below.refl _ _ | assumption | apply Below.alloc | apply Below.setCell | apply Below.drew | (refine Below.trans ?_ (Below.mono (by assumption) ?_)))) <;> (first | exact Below.size (by assumption) | omega | (simp; done) | (simp; omega) | (refine Nat.le_trans ?_ (Below.size (by assumption)); (first | omega | (simp <;> omega)))))
    (first
    | (go_at_call 31; refine (toConf_any dd A1 A2 c1 c2 _ (HA.out _ (by assumption)) hs.out).mono ?_; rintro e w3 ⟨g1, g2, hv, ⟨rfl, o3⟩, hb3⟩; have O3 := Lib.hid o3.has; clear o3)
    | (go_at_call 23; refine (toQuery_own (n + 1) q A c B d _ (HQ.out _ (by assumption)) hlq.out).mono ?_; rintro e w4 ⟨A4, B4, ⟨rfl, o4⟩, hb4⟩; have O4 := Lib.hid o4.has; have O3' := Lib.hid (O3.out.below hb4); clear o4 O3)
    | (go_at_call 27; refine (CS.out _ _ _ _ _ _ _ _ _ O3'.out O4.out).mono ?_; rintro e w5 ⟨A0, c0, ⟨rfl, hr0⟩, hb5⟩; have R0 := Lib.hid hr0; clear hr0))
  rename_i H5
  have s5 := H5.size
  clear ka0 ka1 kq0 kq1 kq2 kq3 kq4 kq5
  clear O3' O4 hb3 hb4 hb5
  -- the arguments of impl
  obtain ⟨f0, f1⟩ := KC.out _ H5
  go_wp2_with fail
  refine (toConf_any dd A1 A2 c1 c2 _ (HA.out _ H5) hs.out).mono ?_
  rintro e w6 ⟨x1, x2, hx, ⟨rfl, o6⟩, hb6⟩
  have fW7 : Below w6.heap.size w6 (w6.alloc (.cells #[.slice (some ⟨x1, 0, none⟩) dd.st.length dd.st.length, .slice (some ⟨x2, 0, none⟩) dd.sy.length dd.sy.length] 44)) := (Below.refl _ _).alloc (Nat.le_refl _) _
  have rW7 := alloc_new w6 (.cells #[.slice (some ⟨x1, 0, none⟩) dd.st.length dd.st.length, .slice (some ⟨x2, 0, none⟩) dd.sy.length dd.sy.length] 44)
  have hzW7 : w6.heap.size < (w6.alloc (.cells #[.slice (some ⟨x1, 0, none⟩) dd.st.length dd.st.length, .slice (some ⟨x2, 0, none⟩) dd.sy.length dd.sy.length] 44)).heap.size := by simp
  have OC7 := Lib.hid (o6.below fW7)
  have OL := Lib.hid o6.lt
  have P7 := hb6.trans (fW7.mono hb6.size)
  have H7 := H5.trans (P7.mono s5)
  have s56 := hb6.size
  obtain ⟨q0, q1, q2, q3, q4, q5⟩ := KQ.out _ H7
  clear f0 f1 o6 fW7 hb6
  go_wp2_with fail
  generalize (w6.alloc (.cells #[.slice (some ⟨x1, 0, none⟩) dd.st.length dd.st.length, .slice (some ⟨x2, 0, none⟩) dd.sy.length dd.sy.length] 44)) = W7 at rW7 OC7 hzW7 P7 H7 q0 q1 q2 q3 q4 q5 ⊢
  refine (toQuery_own (n + 1) q A c B d _ (HQ.out _ H7) hlq.out).mono ?_
  rintro e w8 ⟨A5, B5, ⟨rfl, o8⟩, hb8⟩
  clear q0 q1 q2 q3 q4 q5
  have s7 := hb8.size
  have fW9 : Below w8.heap.size w8 (w8.alloc (.cells #[.int .i64 q.kd, .string q.fd, .slice A5 q.ws.length q.ws.length, .int .i64 q.fr, .int .i64 q.tgt, .slice B5 q.ks.length q.ks.length] 26)) := (Below.refl _ _).alloc (Nat.le_refl _) _
  have rW9 := alloc_new w8 (.cells #[.int .i64 q.kd, .string q.fd, .slice A5 q.ws.length q.ws.length, .int .i64 q.fr, .int .i64 q.tgt, .slice B5 q.ks.length q.ks.length] 26)
  have hzW9 : w8.heap.size < (w8.alloc (.cells #[.int .i64 q.kd, .string q.fd, .slice A5 q.ws.length q.ws.length, .int .i64 q.fr, .int .i64 q.tgt, .slice B5 q.ks.length q.ks.length] 26)).heap.size := by simp
  have M9 := hb8.trans (fW9.mono s7)
  have OC9 := Lib.hid (OC7.out.below M9)
  have OQ9 : Hid (OwnQ (n + 1) (fun k => W7.heap.size ≤ k ∧ k < w8.heap.size) (w8.alloc (.cells #[.int .i64 q.kd, .string q.fd, .slice A5 q.ws.length q.ws.length, .int .i64 q.fr, .int .i64 q.tgt, .slice B5 q.ks.length q.ks.length] 26)) ⟨q, A5, q.ws.length, B5, q.ks.length⟩) := OwnQ.same _ _ _ _ o8 (SameS.below fW9)
  have P9 := P7.trans (M9.mono P7.size)
  have H9 := H5.trans (P9.mono s5)
  have rV9 := (M9.block w6.heap.size hzW7).trans rW7
  obtain ⟨y0, y1, y2, y3, y4, y5⟩ := blk6 rW9
  have v0 := cells_blk rV9 (j := 0) rfl
  have v1 := cells_blk rV9 (j := 1) rfl
  clear o8 fW9 hb8 M9 OC7 P7 H7 rW7
  go_wp2_with fail
  generalize (w8.alloc (.cells #[.int .i64 q.kd, .string q.fd, .slice A5 q.ws.length q.ws.length, .int .i64 q.fr, .int .i64 q.tgt, .slice B5 q.ks.length q.ks.length] 26)) = W9 at rW9 rV9 hzW9 OC9 OQ9 P9 H9 y0 y1 y2 y3 y4 y5 v0 v1 ⊢
  generalize hp6 : w6.heap.size = p6 at rV9 v0 v1 OL hzW7 s56 ⊢
  generalize hp8 : w8.heap.size = p8 at rW9 hzW9 y0 y1 y2 y3 y4 y5 s7 OQ9 ⊢
  have HP6 := Lib.hid hp6
  have HP8 := Lib.hid hp8
  clear hp6 hp8
  have s9 := P9.size
  refine (CI.out _ _ _ _ _ _ _ _ _ (HS.out _ H9) OC9.out.has OQ9.out.has).mono ?_
  rintro e w10 ⟨gg, cg, ⟨rfl, og⟩, hb10⟩
  have KX : Hid (∀ V, Below W9.heap.size W9 V → V.cell? ⟨p6, 0, none⟩ = some (.slice (some ⟨x1, 0, none⟩) dd.st.length dd.st.length) ∧ V.cell? ⟨p6, 1, none⟩ = some (.slice (some ⟨x2, 0, none⟩) dd.sy.length dd.sy.length)) := fun V hV => ⟨(belowL hV (by omega)).trans (cells_blk rV9 rfl), (belowL hV (by omega)).trans (cells_blk rV9 rfl)⟩
  have KY : Hid (∀ V, Below W9.heap.size W9 V → V.cell? ⟨p8, 0, none⟩ = some (.int .i64 q.kd) ∧ V.cell? ⟨p8, 1, none⟩ = some (.string q.fd) ∧ V.cell? ⟨p8, 2, none⟩ = some (.slice A5 q.ws.length q.ws.length) ∧ V.cell? ⟨p8, 3, none⟩ = some (.int .i64 q.fr) ∧ V.cell? ⟨p8, 4, none⟩ = some (.int .i64 q.tgt) ∧ V.cell? ⟨p8, 5, none⟩ = some (.slice B5 q.ks.length q.ks.length)) := fun V hV => ⟨(belowL hV hzW9).trans (cells_blk rW9 rfl), (belowL hV hzW9).trans (cells_blk rW9 rfl), (belowL hV hzW9).trans (cells_blk rW9 rfl), (belowL hV hzW9).trans (cells_blk rW9 rfl), (belowL hV hzW9).trans (cells_blk rW9 rfl), (belowL hV hzW9).trans (cells_blk rW9 rfl)⟩
  clear v0 v1 y0 y1 y2 y3 y4 y5 rV9 rW9
  have hge : W9.heap.size ≤ gg := (OwnE.capOk og).2.2.1
  have P10 := P9.trans (hb10.mono s9)
  go_wp2_with fail
  refine (eqStringS_same _ _ _ _ R _ (OwnE.src og) (R0.out.below P10).1 (by omega)).mono ?_
  rintro e w11 ⟨rfl, hb11⟩
  have M11 := hb10.trans (hb11.mono hb10.size)
  have og11 := own_belowZ og hb11
  clear hb10 hb11 og P10
  have P11 := P9.trans (M11.mono s9)
  have H11 := H5.trans (P11.mono s5)
  have t11 := M11.size
  have u11 := H11.size
  have HA11 := Lib.hid (fun V (hV : Below w11.heap.size w11 V) => HA.out V (H11.trans (hV.mono u11)))
  have HQ11 := Lib.hid (fun V (hV : Below w11.heap.size w11 V) => HQ.out V (H11.trans (hV.mono u11)))
  have HX11 := Lib.hid (fun V (hV : Below w11.heap.size w11 V) => (OC9.out.below (M11.trans (hV.mono t11))).has)
  have HY11 := Lib.hid (fun V (hV : Below w11.heap.size w11 V) => (OQ9.out.has).below (M11.trans (hV.mono t11)))
  have ka0 : ∀ V, Below w11.heap.size w11 V → V.cell? ⟨w.heap.size, 0, none⟩ = some (.slice A1 dd.st.length c1) := fun V hV => (KC.out V (H11.trans (hV.mono u11))).1
  have ka1 : ∀ V, Below w11.heap.size w11 V → V.cell? ⟨w.heap.size, 1, none⟩ = some (.slice A2 dd.sy.length c2) := fun V hV => (KC.out V (H11.trans (hV.mono u11))).2
  have kx0 : ∀ V, Below w11.heap.size w11 V → V.cell? ⟨p6, 0, none⟩ = some (.slice (some ⟨x1, 0, none⟩) dd.st.length dd.st.length) := fun V hV => (KX.out V (M11.trans (hV.mono t11))).1
  have kx1 : ∀ V, Below w11.heap.size w11 V → V.cell? ⟨p6, 1, none⟩ = some (.slice (some ⟨x2, 0, none⟩) dd.sy.length dd.sy.length) := fun V hV => (KX.out V (M11.trans (hV.mono t11))).2
  go_wp2_with fail
  go_region_held3 (fun V => Below w11.heap.size w11 V)
    ((repeat' (first | exact Below.refl _ _ | assumption | apply Below.alloc | apply Below.setCell | apply Below.drew | (refine Below.trans ?_ (Below.mono (by assumption) ?_)))) <;> (first | exact Below.size (by assumption) | omega | (simp; done) | (simp; omega) | (refine Nat.le_trans ?_ (Below.size (by assumption)); (first | omega | (simp <;> omega)))))
    (first
    | (go_at_call 31; refine (toConf_any dd A1 A2 c1 c2 _ (HA11.out _ (by assumption)) hs.out).mono ?_; rintro e w12 ⟨x3, x4, hx2, ⟨rfl, o12⟩, hb12⟩; have O12 := Lib.hid o12.has; clear o12)
    | (go_at_call 33; refine (eqConf_same dd _ _ _ _ _ _ _ _ _ (HX11.out _ (by assumption)) O12.out hs.out).mono ?_; rintro e w13 ⟨rfl, hb13⟩))
  rename_i hH12
  have s13 := hH12.size
  clear ka0 ka1 kx0 kx1
  have kq0 : ∀ V, Below w13.heap.size w13 V → V.cell? ⟨w.heap.size + 1, 0, none⟩ = some (.int .i64 q.kd) := fun V hV => (KQ.out V (H11.trans ((hH12.trans (hV.mono s13)).mono u11))).1
  have kq1 : ∀ V, Below w13.heap.size w13 V → V.cell? ⟨w.heap.size + 1, 1, none⟩ = some (.string q.fd) := fun V hV => (KQ.out V (H11.trans ((hH12.trans (hV.mono s13)).mono u11))).2.1
  have kq2 : ∀ V, Below w13.heap.size w13 V → V.cell? ⟨w.heap.size + 1, 2, none⟩ = some (.slice A q.ws.length c) := fun V hV => (KQ.out V (H11.trans ((hH12.trans (hV.mono s13)).mono u11))).2.2.1
  have kq3 : ∀ V, Below w13.heap.size w13 V → V.cell? ⟨w.heap.size + 1, 3, none⟩ = some (.int .i64 q.fr) := fun V hV => (KQ.out V (H11.trans ((hH12.trans (hV.mono s13)).mono u11))).2.2.2.1
  have kq4 : ∀ V, Below w13.heap.size w13 V → V.cell? ⟨w.heap.size + 1, 4, none⟩ = some (.int .i64 q.tgt) := fun V hV => (KQ.out V (H11.trans ((hH12.trans (hV.mono s13)).mono u11))).2.2.2.2.1
  have kq5 : ∀ V, Below w13.heap.size w13 V → V.cell? ⟨w.heap.size + 1, 5, none⟩ = some (.slice B q.ks.length d) := fun V hV => (KQ.out V (H11.trans ((hH12.trans (hV.mono s13)).mono u11))).2.2.2.2.2
  have ky0 : ∀ V, Below w13.heap.size w13 V → V.cell? ⟨p8, 0, none⟩ = some (.int .i64 q.kd) := fun V hV => (KY.out V (M11.trans ((hH12.trans (hV.mono s13)).mono t11))).1
  have ky1 : ∀ V, Below w13.heap.size w13 V → V.cell? ⟨p8, 1, none⟩ = some (.string q.fd) := fun V hV => (KY.out V (M11.trans ((hH12.trans (hV.mono s13)).mono t11))).2.1
  have ky2 : ∀ V, Below w13.heap.size w13 V → V.cell? ⟨p8, 2, none⟩ = some (.slice A5 q.ws.length q.ws.length) := fun V hV => (KY.out V (M11.trans ((hH12.trans (hV.mono s13)).mono t11))).2.2.1
  have ky3 : ∀ V, Below w13.heap.size w13 V → V.cell? ⟨p8, 3, none⟩ = some (.int .i64 q.fr) := fun V hV => (KY.out V (M11.trans ((hH12.trans (hV.mono s13)).mono t11))).2.2.2.1
  have ky4 : ∀ V, Below w13.heap.size w13 V → V.cell? ⟨p8, 4, none⟩ = some (.int .i64 q.tgt) := fun V hV => (KY.out V (M11.trans ((hH12.trans (hV.mono s13)).mono t11))).2.2.2.2.1
  have ky5 : ∀ V, Below w13.heap.size w13 V → V.cell? ⟨p8, 5, none⟩ = some (.slice B5 q.ks.length q.ks.length) := fun V hV => (KY.out V (M11.trans ((hH12.trans (hV.mono s13)).mono t11))).2.2.2.2.2
  go_wp2_with fail
  go_region_held3 (fun V => Below w13.heap.size w13 V)
    ((repeat' (first | exact Below.refl _ _ | assumption | apply Below.alloc | apply Below.setCell | apply Below.drew | (refine Below.trans ?_ (Below.mono (by assumption) ?_)))) <;> (first | exact Below.size (by assumption) | omega | (simp; done) | (simp; omega) | (refine Nat.le_trans ?_ (Below.size (by assumption)); (first | omega | (simp <;> omega)))))
    (first
    | (go_at_call 23; refine (toQuery_own (n + 1) q A c B d _ (HQ11.out _ (hH12.trans (Below.mono (by assumption) s13))) hlq.out).mono ?_; rintro e w14 ⟨A7, B7, ⟨rfl, o14⟩, hb14⟩; have O14 := Lib.hid o14.has; clear o14)
    | (go_at_call 18; refine (eqQuery_same (n + 1) q _ _ _ _ _ _ _ _ _ (HY11.out _ (hH12.trans (Below.mono (by assumption) s13))) O14.out hlq.out).mono ?_; rintro e w15 ⟨rfl, hb15⟩))
  rename_i hH14
  clear kq0 kq1 kq2 kq3 kq4 kq5 ky0 ky1 ky2 ky3 ky4 ky5
  have s14 := hH14.size
  have M15 := M11.trans ((hH12.trans (hH14.mono s13)).mono t11)
  have P15 := P9.trans (M15.mono s9)
  have H15 := H5.trans (P15.mono s5)
  have og15 := own_belowZ og11 (hH12.trans (hH14.mono s13))
  have t15 := M15.size
  have u15 := H15.size
  clear HA11 HQ11 HX11 HY11 og11 hH12 hH14 P11 H11 M11 hb12 hb13 hb14 hb15 O12 O14
  -- the marks
  obtain ⟨v0, v1⟩ := KX.out _ M15
  go_wp2_with fail
  refine (markConf_e (T := p6) (OC9.out.below M15) hs.out OL.out.1.2 OL.out.2.1.2 (fun m hm => (OL.out.2.2 m hm).2) (by omega)).mono ?_
  rintro e w16 ⟨k1, ⟨rfl, hk1, hk2⟩, z16⟩
  have e16 := z16.2.1
  have y0 := (z16.cell (b := p8) (o := 0) (by omega) (.inr (by omega))).trans (KY.out _ M15).1
  have y1 := (z16.cell (b := p8) (o := 1) (by omega) (.inr (by omega))).trans (KY.out _ M15).2.1
  have y2 := (z16.cell (b := p8) (o := 2) (by omega) (.inr (by omega))).trans (KY.out _ M15).2.2.1
  have y3 := (z16.cell (b := p8) (o := 3) (by omega) (.inr (by omega))).trans (KY.out _ M15).2.2.2.1
  have y4 := (z16.cell (b := p8) (o := 4) (by omega) (.inr (by omega))).trans (KY.out _ M15).2.2.2.2.1
  have y5 := (z16.cell (b := p8) (o := 5) (by omega) (.inr (by omega))).trans (KY.out _ M15).2.2.2.2.2
  have OQ16 : Hid (OwnQ (n + 1) (fun k => W7.heap.size ≤ k ∧ k < p8) w16 ⟨q, A5, q.ws.length, B5, q.ks.length⟩) := OwnQ.same _ _ _ _ (OwnQ.same _ _ _ _ OQ9.out (SameS.below M15)) (fun k h1 h2 => z16.2.2 k h2 (.inr (by omega)))
  have og16 := own_zoneR og15 z16 (fun k hk => by cases hk; exact .inr (by show p6 ≤ gg; omega))
  have P16 := P15.trans (z16.below (Nat.le_refl _) P15.size)
  obtain ⟨k2, hk3⟩ : ∃ k2, k2 = k1 + mkN (n + 1) q := ⟨_, rfl⟩
  have hk4 : k2 ≤ 3000000000000 := by have := hmk.out; omega
  clear v0 v1 og15 z16 OC9 KX KY OQ9 P15 M15 OL
  go_wp2_with fail
  refine (markQuery_any n _ ⟨q, A5, q.ws.length, B5, q.ks.length⟩ k1 k2 _ hk3 OQ16 hlq hk1 (by omega)).mono ?_
  rintro e w17 ⟨⟨rfl, _⟩, o17⟩
  have e17 := o17.2.1
  have og17 := own_only og16 o17 (fun e => by have := e.2; omega)
  have P17 := P16.trans (o17.belowS (fun k hk => by have := hk.1; omega) P16.size)
  have hd17 : decide ((k2 : Int) < 0) = false := decide_eq_false (by omega)
  clear y0 y1 y2 y3 y4 y5 og16 o17 OQ16 P16 hk3
  go_wp2_with fail
  refine (eqStringS_same _ _ _ _ R _ (OwnE.src og17) (R0.out.below P17).1 (by omega)).mono ?_
  rintro e w18 ⟨rfl, hb18⟩
  have og18 := own_belowZ og17 hb18
  have P18 := P17.trans (hb18.mono P17.size)
  clear og17 P17 hb18
  obtain ⟨mm, hmm⟩ : ∃ mm, mm = 1 + R.length := ⟨_, rfl⟩
  have HMM := Lib.hid hmm
  have hdm : decide ((mm : Int) < 0) = false := decide_eq_false (by omega)
  have CM := markStringS_any gg cg W9.heap.size R 1 w18 og18 (by omega) (by omega) (by omega)
  have CH := Lib.hid (fun V (hms : SrcT V (some ⟨gg, 0, none⟩) cg (mkL 1 R.length)) => heldStringS_any _ cg 1 R.length V hms (by omega) (by omega) (by omega))
  rw [← hmm] at CM CH
  clear hmm
  go_wp2_with fail
  refine CM.mono ?_
  rintro e w19 ⟨⟨rfl, og19⟩, g19⟩
  have P19 := P18.trans ((OnlyS.grown (S := fun k => k = gg) g19 rfl).belowS (fun k hk => by omega) P18.size)
  have hms : SrcT w19 (some ⟨gg, 0, none⟩) cg (mkL 1 R.length) := OwnE.src og19
  clear og18 P18 g19
  go_wp2_with fail
  refine (CH.out _ hms).mono ?_
  rintro e w20 ⟨rfl, hb20⟩
  have og20 := own_belowZ og19 hb20
  have P20 := P19.trans (hb20.mono P19.size)
  have H20 := H5.trans (P20.mono s5)
  have u20 := H20.size
  have HA20 := Lib.hid (fun V (hV : Below w20.heap.size w20 V) => HA.out V (H20.trans (hV.mono u20)))
  have HQ20 := Lib.hid (fun V (hV : Below w20.heap.size w20 V) => HQ.out V (H20.trans (hV.mono u20)))
  have HS20 := Lib.hid (fun V (hV : Below w20.heap.size w20 V) => HS.out V (H20.trans (hV.mono u20)))
  clear hms og19 P19 hb20 CM
  have ka0 : ∀ V, Below w20.heap.size w20 V → V.cell? ⟨w.heap.size, 0, none⟩ = some (.slice A1 dd.st.length c1) := fun V hV => (KC.out V (H20.trans (hV.mono u20))).1
  have ka1 : ∀ V, Below w20.heap.size w20 V → V.cell? ⟨w.heap.size, 1, none⟩ = some (.slice A2 dd.sy.length c2) := fun V hV => (KC.out V (H20.trans (hV.mono u20))).2
  have kq0 : ∀ V, Below w20.heap.size w20 V → V.cell? ⟨w.heap.size + 1, 0, none⟩ = some (.int .i64 q.kd) := fun V hV => (KQ.out V (H20.trans (hV.mono u20))).1
  have kq1 : ∀ V, Below w20.heap.size w20 V → V.cell? ⟨w.heap.size + 1, 1, none⟩ = some (.string q.fd) := fun V hV => (KQ.out V (H20.trans (hV.mono u20))).2.1
  have kq2 : ∀ V, Below w20.heap.size w20 V → V.cell? ⟨w.heap.size + 1, 2, none⟩ = some (.slice A q.ws.length c) := fun V hV => (KQ.out V (H20.trans (hV.mono u20))).2.2.1
  have kq3 : ∀ V, Below w20.heap.size w20 V → V.cell? ⟨w.heap.size + 1, 3, none⟩ = some (.int .i64 q.fr) := fun V hV => (KQ.out V (H20.trans (hV.mono u20))).2.2.2.1
  have kq4 : ∀ V, Below w20.heap.size w20 V → V.cell? ⟨w.heap.size + 1, 4, none⟩ = some (.int .i64 q.tgt) := fun V hV => (KQ.out V (H20.trans (hV.mono u20))).2.2.2.2.1
  have kq5 : ∀ V, Below w20.heap.size w20 V → V.cell? ⟨w.heap.size + 1, 5, none⟩ = some (.slice B q.ks.length d) := fun V hV => (KQ.out V (H20.trans (hV.mono u20))).2.2.2.2.2
  go_wp2_with fail
  go_region_held3 (fun V => Below w20.heap.size w20 V)
    ((repeat' (first | exact Below.refl _ _ | assumption | apply Below.alloc | apply Below.setCell | apply Below.drew | (refine Below.trans ?_ (Below.mono (by assumption) ?_)))) <;> (first | exact Below.size (by assumption) | omega | (simp; done) | (simp; omega) | (refine Nat.le_trans ?_ (Below.size (by assumption)); (first | omega | (simp <;> omega)))))
    (first
    | (go_at_call 31; refine (toConf_any dd A1 A2 c1 c2 _ (HA20.out _ (by assumption)) hs.out).mono ?_; rintro e w21 ⟨g1, g2, hv, ⟨rfl, o3⟩, hb21⟩; have O3 := Lib.hid o3.has; clear o3)
    | (go_at_call 23; refine (toQuery_own (n + 1) q A c B d _ (HQ20.out _ (by assumption)) hlq.out).mono ?_; rintro e w22 ⟨A4, B4, ⟨rfl, o4⟩, hb22⟩; have O4 := Lib.hid o4.has; have O3' := Lib.hid (O3.out.below hb22); clear o4 O3)
    | (go_at_call 25; refine (CI.out _ _ _ _ _ _ _ _ _ (HS20.out _ (by assumption)) O3'.out O4.out).mono ?_; rintro e w23 ⟨gh, ch, ⟨rfl, oh⟩, hb23⟩; have OH := Lib.hid oh; clear oh))
  rename_i hH23
  clear ka0 ka1 kq0 kq1 kq2 kq3 kq4 kq5
  have P23 := P20.trans (hH23.mono P20.size)
  have og23 := own_belowZ og20 hH23
  have H23 := H5.trans (P23.mono s5)
  go_wp2_with fail
  refine (eqStringS_same _ _ _ _ R _ (OwnE.src OH.out) (R0.out.below P23).1 (by omega)).mono ?_
  rintro e w24 ⟨rfl, hb24⟩
  have hms : SrcT w24 (some ⟨gg, 0, none⟩) cg (mkL 1 R.length) := OwnE.src (own_belowZ og23 hb24)
  have H24 := H23.trans (hb24.mono H23.size)
  clear og23 og20 P23 P20 HA20 HQ20 HS20 OH O3' O4 hb21 hb22 hb23
  go_wp2_with fail
  refine (CH.out _ hms).mono ?_
  rintro e w25 ⟨rfl, hb25⟩
  have H25 := H24.trans (hb25.mono H24.size)
  go_wp2
  go_ret
  exact ⟨rfl, hB2.trans (H25.mono hB2.size)⟩
theorem walkR_FnExactSnipTerms (dd : ConfD) (A1 A2 : Option Addr) (c1 c2 : Nat) (n : Nat) (q : QD) (A : Option Addr) (c : Nat) (B : Option Addr) (d : Nat) (w : World) (hC : HasC w dd A1 c1 A2) (hbC : BgC dd) (h : HasQ n w q A c B) (hb : LmQ 9223372036854775807 n q) (hwq : WfQ n q) (hl : ∃ bm, LaidSh bm w) :
    Calls Tryd.prog 9 #[.agg #[.slice A1 dd.st.length c1, .slice A2 dd.sy.length c2], .agg #[.int .i64 q.kd, .string q.fd, .slice A q.ws.length c, .int .i64 q.fr, .int .i64 q.tgt, .slice B q.ks.length d]] w fun e w' => e = .returned (.bool true) ∧ Below w.heap.size w w' := by
  obtain ⟨bm, hl⟩ := hl
  cases n with
  | zero => exact h.elim
  | succ n => exact walk_FnExactSnipTerms bm n dd A1 A2 c1 c2 q A c B d w hl hC hbC h hb hwq
end Go.Proofs.YtaobgliimbmemaaDoor
