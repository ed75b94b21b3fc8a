/-
  A question of the call's own: its rows lie in blocks of its own, each in one place; what its marks are.
-/
import Derived.Test.YtaobgliimbmemaaGreatDoorQdTo2
import Derived.Test.YtaobgliimbmemaaGreatDoorMark2
namespace Go.Proofs.YtaobgliimbmemaaGreatDoor
open Go.RowKit Go.Sort
set_option linter.unusedVariables false

abbrev PS := Nat → Prop
def Dis (S T : PS) : Prop := ∀ k, S k → ¬ T k
def Sub (S T : PS) : Prop := ∀ k, S k → T k
theorem Sub.rfl_ (S : PS) : Sub S S := fun _ h => h
theorem Sub.tr {S T U : PS} (h : Sub S T) (k : Sub T U) : Sub S U := fun i hi => k i (h i hi)
/-- the blocks of S stand as they stood. -/
def SameS (S : PS) (w w' : World) : Prop := ∀ k, S k → k < w.heap.size → w'.heap[k]? = w.heap[k]?
theorem SameS.sub {S T : PS} {w w' : World} (h : SameS T w w') (hs : Sub S T) : SameS S w w' := fun k h1 h2 => h k (hs k h1) h2
theorem SameS.only {S T : PS} {w w' : World} (h : OnlyS T w w') (hd : Dis S T) : SameS S w w' := fun k h1 h2 => h.2.2 k h2 (hd k h1)
theorem SameS.below {S : PS} {w w' : World} (h : Below w.heap.size w w') : SameS S w w' := fun k _ h2 => h.block k h2
structure HdR where
  q : QD
  A : Option Addr
  c : Nat
  B : Option Addr
  d : Nat
def encHR (h : HdR) : List Value := encQ h.q h.A h.c h.B h.d
theorem encHR_ok : Enc encHR 6 := ⟨fun _ => rfl, fun a u hu => by simp [encHR, encQ] at hu; rcases hu with rfl | rfl | rfl | rfl | rfl | rfl <;> rfl⟩
abbrev HM := PS → World → HdR → Prop
/-- each of the list has its own part of S. -/
def ZnQ (M : HM) (w : World) : PS → List HdR → Prop
  | _, [] => True
  | S, m :: r => ∃ S1 S2 : PS, Sub S1 S ∧ Sub S2 S ∧ Dis S1 S2 ∧ M S1 w m ∧ ZnQ M w S2 r
def OwnW (S : PS) (w : World) (A : Option Addr) (c : Nat) (L : List ByteArray) : Prop :=
  (A = none ∧ c = 0 ∧ L = []) ∨ ∃ a : Nat, A = some ⟨a, 0, none⟩ ∧ S a ∧ OwnT w 0 a c L
def OwnKs (M : HM) (S : PS) (w : World) (B : Option Addr) (d : Nat) (L : List QD) : Prop :=
  (B = none ∧ d = 0 ∧ L = []) ∨ ∃ (b : Nat) (hv : List HdR) (S' : PS), B = some ⟨b, 0, none⟩ ∧ S b ∧ Sub S' S ∧ ¬ S' b ∧ L = hv.map (·.q) ∧ OwnE encHR 27 6 w 0 b d hv ∧ ZnQ M w S' hv
def OwnQ : Nat → HM
  | 0 => fun _ _ _ => False
  | n + 1 => fun S w h => ∃ S1 S2 : PS, Sub S1 S ∧ Sub S2 S ∧ Dis S1 S2 ∧ OwnW S1 w h.A h.c h.q.ws ∧ OwnKs (OwnQ n) S2 w h.B h.d h.q.ks

theorem own_blk {w w' : World} {base e size n g c : Nat} {xs : List Value} (h : w.ownsRow base e size (.slice (some ⟨g, 0, none⟩) n c) n xs) (hg : w'.heap[g]? = w.heap[g]?) : w'.ownsRow base e size (.slice (some ⟨g, 0, none⟩) n c) n xs := by
  refine ⟨h.1, ?_⟩
  rcases h.2 with ⟨hbad, hx⟩ | ⟨g', cap, cur, hv, hb, hh, h3, h4, h5, h6⟩
  · exact .inl ⟨hbad, hx⟩
  · simp only [Value.slice.injEq, Option.some.injEq, Addr.mk.injEq, and_true, true_and] at hv
    obtain ⟨rfl, rfl⟩ := hv
    exact .inr ⟨g, c, cur, rfl, hb, hg.trans hh, h3, h4, h5, h6⟩
theorem ownE_same {α : Type} {enc : α → List Value} {E F : Nat} {S : PS} {w w' : World} {b c : Nat} {L : List α} (h : OwnE enc E F w 0 b c L) (hb : S b) (hk : SameS S w w') : OwnE enc E F w' 0 b c L := own_blk h (hk b hb (OwnE.capOk h).2.2.2)
theorem OwnW.same {S : PS} {w w' : World} {A : Option Addr} {c : Nat} {L : List ByteArray} (h : OwnW S w A c L) (hk : SameS S w w') : OwnW S w' A c L := by
  rcases h with h | ⟨a, h1, h2, h3⟩
  · exact .inl h
  · exact .inr ⟨a, h1, h2, ownE_same h3 h2 hk⟩
theorem OwnW.sup {S T : PS} {w : World} {A : Option Addr} {c : Nat} {L : List ByteArray} (h : OwnW S w A c L) (hs : Sub S T) : OwnW T w A c L := by
  rcases h with h | ⟨a, h1, h2, h3⟩
  · exact .inl h
  · exact .inr ⟨a, h1, hs a h2, h3⟩
def SameM (M : HM) : Prop := ∀ (S : PS) (w w' : World) (h : HdR), M S w h → SameS S w w' → M S w' h
theorem ZnQ.same {M : HM} (hM : SameM M) {w w' : World} : ∀ {S : PS} {hv : List HdR}, ZnQ M w S hv → SameS S w w' → ZnQ M w' S hv
  | _, [], _, _ => trivial
  | S, m :: r, ⟨S1, S2, s1, s2, hd, h1, h2⟩, hk => ⟨S1, S2, s1, s2, hd, hM _ _ _ _ h1 (hk.sub s1), ZnQ.same hM h2 (hk.sub s2)⟩
theorem ZnQ.sup {M : HM} {w : World} : ∀ {S T : PS} {hv : List HdR}, ZnQ M w S hv → Sub S T → ZnQ M w T hv
  | _, _, [], _, _ => trivial
  | S, T, m :: r, ⟨S1, S2, s1, s2, hd, h1, h2⟩, hs => ⟨S1, S2, s1.tr hs, s2.tr hs, hd, h1, h2⟩
theorem ZnQ.snoc {M : HM} {w : World} {S' T : PS} {m : HdR} : ∀ {S : PS} {hv : List HdR}, ZnQ M w S hv → M S' w m → Dis S S' → Sub S T → Sub S' T → ZnQ M w T (hv ++ [m])
  | S, [], _, h, _, _, s' => ⟨S', fun _ => False, s', fun _ h => h.elim, fun _ _ h => h, h, trivial⟩
  | S, x :: r, ⟨S1, S2, s1, s2, hd, h1, h2⟩, h, hdd, s, s' =>
    ⟨S1, fun k => S2 k ∨ S' k, s1.tr s, fun k hk => hk.elim (fun h => s k (s2 k h)) (s' k), fun k hk h3 => h3.elim (hd k hk) (hdd k (s1 k hk)), h1,
      ZnQ.snoc h2 h (fun k hk => hdd k (s2 k hk)) (fun k hk => .inl hk) (fun k hk => .inr hk)⟩
theorem ZnQ.get {M : HM} {w : World} : ∀ {S : PS} {hv : List HdR}, ZnQ M w S hv → ∀ m ∈ hv, ∃ S1, M S1 w m
  | _, [], _, m, hm => by simp at hm
  | S, x :: r, ⟨S1, S2, s1, s2, hd, h1, h2⟩, m, hm => (List.mem_cons.1 hm).elim (fun e => ⟨S1, e ▸ h1⟩) (ZnQ.get h2 m)
/-- one of the list, and what may come in its place. -/
theorem ZnQ.focus {M : HM} (hM : SameM M) {w : World} {m : HdR} {Q : List HdR} : ∀ {S : PS} {P : List HdR}, ZnQ M w S (P ++ m :: Q) →
    ∃ S1 : PS, Sub S1 S ∧ M S1 w m ∧ ∀ (w' : World) (m' : HdR), M S1 w' m' → (∀ k, S k → ¬ S1 k → k < w.heap.size → w'.heap[k]? = w.heap[k]?) → ZnQ M w' S (P ++ m' :: Q)
  | S, [], ⟨S1, S2, s1, s2, hd, h1, h2⟩ => ⟨S1, s1, h1, fun w' m' h hk => ⟨S1, S2, s1, s2, hd, h, ZnQ.same hM h2 (fun k a b => hk k (s2 k a) (fun e => hd k e a) b)⟩⟩
  | S, x :: P, ⟨S1, S2, s1, s2, hd, h1, h2⟩ => by
    obtain ⟨S3, t1, t2, t3⟩ := ZnQ.focus hM h2
    exact ⟨S3, t1.tr s2, t2, fun w' m' h hk => ⟨S1, S2, s1, s2, hd, hM _ _ _ _ h1 (fun k a b => hk k (s1 k a) (fun e => hd k a (t1 k e)) b), t3 w' m' h (fun k a b c => hk k (s2 k a) b c)⟩⟩
theorem OwnKs.same {M : HM} (hM : SameM M) {S : PS} {w w' : World} {B : Option Addr} {d : Nat} {L : List QD} (h : OwnKs M S w B d L) (hk : SameS S w w') : OwnKs M S w' B d L := by
  rcases h with h | ⟨b, hv, S', h1, h2, h3, h4, h5, h6, h7⟩
  · exact .inl h
  · exact .inr ⟨b, hv, S', h1, h2, h3, h4, h5, ownE_same h6 h2 hk, ZnQ.same hM h7 (hk.sub h3)⟩
theorem OwnKs.sup {M : HM} {S T : PS} {w : World} {B : Option Addr} {d : Nat} {L : List QD} (h : OwnKs M S w B d L) (hs : Sub S T) : OwnKs M T w B d L := by
  rcases h with h | ⟨b, hv, S', h1, h2, h3, h4, h5, h6, h7⟩
  · exact .inl h
  · exact .inr ⟨b, hv, S', h1, hs b h2, h3.tr hs, h4, h5, h6, h7⟩
theorem OwnQ.same : ∀ {n : Nat}, SameM (OwnQ n)
  | 0, _, _, _, _, h, _ => h.elim
  | n + 1, S, w, w', m, ⟨S1, S2, s1, s2, hd, h1, h2⟩, hk => ⟨S1, S2, s1, s2, hd, h1.same (hk.sub s1), h2.same OwnQ.same (hk.sub s2)⟩
theorem OwnQ.sup : ∀ {n : Nat} {S T : PS} {w : World} {m : HdR}, OwnQ n S w m → Sub S T → OwnQ n T w m
  | 0, _, _, _, _, h, _ => h.elim
  | n + 1, S, T, w, m, ⟨S1, S2, s1, s2, hd, h1, h2⟩, hs => ⟨S1, S2, s1.tr hs, s2.tr hs, hd, h1, h2⟩
theorem OwnW.src {S : PS} {w : World} {A : Option Addr} {c : Nat} {L : List ByteArray} (h : OwnW S w A c L) : SrcQ w A c L := by
  rcases h with ⟨rfl, rfl, rfl⟩ | ⟨a, rfl, _, h⟩
  · exact ⟨SrcE.nil_ w 0, Nat.le_refl _, Nat.zero_le _⟩
  · exact ⟨OwnE.src h, (OwnE.capOk h).1, (OwnE.capOk h).2.1⟩
theorem OwnKs.rd {M : HM} {H : HQ} (hM : ∀ {S : PS} {w : World} {h : HdR}, M S w h → H w h.q h.A h.c h.B) {S : PS} {w : World} {B : Option Addr} {d : Nat} {L : List QD} (h : OwnKs M S w B d L) : RdK H w B L := by
  rcases h with ⟨rfl, rfl, rfl⟩ | ⟨b, hv, S', rfl, _, _, _, rfl, h6, h7⟩
  · exact fun k hk => absurd hk (by simp)
  · intro k hk
    have hk' : k < hv.length := by simpa using hk
    have e : (hv.map (·.q))[k] = hv[k].q := by simp
    obtain ⟨S1, hm⟩ := h7.get hv[k] (List.getElem_mem _)
    obtain ⟨b', off, e1, hb, hc⟩ := (OwnE.src h6).cells encHR_ok hk' (by omega)
    simp only [Option.some.injEq, Addr.mk.injEq, and_true] at e1
    obtain ⟨rfl, rfl⟩ := e1
    refine ⟨b, 0, hv[k].A, hv[k].c, hv[k].B, hv[k].d, rfl, hb, fun j u hu => ?_, ?_⟩
    · rw [e] at hu
      have := hc j u hu
      rwa [← Nat.add_assoc] at this
    · rw [e]; exact hM hm
theorem OwnQ.has : ∀ {n : Nat} {S : PS} {w : World} {h : HdR}, OwnQ n S w h → HasQ n w h.q h.A h.c h.B
  | 0, _, _, _, h => h.elim
  | n + 1, S, w, m, ⟨S1, S2, s1, s2, hd, h1, h2⟩ => ⟨h1.src, h2.rd (fun h => OwnQ.has h)⟩
theorem OwnKs.len {M : HM} {S : PS} {w : World} {B : Option Addr} {d : Nat} {L : List QD} (h : OwnKs M S w B d L) : L.length ≤ d ∧ d ≤ maxLen := by
  rcases h with ⟨rfl, rfl, rfl⟩ | ⟨b, hv, S', rfl, _, _, _, rfl, h6, h7⟩
  · exact ⟨Nat.le_refl _, Nat.zero_le _⟩
  · have := OwnE.capOk h6
    rw [List.length_map]; exact ⟨this.1, this.2.1⟩
/-! marks -/
/-- how many marks. -/
def mkN : Nat → QD → Nat
  | 0, _ => 0
  | n + 1, q => q.ws.length + (q.ks.map (fun y => 4 + mkN n y)).sum
def sumN (n : Nat) (L : List QD) : Nat := (L.map (fun y => 4 + mkN n y)).sum
theorem mkN_eq (n : Nat) (q : QD) : mkN (n + 1) q = q.ws.length + sumN n q.ks := rfl
theorem sumN_succ (n : Nat) {L : List QD} {j : Nat} (hj : j < L.length) : sumN n (L.take (j + 1)) = sumN n (L.take j) + (4 + mkN n L[j]) := by
  unfold sumN
  rw [← List.take_append_getElem hj, List.map_append, List.sum_append]; simp
theorem sumN_le (n : Nat) (L : List QD) (j : Nat) : sumN n (L.take j) ≤ sumN n L := by
  unfold sumN
  conv => rhs; rw [← List.take_append_drop j L]
  rw [List.map_append, List.sum_append]; omega
/-- a question with its marks, in a list: the marks of its kids are those of f. -/
def mkY (f : Nat → List QD → List QD) (k : Nat) (y : QD) : QD := ⟨(k : Int), mtx (k + 1), mkL (k + 2) y.ws.length, ((k + 2 + y.ws.length : Nat) : Int), ((k + 3 + y.ws.length : Nat) : Int), f (k + 4 + y.ws.length) y.ks⟩
def mkZ (f : Nat → List QD → List QD) (g : QD → Nat) : Nat → List QD → List QD
  | _, [] => []
  | k, y :: r => mkY f k y :: mkZ f g (k + (4 + g y)) r
def mkKs : Nat → Nat → List QD → List QD
  | 0 => fun _ L => L
  | n + 1 => fun k L => mkZ (mkKs n) (mkN (n + 1)) k L
theorem mkZ_len (f : Nat → List QD → List QD) (g : QD → Nat) : ∀ (L : List QD) (k : Nat), (mkZ f g k L).length = L.length
  | [], _ => rfl
  | y :: r, k => by show (mkZ _ _ _ r).length + 1 = r.length + 1; rw [mkZ_len f g r]
theorem mkKs_len : ∀ (n k : Nat) (L : List QD), (mkKs n k L).length = L.length
  | 0, _, _ => rfl
  | n + 1, k, L => mkZ_len _ _ L k
theorem mkZ_snoc (n : Nat) (f : Nat → List QD → List QD) (y : QD) : ∀ (L : List QD) (k : Nat), mkZ f (mkN n) k (L ++ [y]) = mkZ f (mkN n) k L ++ [mkY f (k + sumN n L) y]
  | [], k => rfl
  | x :: r, k => by
    show mkY f k x :: mkZ f (mkN n) _ (r ++ [y]) = mkY f k x :: (mkZ f (mkN n) _ r ++ [_])
    rw [mkZ_snoc n f y r]
    congr 4
    unfold sumN
    rw [List.map_cons, List.sum_cons]; omega
theorem mkZ_take (n : Nat) (f : Nat → List QD → List QD) (k : Nat) {L : List QD} {j : Nat} (hj : j < L.length) : mkZ f (mkN n) k (L.take (j + 1)) = mkZ f (mkN n) k (L.take j) ++ [mkY f (k + sumN n (L.take j)) L[j]] := by
  rw [← List.take_append_getElem hj, mkZ_snoc]
theorem mkZ_get (n : Nat) (f : Nat → List QD → List QD) : ∀ (L : List QD) (k j : Nat) (hj : j < L.length), (mkZ f (mkN n) k L)[j]? = some (mkY f (k + sumN n (L.take j)) L[j])
  | y :: r, k, 0, hj => rfl
  | y :: r, k, j + 1, hj => by
    have ih := mkZ_get n f r (k + (4 + mkN n y)) j (by simpa using hj)
    show (mkZ f (mkN n) _ r)[j]? = _
    rw [ih]
    congr 2
    unfold sumN
    rw [List.take_succ_cons, List.map_cons, List.sum_cons]; omega
def mkHR (f : Nat → List QD → List QD) (k : Nat) (h : HdR) : HdR := ⟨mkY f k h.q, h.A, h.c, h.B, h.d⟩
/-- the first j have their marks. -/
def mkHs (n : Nat) (f : Nat → List QD → List QD) : Nat → List HdR → List HdR
  | _, [] => []
  | k, h :: r => mkHR f k h :: mkHs n f (k + (4 + mkN n h.q)) r
theorem mkHs_q (n : Nat) (f : Nat → List QD → List QD) : ∀ (hv : List HdR) (k : Nat), (mkHs n f k hv).map (·.q) = mkZ f (mkN n) k (hv.map (·.q))
  | [], _ => rfl
  | h :: r, k => by show mkY f k h.q :: (mkHs n f _ r).map (·.q) = mkY f k h.q :: mkZ f (mkN n) _ (r.map (·.q)); rw [mkHs_q n f r]
theorem mkHs_len (n : Nat) (f : Nat → List QD → List QD) (k : Nat) (hv : List HdR) : (mkHs n f k hv).length = hv.length := by
  have := congrArg List.length (mkHs_q n f hv k)
  rwa [List.length_map, mkZ_len, List.length_map] at this
theorem mkHs_snoc (n : Nat) (f : Nat → List QD → List QD) (h : HdR) : ∀ (hv : List HdR) (k : Nat), mkHs n f k (hv ++ [h]) = mkHs n f k hv ++ [mkHR f (k + sumN n (hv.map (·.q))) h]
  | [], k => rfl
  | x :: r, k => by
    show mkHR f k x :: mkHs n f _ (r ++ [h]) = mkHR f k x :: (mkHs n f _ r ++ [_])
    rw [mkHs_snoc n f h r]
    congr 4
    unfold sumN
    rw [List.map_cons, List.map_cons, List.sum_cons]; omega
theorem encHR_cells (P Q : List HdR) (m : HdR) (j : Nat) (hj : j < 6) : ((P ++ m :: Q).flatMap encHR)[P.length * 6 + j]? = (encHR m)[j]? := by
  have hl : (P.flatMap encHR).length = P.length * 6 := encHR_ok.flat P
  rw [List.flatMap_append, List.flatMap_cons, List.getElem?_append_right (by omega), hl, show P.length * 6 + j - P.length * 6 = j by omega, List.getElem?_append_left (by rw [show (encHR m).length = 6 from rfl]; exact hj)]
theorem encHR_set4 (P Q : List HdR) (m m' : HdR) (u0 u1 u3 u4 : Value) (e : encHR m' = (((encHR m).set 0 u0).set 1 u1 |>.set 3 u3).set 4 u4) :
    (((((P ++ m :: Q).flatMap encHR).set (P.length * 6) u0).set (P.length * 6 + 1) u1).set (P.length * 6 + 3) u3).set (P.length * 6 + 4) u4 = (P ++ m' :: Q).flatMap encHR := by
  have hl : (P.flatMap encHR).length = P.length * 6 := encHR_ok.flat P
  have h6 : (encHR m).length = 6 := rfl
  rw [List.flatMap_append, List.flatMap_append, List.flatMap_cons, List.flatMap_cons, List.set_append_right _ _ (by omega), hl, Nat.sub_self, List.set_append_right _ _ (by omega), hl, show P.length * 6 + 1 - P.length * 6 = 1 by omega,
    List.set_append_right _ _ (by omega), hl, show P.length * 6 + 3 - P.length * 6 = 3 by omega, List.set_append_right _ _ (by omega), hl, show P.length * 6 + 4 - P.length * 6 = 4 by omega, e]
  rfl
end Go.Proofs.YtaobgliimbmemaaGreatDoor
