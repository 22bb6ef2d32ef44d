/- Joined of several texts. -/
import Derived.Test.YtcikenffeekkeaaGreatDoorY17
import Derived.Test.YtcikenffeekkeaaGreatDoorY35
namespace Go.Proofs.YtcikenffeekkeaaGreatDoor
/- Contracts of the program: arrow at three formulas. -/
open Go.RowKit
set_option linter.unusedVariables false
set_option linter.unusedSimpArgs false
/-- the three states of the loop of arrow at three formulas -/
def ArT (w : World) (xs ys zs : List Nd) (o i : Value) (wr : World) : Prop :=
  (i = .int .i64 1 ∧ Sl cN w o zs ∧ wr = w) ∨ (i = .int .i64 0 ∧ Ow cN 75 w.heap.size wr o ([(4, 0)] ++ ys ++ zs) ∧ Below w.heap.size w wr) ∨
  (i = .int .i64 (-1) ∧ Ow cN 75 w.heap.size wr o ([(4, 0)] ++ xs ++ ([(4, 0)] ++ ys ++ zs)) ∧ Below w.heap.size w wr)
set_option maxRecDepth 100000 in
theorem impl_arrow3 (v : Value) (xs ys zs : List Nd) (w : World) (h : Sl2 cN w v [xs, ys, zs]) (hl : xs.length ≤ 1000) (hl' : ys.length ≤ 1000) (hl2 : zs.length ≤ 1000) :
    Calls Tryz.prog 69 #[v] w fun e w' => ∃ r, e = .returned r ∧ Ow cN 75 w.heap.size w' r ([(4, 0)] ++ xs ++ ([(4, 0)] ++ ys ++ zs)) ∧ Below w.heap.size w w' := by
  obtain ⟨A, c, rfl⟩ := h.opn
  obtain ⟨b, o, A0, n0, c0, rfl, hb, hc0, hs0⟩ := h.at_ (k := 0) (by simp)
  obtain ⟨b', o', A1, n1, c1, hA, hb', hc1, hs1⟩ := h.at_ (k := 1) (by simp)
  injection hA with hA
  injection hA with h1 h2 _
  subst h1
  subst h2
  obtain ⟨b', o', A2, n2, c2, hA, hb', hc2, hs2⟩ := h.at_ (k := 2) (by simp)
  injection hA with hA
  injection hA with h1 h2 _
  subst h1
  subst h2
  simp only [List.getElem_cons_zero, List.getElem_cons_succ, Nat.add_zero, List.length_cons, List.length_nil, Nat.zero_add] at hc0 hc1 hc2 hs0 hs1 hs2 ⊢
  have S0 := Lib.hid hs0
  have S1 := Lib.hid hs1
  have S2 := Lib.hid hs2
  have C0 := Lib.hid hc0
  have HBb := Lib.hid hb
  clear h hs0 hs1 hs2 hc0 hb'
  go_enter Tryz.func69, Tryz.ntmps69
  go_wp2
  go_loopw [3, 4] (fun o i wr => ArT w xs ys zs o i wr) (fun _ i _ => (intOf i + 1).toNat)
  case atStart => exact .inl ⟨rfl, S2.out, rfl⟩
  case round =>
    clear hc2
    rcases hrel with ⟨rfl, hs, rfl⟩ | ⟨rfl, ho, hb2⟩ | ⟨rfl, ho, hb2⟩
    · have HS := Lib.hid hs
      clear hs
      go_wp2_with fail
      refine (impl_join 4 _ _ _ _ _ S1.out HS.out (by omega) (by omega)).mono ?_
      rintro e w1 ⟨r, rfl, ho, hb1⟩
      have O := Lib.hid ho
      have HB := Lib.hid hb1
      clear ho hb1
      go_wp2
      go_roundw
      case rel => exact .inr (.inl ⟨rfl, O.out, HB.out⟩)
      case measure => simp [intOf]
    · have O := Lib.hid ho
      have HB := Lib.hid hb2
      have hc0 := (hb2.cell (p := ⟨b, o, none⟩) HBb.out).trans C0.out
      have hbr : b < wr.heap.size := Nat.lt_of_lt_of_le HBb.out hb2.size
      have T0 := Lib.hid (S0.out.below hb2)
      have hz := hb2.size
      clear ho hb2 hc1 hb
      go_wp2_with fail
      refine (impl_join 4 _ _ _ _ _ T0.out O.out.sl (by omega) (by simp <;> omega)).mono ?_
      rintro e w1 ⟨r, rfl, ho, hb1⟩
      have O1 := Lib.hid (ho.mono hz)
      have HB1 := Lib.hid (bthen HB.out hb1)
      clear ho hb1
      go_wp2
      go_roundw
      case rel => exact .inr (.inr ⟨rfl, O1.out, HB1.out⟩)
      case measure => simp [intOf]
    · have O := Lib.hid ho
      have HB := Lib.hid hb2
      clear ho hb2
      go_wp2
      go_ret
      exact ⟨_, rfl, O.out, HB.out⟩
/- The discharger: the lines behind a line that stays as it is. -/
open Go.RowKit
set_option linter.unusedVariables false
set_option linter.unusedSimpArgs false
/-- colours of blocks not yet there: none -/
def fz (c : Nat → Nat) (n : Nat) : Nat → Nat := fun k => if k < n then c k else 0
theorem fz_lt {c : Nat → Nat} {n k : Nat} (h : k < n) : fz c n k = c k := if_pos h
theorem fz_ge {c : Nat → Nat} {n k : Nat} (h : n ≤ k) : fz c n k = 0 := if_neg (by omega)
theorem DsM.go {B g : Nat} {c : Nat → Nat} {va vl vs vi : Value} {ls : List Ln} {se im : List Int} {w w1 : World} (h : DsM B g c va vl vs vi ls se im w) (hb : Below w.heap.size w w1) : DsM B g (fz c w.heap.size) va vl vs vi ls se im w1 :=
  (h.recl fun k hk => fz_lt hk).below hb
theorem arrowC2 (w : World) {A B : Option Addr} {n m c d : Nat} {xs ys : List Nd} (h : Sl cN w (.slice A n c) xs) (h' : Sl cN w (.slice B m d) ys) (hl : xs.length ≤ 262144) (hl' : ys.length ≤ 262144) :
    Calls Tryz.prog 69 #[.slice (some ⟨w.heap.size, 0, none⟩) 2 2] (w.alloc (.cells #[.slice A n c, .slice B m d] 44)) fun e w' => ∃ r, e = .returned r ∧ Ow cN 75 w.heap.size w' r ([(4, 0)] ++ xs ++ ys) ∧ Below w.heap.size w w' :=
  (impl_arrow2 _ xs ys _ (Sl2.two h h' 44) hl hl').mono fun e w' ⟨r, he, ho, hb⟩ => ⟨r, he, ho.mono (by simp), (below_alloc' w _).trans (hb.mono (by simp))⟩
theorem arrowC3 (w : World) {A B C : Option Addr} {n m p c d q : Nat} {xs ys zs : List Nd} (h : Sl cN w (.slice A n c) xs) (h' : Sl cN w (.slice B m d) ys) (h'' : Sl cN w (.slice C p q) zs) (hl : xs.length ≤ 1000) (hl' : ys.length ≤ 1000) (hl2 : zs.length ≤ 1000) :
    Calls Tryz.prog 69 #[.slice (some ⟨w.heap.size, 0, none⟩) 3 3] (w.alloc (.cells #[.slice A n c, .slice B m d, .slice C p q] 44)) fun e w' => ∃ r, e = .returned r ∧ Ow cN 75 w.heap.size w' r ([(4, 0)] ++ xs ++ ([(4, 0)] ++ ys ++ zs)) ∧ Below w.heap.size w w' :=
  (impl_arrow3 _ xs ys zs _ (Sl2.three h h' h'' 44 _ rfl) hl hl' hl2).mono fun e w' ⟨r, he, ho, hb⟩ => ⟨r, he, ho.mono (by simp), (below_alloc' w _).trans (hb.mono (by simp))⟩
/-- a formula made in between is added -/
theorem DsM.free {B g : Nat} {c : Nat → Nat} {va vl vs vi : Value} {ls : List Ln} {se im : List Int} {w w1 : World} (h : DsM B g c va vl vs vi ls se im w) (hb : Below w.heap.size w w1) {v : Value} {xs : List Nd} (ho : Ow cN 75 w.heap.size w1 v xs) :
    DsM B g (fz c w.heap.size) va vl vs vi ls se im w1 ∧ Ow cN 75 B w1 v xs ∧ ∀ k, v.ownBlock = some k → fz c w.heap.size k = 0 :=
  ⟨h.go hb, ho.mono (by have := h.gB; have := h.blk.lt; omega), fun k e => fz_ge (ho.block k e).1⟩
set_option maxRecDepth 100000 in
set_option maxHeartbeats 1000000 in
theorem impl_weaken {g : Nat} {c : Nat → Nat} {va vl vs vi : Value} {ls : List Ln} {se im : List Int} {w0 w : World} (h : DsM w0.heap.size g c va vl vs vi ls se im w) (hb : Below w0.heap.size w0 w) {a xs : List Nd} {v : Value} (ha : Sl cN w0 va a) (hv : Sl cN w0 v xs) (self : Int) (hla : a.length ≤ 1000) (hlx : xs.length ≤ 1000) (hl : ls.length ≤ 996) (hse : se.length ≤ 200) (him : im.length ≤ 200) :
    Calls Tryz.prog 47 #[.pointer (some ⟨g, 0, none⟩), .int .i64 self, v] w fun e w' => e = .returned (.tuple #[]) ∧ ∃ vl' vs' vi' c',
      DsM w0.heap.size g c' va vl' vs' vi' (ls ++ [⟨1, 0, 0, [(4, 0)] ++ xs ++ ([(4, 0)] ++ a ++ xs)⟩, ⟨3, ls.length, self, [(4, 0)] ++ a ++ xs⟩]) (se ++ [self]) (im ++ [(ls.length : Int) + 1]) w' ∧ Below w0.heap.size w0 w' := by
  have HH := Lib.hid h
  have HB := Lib.hid hb
  have HA := Lib.hid ha
  have HV := Lib.hid hv
  obtain ⟨Aa, ca, rfl⟩ := ha.opn
  obtain ⟨Av, cv, rfl⟩ := hv.opn
  have HAR := Lib.hid (arrowC3 w (hv.below hb) (ha.below hb) (hv.below hb) hlx hla hlx)
  have HA2 := Lib.hid (fun W (hW : Below w0.heap.size w0 W) => arrowC2 W (ha.below hW) (hv.below hW) (by omega) (by omega))
  have d0 := h.blk.cell 0
  have ld := h.blk.lt
  clear h hb ha hv
  generalize [((4 : Int), (0 : Int))] ++ xs ++ ([((4 : Int), (0 : Int))] ++ a ++ xs) = F1 at *
  generalize [((4 : Int), (0 : Int))] ++ a ++ xs = F2 at *
  go_enter Tryz.func47, Tryz.ntmps47
  go_wp2_with fail
  refine HAR.out.mono ?_
  rintro e w1 ⟨r, rfl, ho1, hb1⟩
  obtain ⟨h1, ho1', hc1⟩ := HH.out.free hb1 ho1
  obtain ⟨A1, c1, rfl⟩ := ho1'.opn
  have HB1 := Lib.hid (HB.out.trans (hb1.mono HB.out.size))
  have HAD := Lib.hid (impl_add h1 ho1' hc1 1 0 0 (by omega))
  have H1 := Lib.hid h1
  clear h1 ho1 ho1' hb1 HAR hc1 d0 ld
  go_wp2_with fail
  refine HAD.out.mono ?_
  rintro e w2 ⟨rfl, vl2, c2, h2, -, hk2⟩
  obtain ⟨L1, hL1⟩ : ∃ L, ls ++ [(⟨1, 0, 0, F1⟩ : Ln)] = L := ⟨_, rfl⟩
  have HL1 : Hid (L1.length = ls.length + 1) := Lib.hid (by rw [← hL1]; simp)
  rw [hL1] at h2
  have HL := Lib.hid hL1
  clear hL1
  have HB2 := Lib.hid (HB1.out.trans (H1.out.toB hk2 fun k e => by omega))
  have H2 := Lib.hid h2
  obtain ⟨As, cs, rfl⟩ := h2.se_.opn
  have d2 := h2.blk.cell 2
  have ld := h2.blk.lt
  have HSZ := Lib.hid (show w0.heap.size ≤ w2.heap.size by have := h2.gB; omega)
  clear h2 hk2 HAD H1
  go_wp2_with (at_builtin; refine stopHere ?_)
  refine goHere ?_
  refine ap_one (K := cI) w2 ty_int64 rfl _ _ rfl (B := w0.heap.size) (v := .slice As se.length cs) (xs := se) rfl H2.out.se_ self rfl rfl (by omega) HSZ.out ?_
  intro v3 w3 ho3 hg3 hb3 hat3
  obtain ⟨hbk, hbs, c3, h3, -, hk3⟩ := H2.out.addS _ w3 v3 self hg3 ho3 hat3
  have HB3 := Lib.hid (HB2.out.trans (H2.out.toB hk3 fun k e => by omega))
  have H3 := Lib.hid h3
  have d2' := hbk.cell 2
  have f2' := hbk.frozen 2
  have ld' := hbk.lt
  obtain ⟨A3, cc3, rfl⟩ := ho3.opn
  have HQ3 := Lib.hid (rfl : se ++ [self] = se ++ [self])
  generalize (se ++ [self]).length = n3 at *
  clear hbs ho3 hg3 hb3 hat3 hbk h3 hk3 d2 HQ3
  obtain ⟨Ai, ci, rfl⟩ := H3.out.im_.opn
  go_upto_region 2 with fail
  obtain ⟨w4, hw4⟩ : ∃ W, W = w3.setCell ⟨g, 2, none⟩ (.slice A3 n3 cc3) := ⟨_, rfl⟩
  rw [← hw4] at H3 HB3 ⊢
  clear hw4 d2' f2' ld' ld
  have i3 : w4.cell? ⟨g, 3, none⟩ = some (.slice Ai im.length ci) := H3.out.blk.cell 3
  have i0 : w4.cell? ⟨g, 0, none⟩ = some (.slice Aa a.length ca) := H3.out.blk.cell 0
  refine wp_region_sched (fun X => X.cell? ⟨g, 3, none⟩ = some (.slice Ai im.length ci) ∧ X.cell? ⟨g, 0, none⟩ = some (.slice Aa a.length ca)) 18 [0, 1, 2, 3, 4, 5, 6, 7, 8, 9, 10, 11, 12] [0, 1, 2, 3, 4, 5, 6, 7, 8, 9, 10, 11, 12, 13, 14, 15, 16, 17] (by kernel_rfl) (by kernel_rfl) ⟨i3, i0⟩ ?_
  repeat
    apply wpSched_q rfl rfl
    case h =>
      intro w' hI K hK
      obtain ⟨d3', d0'⟩ := hI
      simp only [quietV, stillV]
      go_simp
      exact hK
    go_simp
  have hb4 : Below w4.heap.size w4 w4.drew := (Below.refl _ _).drew
  have H4 := Lib.hid (H3.out.below hb4)
  have HB4 := Lib.hid (HB3.out.trans (hb4.mono HB3.out.size))
  have AR := Lib.hid (HA2.out w4.drew HB4.out)
  clear hb4
  obtain ⟨w5, hw5⟩ : ∃ W, W = w4.drew := ⟨_, rfl⟩
  rw [← hw5] at H4 HB4 AR ⊢
  have j3 : w5.cell? ⟨g, 3, none⟩ = some (.slice Ai im.length ci) := H4.out.blk.cell 3
  have j0 : w5.cell? ⟨g, 0, none⟩ = some (.slice Aa a.length ca) := H4.out.blk.cell 0
  clear hw5 i3 i0
  refine wpSched_r rfl rfl ?_ ⟨j3, j0⟩
  intro K hK hI
  go_simp
  have jk : (w5.alloc (.cells #[.slice Aa a.length ca, .slice Av xs.length cv] 44)).cell? ⟨g, 3, none⟩ = some (.slice Ai im.length ci) ∧ (w5.alloc (.cells #[.slice Aa a.length ca, .slice Av xs.length cv] 44)).cell? ⟨g, 0, none⟩ = some (.slice Aa a.length ca) :=
    ⟨((below_alloc' w5 _).cell (p := ⟨g, 3, none⟩) H4.out.blk.lt).trans j3, ((below_alloc' w5 _).cell (p := ⟨g, 0, none⟩) H4.out.blk.lt).trans j0⟩
  refine hK _ _ jk ?_
  clear hK K hI
  refine wpSched_r rfl rfl ?_ jk
  intro K hK hI
  go_simp
  refine AR.out.mono ?_
  rintro e w6 ⟨r6, rfl, ho6, hb6⟩
  obtain ⟨h6, ho6', hc6⟩ := H4.out.free hb6 ho6
  obtain ⟨A6, c6, rfl⟩ := ho6'.opn
  have HB6 := Lib.hid (HB4.out.trans (hb6.mono HB4.out.size))
  refine hK _ _ ⟨h6.blk.cell 3, h6.blk.cell 0⟩ ?_
  clear hK K hI
  have hL1 : L1.length ≤ 1000 := by have := HL1.out; omega
  have HAD6 := Lib.hid (impl_add h6 ho6' hc6 3 ls.length self hL1)
  refine wpSched_r rfl rfl ?_ ⟨h6.blk.cell 3, h6.blk.cell 0⟩
  intro K hK hI
  go_simp
  refine HAD6.out.mono ?_
  rintro e w7 ⟨rfl, vl7, c7, h7, -, hk7⟩
  have HB7 := Lib.hid (HB6.out.trans (h6.toB hk7 fun k e => by omega))
  have k7 : w7.cell? ⟨g, 3, none⟩ = some (.slice Ai im.length ci) := h7.blk.cell 3
  have k0 : w7.cell? ⟨g, 0, none⟩ = some (.slice Aa a.length ca) := h7.blk.cell 0
  refine hK _ _ ⟨k7, k0⟩ ?_
  clear hK K hI
  refine wpSched_r rfl rfl ?_ ⟨k7, k0⟩
  intro K hK hI
  go_simp
  obtain ⟨q, hq⟩ : ∃ q : Int, (L1.length : Int) = q := ⟨_, rfl⟩
  have HQ : Hid (q = (ls.length : Int) + 1) := Lib.hid (by rw [← hq, HL1.out]; rfl)
  rw [hq]
  have jk7 : (w7.alloc (.cells #[.int .i64 q] 2)).cell? ⟨g, 3, none⟩ = some (.slice Ai im.length ci) ∧ (w7.alloc (.cells #[.int .i64 q] 2)).cell? ⟨g, 0, none⟩ = some (.slice Aa a.length ca) :=
    ⟨((below_alloc' w7 _).cell (p := ⟨g, 3, none⟩) h7.blk.lt).trans k7, ((below_alloc' w7 _).cell (p := ⟨g, 0, none⟩) h7.blk.lt).trans k0⟩
  refine hK _ _ jk7 ?_
  clear hK K hI
  refine wpSched_r rfl rfl ?_ jk7
  intro K hK hI
  refine step_oneS (K := cI) w7 ty_int64 rfl _ _ rfl (B := w0.heap.size) (v := .slice Ai im.length ci) (xs := im) (by simp [Act.eval, Act.put]; done) h7.im_ q rfl (by simp [Act.eval, Act.put]; done) (by omega) (by have := h7.gB; have := h7.blk.lt; omega) ?_
  intro v9 w9 ho9 hg9 hb9 hat9
  obtain ⟨hbk, hbs, c9, h9, -, hk9⟩ := h7.addI _ w9 v9 q hg9 ho9 hat9
  obtain ⟨A9, cc9, rfl⟩ := ho9.opn
  generalize (im ++ [q]).length = n9 at *
  refine hK _ _ ⟨hbk.cell 3, hbk.cell 0⟩ ?_
  clear hK K hI
  have HB9 := Lib.hid (HB7.out.trans (h7.toB hk9 fun k e => by omega))
  have HBK := Lib.hid hbk
  have HLL : Hid (ls ++ [(⟨1, 0, 0, F1⟩ : Ln), ⟨3, ls.length, self, F2⟩] = L1 ++ [⟨3, ls.length, self, F2⟩]) := Lib.hid (by rw [← HL.out, List.append_assoc]; rfl)
  rw [← HLL.out, HQ.out] at h9
  have H9 := Lib.hid h9
  clear h9 hbk hbs hk9 ho9 hg9 hb9 hat9 jk7 k7 k0 hq h7 hk7 HAD6 hc6 ho6' h6 hb6 ho6 jk j3 j0 hL1
  refine wpSched_nil ?_
  try simp only [List.drop_succ_cons, List.drop_zero, List.drop_nil]
  have e0 := HBK.out.cell 3
  have e1 := HBK.out.frozen 3
  have e2 := HBK.out.lt
  go_wp2
  go_end0
  exact ⟨rfl, _, _, _, c9, H9.out, HB9.out⟩
end Go.Proofs.YtcikenffeekkeaaGreatDoor
