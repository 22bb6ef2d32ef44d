/- Contracts of ComplementTrace, of the program and of the reference. -/
import Derived.Test.Ytbmknlfpaggbnaa32x
import Derived.Test.Ytbmknlfpaggbnaa32c
namespace Go.Proofs.Ytbmknlfpaggbnaa
open Go.RowKit
set_option linter.unusedVariables false
set_option linter.unusedSimpArgs false
theorem far2 {w : World} {p q a b : Addr} {x y u v : Value} (h0 : w.cell? p = some x) (h1 : w.cell? q = some y) (hp : a.block ≠ p.block) (hq : a.block ≠ q.block) (hab : b.block = a.block := by rfl) :
    ((w.setCell a u).setCell b v).cell? p = some x ∧ ((w.setCell a u).setCell b v).cell? q = some y := by
  rw [World.cell?_setCell_far _ _ _ _ (hab ▸ hp), World.cell?_setCell_far _ _ _ _ hp, World.cell?_setCell_far _ _ _ _ (hab ▸ hq), World.cell?_setCell_far _ _ _ _ hq]
  exact ⟨h0, h1⟩
theorem impl_ComplementTrace_bad (v : Value) (b : Bool) (xs : List Int) (w : World) (h : Sl cI w v xs) (hl : xs.length ≤ 1048576) (hc : okT xs = false) :
    Calls Try.prog 23 #[.agg #[.bool b, v]] w fun e w' => e = .returned (.tuple #[.agg #[.bool false, .slice none 0 0], .int .i64 1]) ∧ Below w.heap.size w w' := by
  obtain ⟨A, c, rfl⟩ := h.opn
  have H1 := Lib.hid (hc ▸ impl_isTrace _ b xs _ ((h.alloc (.cells #[.bool b, .slice A xs.length c] 33)).alloc (.cells #[.bool false, .slice none 0 0] 33)) hl)
  clear hc h
  go_enter Try.func23, Try.ntmps23
  go_wp2_with fail
  refine H1.out.mono ?_
  rintro e w1 ⟨rfl, hb⟩
  have f1 : Blk w1 (w.heap.size + 1) 33 #[.bool false, .slice none 0 0] := (Blk.new' (w.alloc (.cells #[.bool b, .slice A xs.length c] 33)) 33 #[.bool false, .slice none 0 0] (by simp)).below hb (by simp <;> omega)
  obtain ⟨k1, k2, k3⟩ := And.intro f1.cell (And.intro f1.frozen f1.lt)
  have HB : Hid (Below w.heap.size w w1) := Lib.hid ((((Below.refl _ _).alloc (Nat.le_refl _) _).alloc (by simp) _).trans (hb.mono (by simp <;> omega)))
  clear hb f1
  go_wp2
  refine bodyPost_ret (v := .tuple #[.agg #[.bool false, .slice none 0 0], .int .i64 1]) (by simp [results, Try.results23, go_sem, k1, k2, k3]) rfl ⟨rfl, ?_⟩
  exact (HB.out.setCell (by show w.heap.size ≤ w.heap.size + 1; omega) _).setCell (by show w.heap.size ≤ w.heap.size + 1; omega) _
set_option maxRecDepth 100000 in
theorem impl_ComplementTrace_ok (v : Value) (b : Bool) (xs : List Int) (w : World) (h : Sl cI w v xs) (hl : xs.length ≤ 1048576) (hc : okT xs = true) :
    Calls Try.prog 23 #[.agg #[.bool b, v]] w fun e w' => ∃ u, e = .returned (.tuple #[.agg #[.bool (!b), u], .int .i64 0]) ∧ Ow cI 2 w.heap.size w' u xs ∧ Below w.heap.size w w' := by
  obtain ⟨A, c, rfl⟩ := h.opn
  have h2 := (h.alloc (.cells #[.bool b, .slice A xs.length c] 33)).alloc (.cells #[.bool false, .slice none 0 0] 33)
  have H1 := Lib.hid (hc ▸ impl_isTrace _ b xs _ h2 hl)
  have H2 := Lib.hid h2
  clear hc h h2
  go_enter Try.func23, Try.ntmps23
  go_wp2_with fail
  refine H1.out.mono ?_
  rintro e w1 ⟨rfl, hb⟩
  have hs := H2.out.below hb
  have f0 : Blk w1 w.heap.size 33 #[.bool b, .slice A xs.length c] := ((Blk.new w 33 #[.bool b, .slice A xs.length c]).alloc (.cells #[.bool false, .slice none 0 0] 33)).below hb (by simp <;> omega)
  have f1 : Blk w1 (w.heap.size + 1) 33 #[.bool false, .slice none 0 0] := (Blk.new' (w.alloc (.cells #[.bool b, .slice A xs.length c] 33)) 33 #[.bool false, .slice none 0 0] (by simp)).below hb (by simp <;> omega)
  obtain ⟨i1, i2, i3⟩ := And.intro f0.cell (And.intro f0.frozen f0.lt)
  have HF := Lib.hid f1
  have HS := Lib.hid hs
  have HB : Hid (Below w.heap.size w w1) := Lib.hid ((((Below.refl _ _).alloc (Nat.le_refl _) _).alloc (by simp) _).trans (hb.mono (by simp <;> omega)))
  clear hb f0 f1 hs
  have HC := Lib.hid (fun W (hW : Sl cI W (.slice A xs.length c) xs) => slices_Clone_int64 _ xs W hW (by omega))
  have i01 := i1 0
  have i11 := i1 1
  simp only [List.getElem?_toArray, List.getElem?_cons_zero, List.getElem?_cons_succ] at i01 i11
  clear i1
  go_wp2
  go_region_held3 (fun w' => w'.cell? ⟨w.heap.size, 0, none⟩ = some (.bool b) ∧ w'.cell? ⟨w.heap.size, 1, none⟩ = some (.slice A xs.length c)) (first | exact ⟨i01, i11⟩ | exact far2 (by assumption) (by assumption) (by show w.heap.size + 1 ≠ w.heap.size; omega) (by show w.heap.size + 1 ≠ w.heap.size; omega) | (simp [*]; done)) (first | (go_at_call 65; refine (HC.out _ (HS.out.below (below_drewN (Below.refl _ _) 1))).mono ?_; rintro e w2 ⟨u, rfl, ho, hb⟩; obtain ⟨A2, c2, rfl⟩ := ho.opn; have hb3 : Below w1.heap.size w1 w2 := (below_drewN (Below.refl _ _) 1).trans hb; have j01 : w2.cell? ⟨w.heap.size, 0, none⟩ = some (.bool b) := (hb3.cell (p := ⟨w.heap.size, 0, none⟩) i3).trans i01; have j11 : w2.cell? ⟨w.heap.size, 1, none⟩ = some (.slice A xs.length c) := (hb3.cell (p := ⟨w.heap.size, 1, none⟩) i3).trans i11; have f2 := HF.out.below hb3 HF.out.lt; obtain ⟨k1, k2, k3⟩ := And.intro f2.cell (And.intro f2.frozen f2.lt)))
  have HO : Hid (Ow cI 2 w1.heap.size w2 (.slice A2 xs.length c2) xs) := Lib.hid ho
  have HB2 := Lib.hid (bthen HB.out hb3)
  clear ho hb hb3 j01 j11 f2 i01 i11
  go_wp2
  refine bodyPost_ret (v := .tuple #[.agg #[.bool (!b), .slice A2 xs.length c2], .int .i64 0]) (by simp [results, Try.results23, go_sem, k1, k2, k3]) rfl ⟨_, rfl, ?_, ?_⟩
  · have hz := HF.out.lt
    exact ((HO.out.setBelow (by show w.heap.size + 1 < w1.heap.size; omega) _).setBelow (by show w.heap.size + 1 < w1.heap.size; omega) _).mono (by omega)
  · exact (HB2.out.setCell (by show w.heap.size ≤ w.heap.size + 1; omega) _).setCell (by show w.heap.size ≤ w.heap.size + 1; omega) _
theorem spec_ComplementTrace_bad (v : Value) (b : Bool) (xs : List Int) (w : World) (h : Sl cI w v xs) (hl : xs.length ≤ 1048576) (hc : okT xs = false) :
    Calls Try.prog 21 #[.agg #[.bool b, v]] w fun e w' => e = .returned (.tuple #[.agg #[.bool false, .slice none 0 0], .int .i64 1]) ∧ Below w.heap.size w w' := by
  obtain ⟨A, c, rfl⟩ := h.opn
  have H1 := Lib.hid (hc ▸ spec_l32Valid _ b xs _ ((h.alloc (.cells #[.bool b, .slice A xs.length c] 33)).alloc (.cells #[.bool false, .slice none 0 0] 33)) hl)
  clear hc h
  go_enter Try.func21, Try.ntmps21
  go_wp2_with fail
  refine H1.out.mono ?_
  rintro e w1 ⟨rfl, hb⟩
  have f1 : Blk w1 (w.heap.size + 1) 33 #[.bool false, .slice none 0 0] := (Blk.new' (w.alloc (.cells #[.bool b, .slice A xs.length c] 33)) 33 #[.bool false, .slice none 0 0] (by simp)).below hb (by simp <;> omega)
  obtain ⟨k1, k2, k3⟩ := And.intro f1.cell (And.intro f1.frozen f1.lt)
  have HB : Hid (Below w.heap.size w w1) := Lib.hid ((((Below.refl _ _).alloc (Nat.le_refl _) _).alloc (by simp) _).trans (hb.mono (by simp <;> omega)))
  clear hb f1
  go_wp2
  refine bodyPost_ret (v := .tuple #[.agg #[.bool false, .slice none 0 0], .int .i64 1]) (by simp [results, Try.results21, go_sem, k1, k2, k3]) rfl ⟨rfl, ?_⟩
  exact (HB.out.setCell (by show w.heap.size ≤ w.heap.size + 1; omega) _).setCell (by show w.heap.size ≤ w.heap.size + 1; omega) _
set_option maxRecDepth 100000 in
theorem spec_ComplementTrace_ok (v : Value) (b : Bool) (xs : List Int) (w : World) (h : Sl cI w v xs) (hl : xs.length ≤ 1048576) (hc : okT xs = true) :
    Calls Try.prog 21 #[.agg #[.bool b, v]] w fun e w' => ∃ u, e = .returned (.tuple #[.agg #[.bool (!b), u], .int .i64 0]) ∧ Ow cI 2 w.heap.size w' u xs ∧ Below w.heap.size w w' := by
  obtain ⟨A, c, rfl⟩ := h.opn
  have h2 := (h.alloc (.cells #[.bool b, .slice A xs.length c] 33)).alloc (.cells #[.bool false, .slice none 0 0] 33)
  have H1 := Lib.hid (hc ▸ spec_l32Valid _ b xs _ h2 hl)
  have H2 := Lib.hid h2
  clear hc h h2
  go_enter Try.func21, Try.ntmps21
  go_wp2_with fail
  refine H1.out.mono ?_
  rintro e w1 ⟨rfl, hb⟩
  have hs := H2.out.below hb
  have f0 : Blk w1 w.heap.size 33 #[.bool b, .slice A xs.length c] := ((Blk.new w 33 #[.bool b, .slice A xs.length c]).alloc (.cells #[.bool false, .slice none 0 0] 33)).below hb (by simp <;> omega)
  have f1 : Blk w1 (w.heap.size + 1) 33 #[.bool false, .slice none 0 0] := (Blk.new' (w.alloc (.cells #[.bool b, .slice A xs.length c] 33)) 33 #[.bool false, .slice none 0 0] (by simp)).below hb (by simp <;> omega)
  obtain ⟨i1, i2, i3⟩ := And.intro f0.cell (And.intro f0.frozen f0.lt)
  have HF := Lib.hid f1
  have HS := Lib.hid hs
  have HB : Hid (Below w.heap.size w w1) := Lib.hid ((((Below.refl _ _).alloc (Nat.le_refl _) _).alloc (by simp) _).trans (hb.mono (by simp <;> omega)))
  clear hb f0 f1 hs
  have HC := Lib.hid (fun W (hW : Sl cI W (.slice A xs.length c) xs) => spec_l01Own _ xs W hW (by omega))
  have i01 := i1 0
  have i11 := i1 1
  simp only [List.getElem?_toArray, List.getElem?_cons_zero, List.getElem?_cons_succ] at i01 i11
  clear i1
  go_wp2
  go_region_held3 (fun w' => w'.cell? ⟨w.heap.size, 0, none⟩ = some (.bool b) ∧ w'.cell? ⟨w.heap.size, 1, none⟩ = some (.slice A xs.length c)) (first | exact ⟨i01, i11⟩ | exact far2 (by assumption) (by assumption) (by show w.heap.size + 1 ≠ w.heap.size; omega) (by show w.heap.size + 1 ≠ w.heap.size; omega) | (simp [*]; done)) (first | (go_at_call 62; refine (HC.out _ (HS.out.below (below_drewN (Below.refl _ _) 1))).mono ?_; rintro e w2 ⟨u, rfl, ho, hb⟩; obtain ⟨A2, c2, rfl⟩ := ho.opn; have hb3 : Below w1.heap.size w1 w2 := (below_drewN (Below.refl _ _) 1).trans hb; have j01 : w2.cell? ⟨w.heap.size, 0, none⟩ = some (.bool b) := (hb3.cell (p := ⟨w.heap.size, 0, none⟩) i3).trans i01; have j11 : w2.cell? ⟨w.heap.size, 1, none⟩ = some (.slice A xs.length c) := (hb3.cell (p := ⟨w.heap.size, 1, none⟩) i3).trans i11; have f2 := HF.out.below hb3 HF.out.lt; obtain ⟨k1, k2, k3⟩ := And.intro f2.cell (And.intro f2.frozen f2.lt)))
  have HO : Hid (Ow cI 2 w1.heap.size w2 (.slice A2 xs.length c2) xs) := Lib.hid ho
  have HB2 := Lib.hid (bthen HB.out hb3)
  clear ho hb hb3 j01 j11 f2 i01 i11
  go_wp2
  refine bodyPost_ret (v := .tuple #[.agg #[.bool (!b), .slice A2 xs.length c2], .int .i64 0]) (by simp [results, Try.results21, go_sem, k1, k2, k3]) rfl ⟨_, rfl, ?_, ?_⟩
  · have hz := HF.out.lt
    exact ((HO.out.setBelow (by show w.heap.size + 1 < w1.heap.size; omega) _).setBelow (by show w.heap.size + 1 < w1.heap.size; omega) _).mono (by omega)
  · exact (HB2.out.setCell (by show w.heap.size ≤ w.heap.size + 1; omega) _).setCell (by show w.heap.size ≤ w.heap.size + 1; omega) _
end Go.Proofs.Ytbmknlfpaggbnaa
