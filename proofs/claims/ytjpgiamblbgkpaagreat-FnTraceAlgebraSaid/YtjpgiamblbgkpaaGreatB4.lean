/- Joined of several texts: 32c, 32x, 32y, 32z, 32z2, 32z3. -/
import Derived.Test.YtjpgiamblbgkpaaGreatB1
import Derived.Test.YtjpgiamblbgkpaaGreatB3
namespace Go.Proofs.YtjpgiamblbgkpaaGreat
open Go.RowKit
set_option linter.unusedVariables false
set_option linter.unusedSimpArgs false
/- Contracts of ChainFrame, of the program and of the reference. -/
theorem spec_l01Own (v : Value) (xs : List Int) (w : World) (h : Sl cI w v xs) (hl : xs.length ≤ 1073741824) :
    Calls Tryz.prog 30 #[v] w fun e w' => ∃ u, e = .returned u ∧ Ow cI 2 w.heap.size w' u xs ∧ Below w.heap.size w w' := by
  obtain ⟨A, c, rfl⟩ := h.opn
  go_enter Tryz.func30, Tryz.ntmps30
  go_wp2_with (at_builtin; refine stopHere ?_)
  refine goHere ?_
  refine ap_sl (K := cI) _ ty_int64 rfl _ _ rfl rfl rfl (B := w.heap.size) (xs := []) (news := xs) (Ow.lit [] rfl rfl (Nat.le_refl _)) (h.alloc _) (by simp <;> omega) (by simp) ?_
  intro v1 w1 ho hg hb hat
  have hb' : Below w.heap.size w w1 := ((Below.refl _ _).alloc (Nat.le_refl _) _).trans hb
  have O := Lib.hid ho; clear ho hg hb hat
  go_wp2
  go_ret
  exact ⟨_, rfl, O.out, hb'⟩
theorem slices_Clone_int64 (v : Value) (xs : List Int) (w : World) (h : Sl cI w v xs) (hl : xs.length ≤ 1073741824) :
    Calls Tryz.prog 29 #[v] w fun e w' => ∃ u, e = .returned u ∧ Ow cI 2 w.heap.size w' u xs ∧ Below w.heap.size w w' := by
  obtain ⟨A, c, rfl⟩ := h.opn
  by_cases hA : A = none
  · subst hA
    obtain rfl := h.none_nil
    have hq := fun W : World => Lib.run_eql_slice_nil (P := Tryz.prog) W 24 2 none 0 c 0 0 Tryz.underlying24
    go_enter Tryz.func29, Tryz.ntmps29
    go_wp2_with (at_builtin; refine stopHere ?_)
    go_ret
    exact ⟨_, rfl, Ow.nil _ _, Below.refl _ _⟩
  · obtain ⟨ad, rfl⟩ := Option.ne_none_iff_exists'.1 hA
    clear hA
    have hq := fun W : World => Lib.run_eql_slice_nil (P := Tryz.prog) W 24 2 (some ad) xs.length c 0 0 Tryz.underlying24
    go_enter Tryz.func29, Tryz.ntmps29
    go_wp2_with (at_builtin; refine stopHere ?_)
    refine goHere ?_
    refine ap_sl (K := cI) _ ty_int64 rfl _ _ rfl rfl rfl (B := w.heap.size) (xs := []) (news := xs) (Ow.lit [] rfl rfl (Nat.le_refl _)) (h.alloc _) (by simp <;> omega) (by simp) ?_
    intro v1 w1 ho hg hb hat
    have hb' : Below w.heap.size w w1 := ((Below.refl _ _).alloc (Nat.le_refl _) _).trans hb
    have O := Lib.hid ho; clear ho hg hb hat
    go_wp2
    go_ret
    exact ⟨_, rfl, O.out, hb'⟩
/- Contracts of the test of a Trace, of the program and of the reference. -/
/-- rank i of a Trace stands well -/
def goodT (xs : List Int) (i : Nat) : Bool := inR (xs.getD i 0) 0 60 && (decide (i = 0) || decide (xs.getD (i - 1) 0 < xs.getD i 0))
def okT (xs : List Int) : Bool := (List.range xs.length).all (goodT xs)
theorem okT_true {xs : List Int} (h : ∀ i < xs.length, goodT xs i = true) : okT xs = true := by
  unfold okT
  rw [List.all_eq_true]
  exact fun i hi => h i (List.mem_range.1 hi)
theorem okT_false {xs : List Int} {i : Nat} (hi : i < xs.length) (h : goodT xs i = false) : okT xs = false := by
  unfold okT
  rw [List.all_eq_false]
  exact ⟨i, List.mem_range.2 hi, by rw [h]; decide⟩
theorem goodT_zero {xs : List Int} (h : 0 < xs.length) : goodT xs 0 = inR xs[0] 0 60 := by
  simp [goodT, List.getD_eq_getElem?_getD, h]
theorem goodT_succ {xs : List Int} {k : Nat} (h : k + 1 < xs.length) : goodT xs (k + 1) = (inR xs[k + 1] 0 60 && decide (xs[k] < xs[k + 1])) := by
  simp [goodT, List.getD_eq_getElem?_getD, h, show k < xs.length from by omega]
theorem Sl.atI2 {w : World} {A : Option Addr} {n c : Nat} {xs : List Int} (h : Sl cI w (.slice A n c) xs) {k : Nat} (hk : k + 1 < xs.length) :
    ∃ b o, A = some ⟨b, o, none⟩ ∧ b < w.heap.size ∧ w.cell? ⟨b, o + k, none⟩ = some (.int .i64 xs[k]) ∧ w.cell? ⟨b, o + (k + 1), none⟩ = some (.int .i64 xs[k + 1]) := by
  obtain ⟨b, o, rfl, hb, h0⟩ := h.atI (k := k) (by omega)
  obtain ⟨b', o', e, hb', h1⟩ := h.atI (k := k + 1) hk
  injection e with e
  injection e with e1 e2
  subst e1 e2
  exact ⟨b, o, rfl, hb, h0, h1⟩
theorem impl_isTrace (v : Value) (b : Bool) (xs : List Int) (w : World) (h : Sl cI w v xs) (hl : xs.length ≤ 1048576) :
    Calls Tryz.prog 21 #[.agg #[.bool b, v]] w fun e w' => e = .returned (.bool (okT xs)) ∧ Below w.heap.size w w' := by
  obtain ⟨A, c, rfl⟩ := h.opn
  have hB : Below w.heap.size w (w.alloc (.cells #[.bool b, .slice A xs.length c] 26)) := (Below.refl _ _).alloc (Nat.le_refl _) _
  have h1 := h.alloc (.cells #[.bool b, .slice A xs.length c] 26)
  have HB := Lib.hid hB; have H1 := Lib.hid h1
  clear hB h1
  go_enter Tryz.func21, Tryz.ntmps21
  go_wp2
  go_loop [8] (fun i => ∃ j : Nat, j ≤ xs.length ∧ i = .int .i64 j ∧ ∀ n < j, goodT xs n = true) (fun i => xs.length - (intOf i).toNat)
  case atStart => exact ⟨0, Nat.zero_le _, rfl, fun n hn => by omega⟩
  case round =>
    obtain ⟨j, hj, rfl, hh⟩ := hrel
    have Hh := Lib.hid hh; clear hh
    by_cases hlt : j < xs.length
    · cases j with
      | zero =>
        obtain ⟨g, o, rfl, hb, hc0⟩ := H1.out.atI hlt
        simp only [Nat.add_zero] at hc0
        have HG := Lib.hid (goodT_zero hlt)
        cases hq : inR xs[0] 0 60
        · have HQ := Lib.hid (HG.out.trans hq)
          go_wp2_with fail
          refine (impl_inRange _ _ _ _).mono ?_
          rintro e w1 ⟨rfl, rfl⟩
          rw [hq]
          go_wp2
          go_ret
          exact ⟨by rw [okT_false hlt HQ.out]; rfl, HB.out⟩
        · have HQ := Lib.hid (HG.out.trans hq)
          go_wp2_with fail
          refine (impl_inRange _ _ _ _).mono ?_
          rintro e w1 ⟨rfl, rfl⟩
          rw [hq]
          go_wp2
          go_round
          case rel => exact ⟨1, by omega, by go_num, fun n hn => by obtain rfl : n = 0 := by omega
                                                                    exact HQ.out⟩
          case measure => simp [intOf]; omega
      | succ k =>
        obtain ⟨g, o, rfl, hb, hc0, hc1⟩ := H1.out.atI2 hlt
        have HG := Lib.hid (goodT_succ hlt)
        have hpos : decide ((0 : Int) < ((k + 1 : Nat) : Int)) = true := decide_eq_true (by omega)
        have hsub : IntKind.i64.wrap (((k + 1 : Nat) : Int) - 1) = (k : Int) := by rw [show (((k + 1 : Nat) : Int) - 1) = (k : Int) by omega]; exact IntWalk.i64_in _ ⟨by omega, by omega⟩
        cases hq : inR xs[k + 1] 0 60
        · have HQ := Lib.hid (show goodT xs (k + 1) = false by rw [HG.out, hq]; rfl)
          go_wp2_with fail
          refine (impl_inRange _ _ _ _).mono ?_
          rintro e w1 ⟨rfl, rfl⟩
          rw [hq]
          go_wp2
          go_ret
          exact ⟨by rw [okT_false hlt HQ.out]; rfl, HB.out⟩
        · by_cases hx : xs[k] < xs[k + 1]
          · have HQ := Lib.hid (show goodT xs (k + 1) = true by rw [HG.out, hq]; simp [hx])
            have hx' : decide (xs[k + 1] ≤ xs[k]) = false := decide_eq_false (by omega)
            go_wp2_with fail
            refine (impl_inRange _ _ _ _).mono ?_
            rintro e w1 ⟨rfl, rfl⟩
            rw [hq]
            go_wp2
            go_round
            case rel => exact ⟨k + 1 + 1, by omega, by go_num, fun n hn => (Nat.lt_or_ge n (k + 1)).elim (fun h => Hh.out n h) (fun h => (show n = k + 1 by omega) ▸ HQ.out)⟩
            case measure => simp [intOf]; omega
          · have HQ := Lib.hid (show goodT xs (k + 1) = false by rw [HG.out]; simp [hx])
            have hx' : decide (xs[k + 1] ≤ xs[k]) = true := decide_eq_true (by omega)
            go_wp2_with fail
            refine (impl_inRange _ _ _ _).mono ?_
            rintro e w1 ⟨rfl, rfl⟩
            rw [hq]
            go_wp2
            go_ret
            exact ⟨by rw [okT_false hlt HQ.out]; rfl, HB.out⟩
    · obtain rfl : j = xs.length := by omega
      go_wp2
      go_ret
      exact ⟨by rw [okT_true Hh.out]; rfl, HB.out⟩
/-- the test of a range within a region that draws, behind draws -/
theorem q_l01In {x l h : Int} {b : Bool} (hq : inR x l h = b) (W : World) (q n : Nat) :
    Calls Tryz.prog 52 #[.int .i64 x, .int .i64 l, .int .i64 h] (W.drewN (q + n)) fun e w'' => e = .returned (.bool b) ∧ ∃ m, w'' = W.drewN (q + m) :=
  (spec_l01In x l h _).mono fun e w' hh => ⟨by rw [hh.1, hq], n, hh.2.symm⟩
theorem spec_l32Valid (v : Value) (b : Bool) (xs : List Int) (w : World) (h : Sl cI w v xs) (hl : xs.length ≤ 1048576) :
    Calls Tryz.prog 26 #[.agg #[.bool b, v]] w fun e w' => e = .returned (.bool (okT xs)) ∧ Below w.heap.size w w' := by
  obtain ⟨A, c, rfl⟩ := h.opn
  have hB : Below w.heap.size w (w.alloc (.cells #[.bool b, .slice A xs.length c] 26)) := (Below.refl _ _).alloc (Nat.le_refl _) _
  have h1 := h.alloc (.cells #[.bool b, .slice A xs.length c] 26)
  have HB := Lib.hid hB; have H1 := Lib.hid h1
  have b1 := Blk.new w 26 #[.bool b, .slice A xs.length c]
  have B1 := Lib.hid b1
  clear hB h1 b1
  go_enter Tryz.func26, Tryz.ntmps26
  go_wp2
  go_loopw [3] (fun i wr => ∃ j : Nat, j ≤ xs.length ∧ i = .int .i64 j ∧ (∃ q, wr = (w.alloc (.cells #[.bool b, .slice A xs.length c] 26)).drewN q) ∧ ∀ n < j, goodT xs n = true) (fun i _ => xs.length - (intOf i).toNat)
  case atStart => exact ⟨0, Nat.zero_le _, rfl, ⟨0, rfl⟩, fun n hn => by omega⟩
  case round =>
    obtain ⟨j, hj, rfl, ⟨q, rfl⟩, hh⟩ := hrel
    have Hh := Lib.hid hh; clear hh
    by_cases hlt : j < xs.length
    · cases j with
      | zero =>
        obtain ⟨g, o, rfl, hb, hc0⟩ := H1.out.atI hlt
        simp only [Nat.add_zero] at hc0
        have HG := Lib.hid (goodT_zero hlt)
        cases hq : inR xs[0] 0 60
        · have HQ := Lib.hid (HG.out.trans hq)
          have HC := Lib.hid (q_l01In hq)
          clear hq
          go_wp2
          go_quiet ((go_at_call 52; exact HC.out _ _ _))
          go_wp2
          go_ret
          exact ⟨by rw [okT_false hlt HQ.out]; rfl, below_drewN (below_drewN HB.out _) _⟩
        · have HQ := Lib.hid (HG.out.trans hq)
          have HC := Lib.hid (q_l01In hq)
          clear hq
          go_wp2
          go_quiet ((go_at_call 52; exact HC.out _ _ _))
          go_wp2
          go_roundw
          case rel => exact ⟨1, by omega, by go_num, by first | exact ⟨_, rfl⟩ | exact ⟨_, World.drewN_drewN _ _ _⟩, fun n hn => (show n = 0 by omega) ▸ HQ.out⟩
          case measure => simp [intOf]; omega
      | succ k =>
        obtain ⟨g, o, rfl, hb, hc0, hc1⟩ := H1.out.atI2 hlt
        have HG := Lib.hid (goodT_succ hlt)
        have hpos : decide ((0 : Int) < ((k + 1 : Nat) : Int)) = true := decide_eq_true (by omega)
        have hsub : IntKind.i64.wrap (((k + 1 : Nat) : Int) - 1) = (k : Int) := by rw [show (((k + 1 : Nat) : Int) - 1) = (k : Int) by omega]; exact IntWalk.i64_in _ ⟨by omega, by omega⟩
        cases hq : inR xs[k + 1] 0 60
        · have HQ := Lib.hid (show goodT xs (k + 1) = false by rw [HG.out, hq]; rfl)
          have HC := Lib.hid (q_l01In hq)
          clear hq
          go_wp2
          go_quiet ((go_at_call 52; exact HC.out _ _ _))
          go_wp2
          go_ret
          exact ⟨by rw [okT_false hlt HQ.out]; rfl, below_drewN (below_drewN HB.out _) _⟩
        · by_cases hx : xs[k] < xs[k + 1]
          · have HQ := Lib.hid (show goodT xs (k + 1) = true by rw [HG.out, hq]; simp [hx])
            have hx' : decide (xs[k + 1] ≤ xs[k]) = false := decide_eq_false (by omega)
            have HC := Lib.hid (q_l01In hq)
            clear hq
            go_wp2
            go_quiet ((go_at_call 52; exact HC.out _ _ _))
            go_wp2
            go_roundw
            case rel => exact ⟨k + 1 + 1, by omega, by go_num, by first | exact ⟨_, rfl⟩ | exact ⟨_, World.drewN_drewN _ _ _⟩, fun n hn => (Nat.lt_or_ge n (k + 1)).elim (fun h => Hh.out n h) (fun h => (show n = k + 1 by omega) ▸ HQ.out)⟩
            case measure => simp [intOf]; omega
          · have HQ := Lib.hid (show goodT xs (k + 1) = false by rw [HG.out]; simp [hx])
            have hx' : decide (xs[k + 1] ≤ xs[k]) = true := decide_eq_true (by omega)
            have HC := Lib.hid (q_l01In hq)
            clear hq
            go_wp2
            go_quiet ((go_at_call 52; exact HC.out _ _ _))
            go_wp2
            go_ret
            exact ⟨by rw [okT_false hlt HQ.out]; rfl, below_drewN (below_drewN HB.out _) _⟩
    · obtain rfl : j = xs.length := by omega
      go_wp2
      go_ret
      exact ⟨by rw [okT_true Hh.out]; rfl, below_drewN HB.out _⟩
/- Contracts of ComplementTrace, of the program and of the reference. -/
theorem far2 {w : World} {p q a b : Addr} {x y u v : Value} (h0 : w.cell? p = some x) (h1 : w.cell? q = some y) (hp : a.block ≠ p.block) (hq : a.block ≠ q.block) (hab : b.block = a.block := by rfl) :
    ((w.setCell a u).setCell b v).cell? p = some x ∧ ((w.setCell a u).setCell b v).cell? q = some y := by
  rw [World.cell?_setCell_far _ _ _ _ (hab ▸ hp), World.cell?_setCell_far _ _ _ _ hp, World.cell?_setCell_far _ _ _ _ (hab ▸ hq), World.cell?_setCell_far _ _ _ _ hq]
  exact ⟨h0, h1⟩
theorem impl_ComplementTrace_bad (v : Value) (b : Bool) (xs : List Int) (w : World) (h : Sl cI w v xs) (hl : xs.length ≤ 1048576) (hc : okT xs = false) :
    Calls Tryz.prog 9 #[.agg #[.bool b, v]] w fun e w' => e = .returned (.tuple #[.agg #[.bool false, .slice none 0 0], .int .i64 1]) ∧ Below w.heap.size w w' := by
  obtain ⟨A, c, rfl⟩ := h.opn
  have H1 := Lib.hid (hc ▸ impl_isTrace _ b xs _ ((h.alloc (.cells #[.bool b, .slice A xs.length c] 26)).alloc (.cells #[.bool false, .slice none 0 0] 26)) hl)
  clear hc h
  go_enter Tryz.func9, Tryz.ntmps9
  go_wp2_with fail
  refine H1.out.mono ?_
  rintro e w1 ⟨rfl, hb⟩
  have f1 : Blk w1 (w.heap.size + 1) 26 #[.bool false, .slice none 0 0] := (Blk.new' (w.alloc (.cells #[.bool b, .slice A xs.length c] 26)) 26 #[.bool false, .slice none 0 0] (by simp)).below hb (by simp <;> omega)
  obtain ⟨k1, k2, k3⟩ := And.intro f1.cell (And.intro f1.frozen f1.lt)
  have HB : Hid (Below w.heap.size w w1) := Lib.hid ((((Below.refl _ _).alloc (Nat.le_refl _) _).alloc (by simp) _).trans (hb.mono (by simp <;> omega)))
  clear hb f1
  go_wp2
  refine bodyPost_ret (v := .tuple #[.agg #[.bool false, .slice none 0 0], .int .i64 1]) (by simp [results, Tryz.results9, go_sem, k1, k2, k3]) rfl ⟨rfl, ?_⟩
  exact (HB.out.setCell (by show w.heap.size ≤ w.heap.size + 1; omega) _).setCell (by show w.heap.size ≤ w.heap.size + 1; omega) _
set_option maxRecDepth 100000 in
theorem impl_ComplementTrace_ok (v : Value) (b : Bool) (xs : List Int) (w : World) (h : Sl cI w v xs) (hl : xs.length ≤ 1048576) (hc : okT xs = true) :
    Calls Tryz.prog 9 #[.agg #[.bool b, v]] w fun e w' => ∃ u, e = .returned (.tuple #[.agg #[.bool (!b), u], .int .i64 0]) ∧ Ow cI 2 w.heap.size w' u xs ∧ Below w.heap.size w w' := by
  obtain ⟨A, c, rfl⟩ := h.opn
  have h2 := (h.alloc (.cells #[.bool b, .slice A xs.length c] 26)).alloc (.cells #[.bool false, .slice none 0 0] 26)
  have H1 := Lib.hid (hc ▸ impl_isTrace _ b xs _ h2 hl)
  have H2 := Lib.hid h2
  clear hc h h2
  go_enter Tryz.func9, Tryz.ntmps9
  go_wp2_with fail
  refine H1.out.mono ?_
  rintro e w1 ⟨rfl, hb⟩
  have hs := H2.out.below hb
  have f0 : Blk w1 w.heap.size 26 #[.bool b, .slice A xs.length c] := ((Blk.new w 26 #[.bool b, .slice A xs.length c]).alloc (.cells #[.bool false, .slice none 0 0] 26)).below hb (by simp <;> omega)
  have f1 : Blk w1 (w.heap.size + 1) 26 #[.bool false, .slice none 0 0] := (Blk.new' (w.alloc (.cells #[.bool b, .slice A xs.length c] 26)) 26 #[.bool false, .slice none 0 0] (by simp)).below hb (by simp <;> omega)
  obtain ⟨i1, i2, i3⟩ := And.intro f0.cell (And.intro f0.frozen f0.lt)
  have HF := Lib.hid f1
  have HS := Lib.hid hs
  have HB : Hid (Below w.heap.size w w1) := Lib.hid ((((Below.refl _ _).alloc (Nat.le_refl _) _).alloc (by simp) _).trans (hb.mono (by simp <;> omega)))
  clear hb f0 f1 hs
  have HC := Lib.hid (fun W (hW : Sl cI W (.slice A xs.length c) xs) => slices_Clone_int64 _ xs W hW (by omega))
  have i01 := i1 0
  have i11 := i1 1
  simp only [List.getElem?_toArray, List.getElem?_cons_zero, List.getElem?_cons_succ] at i01 i11
  clear i1
  go_wp2
  go_region_held3 (fun w' => w'.cell? ⟨w.heap.size, 0, none⟩ = some (.bool b) ∧ w'.cell? ⟨w.heap.size, 1, none⟩ = some (.slice A xs.length c)) (first | exact ⟨i01, i11⟩ | exact far2 (by assumption) (by assumption) (by show w.heap.size + 1 ≠ w.heap.size; omega) (by show w.heap.size + 1 ≠ w.heap.size; omega) | (simp [*]; done)) (first | (go_at_call 29; refine (HC.out _ (HS.out.below (below_drewN (Below.refl _ _) 1))).mono ?_; rintro e w2 ⟨u, rfl, ho, hb⟩; obtain ⟨A2, c2, rfl⟩ := ho.opn; have hb3 : Below w1.heap.size w1 w2 := (below_drewN (Below.refl _ _) 1).trans hb; have j01 : w2.cell? ⟨w.heap.size, 0, none⟩ = some (.bool b) := (hb3.cell (p := ⟨w.heap.size, 0, none⟩) i3).trans i01; have j11 : w2.cell? ⟨w.heap.size, 1, none⟩ = some (.slice A xs.length c) := (hb3.cell (p := ⟨w.heap.size, 1, none⟩) i3).trans i11; have f2 := HF.out.below hb3 HF.out.lt; obtain ⟨k1, k2, k3⟩ := And.intro f2.cell (And.intro f2.frozen f2.lt)))
  have HO : Hid (Ow cI 2 w1.heap.size w2 (.slice A2 xs.length c2) xs) := Lib.hid ho
  have HB2 := Lib.hid (bthen HB.out hb3)
  clear ho hb hb3 j01 j11 f2 i01 i11
  go_wp2
  refine bodyPost_ret (v := .tuple #[.agg #[.bool (!b), .slice A2 xs.length c2], .int .i64 0]) (by simp [results, Tryz.results9, go_sem, k1, k2, k3]) rfl ⟨_, rfl, ?_, ?_⟩
  · have hz := HF.out.lt
    exact ((HO.out.setBelow (by show w.heap.size + 1 < w1.heap.size; omega) _).setBelow (by show w.heap.size + 1 < w1.heap.size; omega) _).mono (by omega)
  · exact (HB2.out.setCell (by show w.heap.size ≤ w.heap.size + 1; omega) _).setCell (by show w.heap.size ≤ w.heap.size + 1; omega) _
theorem spec_ComplementTrace_bad (v : Value) (b : Bool) (xs : List Int) (w : World) (h : Sl cI w v xs) (hl : xs.length ≤ 1048576) (hc : okT xs = false) :
    Calls Tryz.prog 10 #[.agg #[.bool b, v]] w fun e w' => e = .returned (.tuple #[.agg #[.bool false, .slice none 0 0], .int .i64 1]) ∧ Below w.heap.size w w' := by
  obtain ⟨A, c, rfl⟩ := h.opn
  have H1 := Lib.hid (hc ▸ spec_l32Valid _ b xs _ ((h.alloc (.cells #[.bool b, .slice A xs.length c] 26)).alloc (.cells #[.bool false, .slice none 0 0] 26)) hl)
  clear hc h
  go_enter Tryz.func10, Tryz.ntmps10
  go_wp2_with fail
  refine H1.out.mono ?_
  rintro e w1 ⟨rfl, hb⟩
  have f1 : Blk w1 (w.heap.size + 1) 26 #[.bool false, .slice none 0 0] := (Blk.new' (w.alloc (.cells #[.bool b, .slice A xs.length c] 26)) 26 #[.bool false, .slice none 0 0] (by simp)).below hb (by simp <;> omega)
  obtain ⟨k1, k2, k3⟩ := And.intro f1.cell (And.intro f1.frozen f1.lt)
  have HB : Hid (Below w.heap.size w w1) := Lib.hid ((((Below.refl _ _).alloc (Nat.le_refl _) _).alloc (by simp) _).trans (hb.mono (by simp <;> omega)))
  clear hb f1
  go_wp2
  refine bodyPost_ret (v := .tuple #[.agg #[.bool false, .slice none 0 0], .int .i64 1]) (by simp [results, Tryz.results10, go_sem, k1, k2, k3]) rfl ⟨rfl, ?_⟩
  exact (HB.out.setCell (by show w.heap.size ≤ w.heap.size + 1; omega) _).setCell (by show w.heap.size ≤ w.heap.size + 1; omega) _
set_option maxRecDepth 100000 in
theorem spec_ComplementTrace_ok (v : Value) (b : Bool) (xs : List Int) (w : World) (h : Sl cI w v xs) (hl : xs.length ≤ 1048576) (hc : okT xs = true) :
    Calls Tryz.prog 10 #[.agg #[.bool b, v]] w fun e w' => ∃ u, e = .returned (.tuple #[.agg #[.bool (!b), u], .int .i64 0]) ∧ Ow cI 2 w.heap.size w' u xs ∧ Below w.heap.size w w' := by
  obtain ⟨A, c, rfl⟩ := h.opn
  have h2 := (h.alloc (.cells #[.bool b, .slice A xs.length c] 26)).alloc (.cells #[.bool false, .slice none 0 0] 26)
  have H1 := Lib.hid (hc ▸ spec_l32Valid _ b xs _ h2 hl)
  have H2 := Lib.hid h2
  clear hc h h2
  go_enter Tryz.func10, Tryz.ntmps10
  go_wp2_with fail
  refine H1.out.mono ?_
  rintro e w1 ⟨rfl, hb⟩
  have hs := H2.out.below hb
  have f0 : Blk w1 w.heap.size 26 #[.bool b, .slice A xs.length c] := ((Blk.new w 26 #[.bool b, .slice A xs.length c]).alloc (.cells #[.bool false, .slice none 0 0] 26)).below hb (by simp <;> omega)
  have f1 : Blk w1 (w.heap.size + 1) 26 #[.bool false, .slice none 0 0] := (Blk.new' (w.alloc (.cells #[.bool b, .slice A xs.length c] 26)) 26 #[.bool false, .slice none 0 0] (by simp)).below hb (by simp <;> omega)
  obtain ⟨i1, i2, i3⟩ := And.intro f0.cell (And.intro f0.frozen f0.lt)
  have HF := Lib.hid f1
  have HS := Lib.hid hs
  have HB : Hid (Below w.heap.size w w1) := Lib.hid ((((Below.refl _ _).alloc (Nat.le_refl _) _).alloc (by simp) _).trans (hb.mono (by simp <;> omega)))
  clear hb f0 f1 hs
  have HC := Lib.hid (fun W (hW : Sl cI W (.slice A xs.length c) xs) => spec_l01Own _ xs W hW (by omega))
  have i01 := i1 0
  have i11 := i1 1
  simp only [List.getElem?_toArray, List.getElem?_cons_zero, List.getElem?_cons_succ] at i01 i11
  clear i1
  go_wp2
  go_region_held3 (fun w' => w'.cell? ⟨w.heap.size, 0, none⟩ = some (.bool b) ∧ w'.cell? ⟨w.heap.size, 1, none⟩ = some (.slice A xs.length c)) (first | exact ⟨i01, i11⟩ | exact far2 (by assumption) (by assumption) (by show w.heap.size + 1 ≠ w.heap.size; omega) (by show w.heap.size + 1 ≠ w.heap.size; omega) | (simp [*]; done)) (first | (go_at_call 30; refine (HC.out _ (HS.out.below (below_drewN (Below.refl _ _) 1))).mono ?_; rintro e w2 ⟨u, rfl, ho, hb⟩; obtain ⟨A2, c2, rfl⟩ := ho.opn; have hb3 : Below w1.heap.size w1 w2 := (below_drewN (Below.refl _ _) 1).trans hb; have j01 : w2.cell? ⟨w.heap.size, 0, none⟩ = some (.bool b) := (hb3.cell (p := ⟨w.heap.size, 0, none⟩) i3).trans i01; have j11 : w2.cell? ⟨w.heap.size, 1, none⟩ = some (.slice A xs.length c) := (hb3.cell (p := ⟨w.heap.size, 1, none⟩) i3).trans i11; have f2 := HF.out.below hb3 HF.out.lt; obtain ⟨k1, k2, k3⟩ := And.intro f2.cell (And.intro f2.frozen f2.lt)))
  have HO : Hid (Ow cI 2 w1.heap.size w2 (.slice A2 xs.length c2) xs) := Lib.hid ho
  have HB2 := Lib.hid (bthen HB.out hb3)
  clear ho hb hb3 j01 j11 f2 i01 i11
  go_wp2
  refine bodyPost_ret (v := .tuple #[.agg #[.bool (!b), .slice A2 xs.length c2], .int .i64 0]) (by simp [results, Tryz.results10, go_sem, k1, k2, k3]) rfl ⟨_, rfl, ?_, ?_⟩
  · have hz := HF.out.lt
    exact ((HO.out.setBelow (by show w.heap.size + 1 < w1.heap.size; omega) _).setBelow (by show w.heap.size + 1 < w1.heap.size; omega) _).mono (by omega)
  · exact (HB2.out.setCell (by show w.heap.size ≤ w.heap.size + 1; omega) _).setCell (by show w.heap.size ≤ w.heap.size + 1; omega) _
/- Contracts of BoxTrace and what it calls, of the program and of the reference. -/
def shL (n : Nat) : List Int := (List.range n).map fun (i : Nat) => (i : Int)
theorem shL_length (n : Nat) : (shL n).length = n := by simp [shL]
theorem shL_snoc (n : Nat) : shL (n + 1) = shL n ++ [(n : Int)] := by simp [shL, List.range_succ]
theorem impl_shifted (n : Nat) (w : World) (hn : n ≤ 1048576) :
    Calls Tryz.prog 32 #[.int .i64 n, .int .i64 0] w fun e w' => ∃ u, e = .returned u ∧ Ow cI 2 w.heap.size w' u (shL n) ∧ Below w.heap.size w w' := by
  go_enter Tryz.func32, Tryz.ntmps32
  go_wp2
  go_loopw [5, 8] (fun v i wr => ∃ k : Nat, k ≤ n ∧ i = .int .i64 k ∧ Ow cI 2 w.heap.size wr v (shL k) ∧ Below w.heap.size w wr) (fun _ i _ => n - (intOf i).toNat)
  case atStart => exact ⟨0, Nat.zero_le _, rfl, Ow.nil _ _, Below.refl _ _⟩
  case round =>
    obtain ⟨k, hk, rfl, ho, hb⟩ := hrel
    by_cases hlt : k < n
    · have hsz := hb.size
      go_wp2_with (at_builtin; refine stopHere ?_)
      refine goHere ?_
      refine ap_one (K := cI) _ ty_int64 rfl _ _ rfl (xs := shL k) rfl ho k rfl rfl (by simp [shL_length]; omega) (by omega) ?_
      intro v1 w1 ho1 hg1 hb1 hat1
      rw [← shL_snoc] at ho1
      have hb2 := hb.trans hb1
      clear ho hb hb1 hg1 hat1
      go_wp2
      go_roundw
      case rel => exact ⟨k + 1, by omega, by go_num, ho1, hb2⟩
      case measure => simp [intOf]; omega
    · obtain rfl : k = n := by omega
      have O := Lib.hid ho; have HB := Lib.hid hb; clear ho hb
      go_wp2
      go_ret
      exact ⟨_, rfl, O.out, HB.out⟩
theorem spec_l01Has (v : Value) (xs : List Int) (x : Int) (w : World) (h : Sl cI w v xs) (hl : xs.length ≤ 1048576) :
    Calls Tryz.prog 53 #[v, .int .i64 x] w fun e w' => e = .returned (.bool (decide (x ∈ xs))) ∧ w = w' := by
  obtain ⟨A, c, rfl⟩ := h.opn
  have H := Lib.hid h; clear h
  go_enter Tryz.func53, Tryz.ntmps53
  go_wp2
  go_loop [5] (fun i => ∃ j : Nat, j ≤ xs.length ∧ i = .int .i64 j ∧ x ∉ xs.take j) (fun i => xs.length - (intOf i).toNat)
  case atStart => exact ⟨0, Nat.zero_le _, rfl, by simp⟩
  case round =>
    obtain ⟨j, hj, rfl, hh⟩ := hrel
    have Hh := Lib.hid hh; clear hh
    by_cases hlt : j < xs.length
    · obtain ⟨g, o, rfl, hb, hc0⟩ := H.out.atI hlt
      by_cases hx : xs[j] = x
      · have hx' : (xs[j] == x) = true := by simpa using hx
        have HM : Hid (decide (x ∈ xs) = true) := Lib.hid (by rw [← hx]; simp)
        clear hx
        go_wp2
        go_ret
        exact ⟨by rw [HM.out]; rfl, rfl⟩
      · have hx' : (xs[j] == x) = false := by simpa using hx
        have HM : Hid (x ∉ xs.take (j + 1)) := Lib.hid (by
          rw [List.take_succ_eq_append_getElem hlt, List.mem_append, List.mem_singleton]
          rintro (h | h)
          · exact Hh.out h
          · exact hx h.symm)
        clear hx
        go_wp2
        go_round
        case rel => exact ⟨j + 1, by omega, by go_num, HM.out⟩
        case measure => simp [intOf]; omega
    · obtain rfl : j = xs.length := by omega
      have HM : Hid (decide (x ∈ xs) = false) := Lib.hid (by have := Hh.out; rw [List.take_length] at this; exact decide_eq_false this)
      go_wp2
      go_ret
      exact ⟨by rw [HM.out]; rfl, rfl⟩
theorem q_l01Has {v : Value} {xs : List Int} {W : World} (h : Sl cI W v xs) (hl : xs.length ≤ 1048576) (x : Int) (n : Nat) :
    Calls Tryz.prog 53 #[v, .int .i64 x] (W.drewN n) fun e w'' => e = .returned (.bool (decide (x ∈ xs))) ∧ ∃ m, w'' = W.drewN m :=
  (spec_l01Has v xs x _ (h.drewN n) hl).mono fun e w' hh => ⟨hh.1, n, hh.2.symm⟩
theorem spec_l32Has (v : Value) (b : Bool) (xs : List Int) (x : Int) (w : World) (h : Sl cI w v xs) (hl : xs.length ≤ 1048576) :
    Calls Tryz.prog 27 #[.agg #[.bool b, v], .int .i64 x] w fun e w' => e = .returned (.bool (decide (x ∈ xs) == b)) ∧ Below w.heap.size w w' := by
  obtain ⟨A, c, rfl⟩ := h.opn
  have HB : Hid (Below w.heap.size w (w.alloc (.cells #[.bool b, .slice A xs.length c] 26))) := Lib.hid ((Below.refl _ _).alloc (Nat.le_refl _) _)
  have HQ := Lib.hid (fun n => q_l01Has (h.alloc (.cells #[.bool b, .slice A xs.length c] 26)) hl x n)
  clear h
  go_enter Tryz.func27, Tryz.ntmps27
  go_wp2
  go_quiet ((go_at_call 53; exact HQ.out _))
  go_wp2
  go_ret
  exact ⟨rfl, below_drewN HB.out _⟩
/-- the first rank that does not belong to a Trace, as the reference seeks it: to 62 -/
def fsT (b : Bool) (xs : List Int) : Nat → Nat → Nat
  | 0, n => n
  | k + 1, n => if (decide ((n : Int) ∈ xs) == b) = true then fsT b xs k (n + 1) else n
theorem fsT_le (b : Bool) (xs : List Int) (k : Nat) : ∀ n, fsT b xs k n ≤ n + k := by
  induction k with
  | zero => intro n; simp [fsT]
  | succ k ih => intro n; rw [fsT]; split; have := ih (n + 1); omega; omega
theorem impl_BoxTrace_bad (v : Value) (b : Bool) (xs : List Int) (w : World) (h : Sl cI w v xs) (hl : xs.length ≤ 1048576) (hc : okT xs = false) :
    Calls Tryz.prog 11 #[.agg #[.bool b, v]] w fun e w' => e = .returned (.tuple #[.agg #[.bool false, .slice none 0 0], .int .i64 1]) ∧ Below w.heap.size w w' := by
  obtain ⟨A, c, rfl⟩ := h.opn
  have H1 := Lib.hid (hc ▸ impl_isTrace _ b xs _ ((h.alloc (.cells #[.bool b, .slice A xs.length c] 26)).alloc (.cells #[.bool false, .slice none 0 0] 26)) hl)
  clear hc h
  go_enter Tryz.func11, Tryz.ntmps11
  go_wp2_with fail
  refine H1.out.mono ?_
  rintro e w1 ⟨rfl, hb⟩
  have f1 : Blk w1 (w.heap.size + 1) 26 #[.bool false, .slice none 0 0] := (Blk.new' (w.alloc (.cells #[.bool b, .slice A xs.length c] 26)) 26 #[.bool false, .slice none 0 0] (by simp)).below hb (by simp <;> omega)
  obtain ⟨k1, k2, k3⟩ := And.intro f1.cell (And.intro f1.frozen f1.lt)
  have HB : Hid (Below w.heap.size w w1) := Lib.hid ((((Below.refl _ _).alloc (Nat.le_refl _) _).alloc (by simp) _).trans (hb.mono (by simp <;> omega)))
  clear hb f1
  go_wp2
  refine bodyPost_ret (v := .tuple #[.agg #[.bool false, .slice none 0 0], .int .i64 1]) (by simp [results, Tryz.results11, go_sem, k1, k2, k3]) rfl ⟨rfl, ?_⟩
  exact (HB.out.setCell (by show w.heap.size ≤ w.heap.size + 1; omega) _).setCell (by show w.heap.size ≤ w.heap.size + 1; omega) _
theorem impl_BoxTrace_all (v : Value) (b : Bool) (xs : List Int) (w : World) (h : Sl cI w v xs) (hl : xs.length ≤ 1048576) (hc : okT xs = true) (t k : Int) (ht : ffT b xs = t) (q : (t < 0 ∧ k = 0) ∨ (60 < t ∧ k = 3)) :
    Calls Tryz.prog 11 #[.agg #[.bool b, v]] w fun e w' => e = .returned (.tuple #[.agg #[.bool false, .slice none 0 0], .int .i64 k]) ∧ Below w.heap.size w w' := by
  obtain ⟨A, c, rfl⟩ := h.opn
  have h2 := (h.alloc (.cells #[.bool b, .slice A xs.length c] 26)).alloc (.cells #[.bool false, .slice none 0 0] 26)
  have H1 := Lib.hid (hc ▸ impl_isTrace _ b xs _ h2 hl)
  have HC := Lib.hid (fun W (hW : Sl cI W (.slice A xs.length c) xs) => ht ▸ impl_firstFalse _ b xs W hW hl)
  have H2 := Lib.hid h2
  clear hc h h2 ht
  go_enter Tryz.func11, Tryz.ntmps11
  go_wp2_with fail
  refine H1.out.mono ?_
  rintro e w1 ⟨rfl, hb⟩
  have f0 : Blk w1 w.heap.size 26 #[.bool b, .slice A xs.length c] := ((Blk.new w 26 #[.bool b, .slice A xs.length c]).alloc (.cells #[.bool false, .slice none 0 0] 26)).below hb (by simp <;> omega)
  have F1 : Hid (Blk w1 (w.heap.size + 1) 26 #[.bool false, .slice none 0 0]) := Lib.hid ((Blk.new' (w.alloc (.cells #[.bool b, .slice A xs.length c] 26)) 26 #[.bool false, .slice none 0 0] (by simp)).below hb (by simp <;> omega))
  obtain ⟨i1, i2, i3⟩ := And.intro f0.cell (And.intro f0.frozen f0.lt)
  have HS := Lib.hid (H2.out.below hb)
  have HB : Hid (Below w.heap.size w w1) := Lib.hid ((((Below.refl _ _).alloc (Nat.le_refl _) _).alloc (by simp) _).trans (hb.mono (by simp <;> omega)))
  clear hb f0
  go_wp2_with fail
  refine (HC.out _ HS.out).mono ?_
  rintro e w2 ⟨rfl, hb⟩
  have f1 := F1.out.below hb F1.out.lt
  obtain ⟨k1, k2, k3⟩ := And.intro f1.cell (And.intro f1.frozen f1.lt)
  have HB2 := Lib.hid (bthen HB.out hb)
  clear hb f1 i1 i2 i3
  rcases q with ⟨q1, rfl⟩ | ⟨q1, rfl⟩
  · go_wp2
    refine bodyPost_ret (v := .tuple #[.agg #[.bool false, .slice none 0 0], .int .i64 0]) (by simp [results, Tryz.results11, go_sem, k1, k2, k3]) rfl ⟨rfl, ?_⟩
    exact (HB2.out.setCell (by show w.heap.size ≤ w.heap.size + 1; omega) _).setCell (by show w.heap.size ≤ w.heap.size + 1; omega) _
  · go_wp2
    refine bodyPost_ret (v := .tuple #[.agg #[.bool false, .slice none 0 0], .int .i64 3]) (by simp [results, Tryz.results11, go_sem, k1, k2, k3]) rfl ⟨rfl, ?_⟩
    exact (HB2.out.setCell (by show w.heap.size ≤ w.heap.size + 1; omega) _).setCell (by show w.heap.size ≤ w.heap.size + 1; omega) _
theorem impl_BoxTrace_ok (v : Value) (b : Bool) (xs : List Int) (w : World) (h : Sl cI w v xs) (hl : xs.length ≤ 1048576) (hc : okT xs = true) (t : Nat) (ht : ffT b xs = t) (q : t ≤ 60) :
    Calls Tryz.prog 11 #[.agg #[.bool b, v]] w fun e w' => ∃ u, e = .returned (.tuple #[.agg #[.bool true, u], .int .i64 0]) ∧ Ow cI 2 w.heap.size w' u (shL (t + 1)) ∧ Below w.heap.size w w' := by
  obtain ⟨A, c, rfl⟩ := h.opn
  have h2 := (h.alloc (.cells #[.bool b, .slice A xs.length c] 26)).alloc (.cells #[.bool false, .slice none 0 0] 26)
  have H1 := Lib.hid (hc ▸ impl_isTrace _ b xs _ h2 hl)
  have HC := Lib.hid (fun W (hW : Sl cI W (.slice A xs.length c) xs) => ht ▸ impl_firstFalse _ b xs W hW hl)
  have H2 := Lib.hid h2
  clear hc h h2 ht
  go_enter Tryz.func11, Tryz.ntmps11
  go_wp2_with fail
  refine H1.out.mono ?_
  rintro e w1 ⟨rfl, hb⟩
  have f0 : Blk w1 w.heap.size 26 #[.bool b, .slice A xs.length c] := ((Blk.new w 26 #[.bool b, .slice A xs.length c]).alloc (.cells #[.bool false, .slice none 0 0] 26)).below hb (by simp <;> omega)
  have F1 : Hid (Blk w1 (w.heap.size + 1) 26 #[.bool false, .slice none 0 0]) := Lib.hid ((Blk.new' (w.alloc (.cells #[.bool b, .slice A xs.length c] 26)) 26 #[.bool false, .slice none 0 0] (by simp)).below hb (by simp <;> omega))
  obtain ⟨i1, i2, i3⟩ := And.intro f0.cell (And.intro f0.frozen f0.lt)
  have HS := Lib.hid (H2.out.below hb)
  have HB : Hid (Below w.heap.size w w1) := Lib.hid ((((Below.refl _ _).alloc (Nat.le_refl _) _).alloc (by simp) _).trans (hb.mono (by simp <;> omega)))
  clear hb f0
  go_wp2_with fail
  refine (HC.out _ HS.out).mono ?_
  rintro e w2 ⟨rfl, hb⟩
  have F2 := Lib.hid (F1.out.below hb F1.out.lt)
  have HB2 := Lib.hid (bthen HB.out hb)
  clear hb i1 i2 i3
  go_wp2_with fail
  refine (impl_shifted (t + 1) _ (by omega)).mono ?_
  rintro e w3 ⟨u, rfl, ho, hb⟩
  obtain ⟨A2, c2, rfl⟩ := ho.opn
  have f1 := F2.out.below hb F2.out.lt
  obtain ⟨k1, k2, k3⟩ := And.intro f1.cell (And.intro f1.frozen f1.lt)
  have HB3 := Lib.hid (bthen HB2.out hb)
  have HO := Lib.hid ho
  clear hb f1 ho
  rw [shL_length]
  go_wp2
  refine bodyPost_ret (v := .tuple #[.agg #[.bool true, .slice A2 (t + 1) c2], .int .i64 0]) (by simp [results, Tryz.results11, go_sem, k1, k2, k3]) rfl ⟨_, rfl, ?_, ?_⟩
  · have hz := F2.out.lt
    have ho := HO.out
    rw [shL_length] at ho
    exact ((ho.setBelow (by show w.heap.size + 1 < w2.heap.size; omega) _).setBelow (by show w.heap.size + 1 < w2.heap.size; omega) _).mono (by omega)
  · exact (HB3.out.setCell (by show w.heap.size ≤ w.heap.size + 1; omega) _).setCell (by show w.heap.size ≤ w.heap.size + 1; omega) _
/- Contracts of BoxTrace of the reference. Written by gen32z2.py. -/
theorem spec_BoxTrace_bad (v : Value) (b : Bool) (xs : List Int) (w : World) (h : Sl cI w v xs) (hl : xs.length ≤ 1048576) (hc : okT xs = false) :
    Calls Tryz.prog 12 #[.agg #[.bool b, v]] w fun e w' => e = .returned (.tuple #[.agg #[.bool false, .slice none 0 0], .int .i64 1]) ∧ Below w.heap.size w w' := by
  obtain ⟨A, c, rfl⟩ := h.opn
  have H1 := Lib.hid (hc ▸ spec_l32Valid _ b xs _ ((h.alloc (.cells #[.bool b, .slice A xs.length c] 26)).alloc (.cells #[.bool false, .slice none 0 0] 26)) hl)
  clear hc h
  go_enter Tryz.func12, Tryz.ntmps12
  go_wp2_with fail
  refine H1.out.mono ?_
  rintro e w1 ⟨rfl, hb⟩
  have f1 : Blk w1 (w.heap.size + 1) 26 #[.bool false, .slice none 0 0] := (Blk.new' (w.alloc (.cells #[.bool b, .slice A xs.length c] 26)) 26 #[.bool false, .slice none 0 0] (by simp)).below hb (by simp <;> omega)
  obtain ⟨k1, k2, k3⟩ := And.intro f1.cell (And.intro f1.frozen f1.lt)
  have HB : Hid (Below w.heap.size w w1) := Lib.hid ((((Below.refl _ _).alloc (Nat.le_refl _) _).alloc (by simp) _).trans (hb.mono (by simp <;> omega)))
  clear hb f1
  go_wp2
  refine bodyPost_ret (v := .tuple #[.agg #[.bool false, .slice none 0 0], .int .i64 1]) (by simp [results, Tryz.results12, go_sem, k1, k2, k3]) rfl ⟨rfl, ?_⟩
  exact (HB.out.setCell (by show w.heap.size ≤ w.heap.size + 1; omega) _).setCell (by show w.heap.size ≤ w.heap.size + 1; omega) _
set_option maxRecDepth 100000 in
theorem spec_BoxTrace_big (v : Value) (b : Bool) (xs : List Int) (w : World) (h : Sl cI w v xs) (hl : xs.length ≤ 1048576) (hc : okT xs = true) (hA : (!b && decide (xs.length = 0)) = false) (hX : 60 < fsT b xs 62 0) :
    Calls Tryz.prog 12 #[.agg #[.bool b, v]] w fun e w' => e = .returned (.tuple #[.agg #[.bool false, .slice none 0 0], .int .i64 3]) ∧ Below w.heap.size w w' := by
  obtain ⟨A, c, rfl⟩ := h.opn
  have h2 := (h.alloc (.cells #[.bool b, .slice A xs.length c] 26)).alloc (.cells #[.bool false, .slice none 0 0] 26)
  have H1 := Lib.hid (hc ▸ spec_l32Valid _ b xs _ h2 hl)
  have HC := Lib.hid (fun W (hW : Sl cI W (.slice A xs.length c) xs) x => spec_l32Has _ b xs x W hW hl)
  have HA := Lib.hid (fun W (hW : Sl cI W (.slice A xs.length c) xs) => hA ▸ spec_l32All _ b xs W hW (by omega))
  have H2 := Lib.hid h2
  have HX := Lib.hid hX
  clear hc h h2 hA hX
  go_enter Tryz.func12, Tryz.ntmps12
  go_wp2_with fail
  refine H1.out.mono ?_
  rintro e w1 ⟨rfl, hb⟩
  have F0 : Hid (Blk w1 w.heap.size 26 #[.bool b, .slice A xs.length c]) := Lib.hid (((Blk.new w 26 #[.bool b, .slice A xs.length c]).alloc (.cells #[.bool false, .slice none 0 0] 26)).below hb (by simp <;> omega))
  have F1 : Hid (Blk w1 (w.heap.size + 1) 26 #[.bool false, .slice none 0 0]) := Lib.hid ((Blk.new' (w.alloc (.cells #[.bool b, .slice A xs.length c] 26)) 26 #[.bool false, .slice none 0 0] (by simp)).below hb (by simp <;> omega))
  have HS := Lib.hid (H2.out.below hb)
  have HB : Hid (Below w.heap.size w w1) := Lib.hid ((((Below.refl _ _).alloc (Nat.le_refl _) _).alloc (by simp) _).trans (hb.mono (by simp <;> omega)))
  clear hb
  go_wp2
  go_loopw [4] (fun i wr => ∃ j : Nat, j ≤ 62 ∧ i = .int .i64 j ∧ fsT b xs 62 0 = fsT b xs (62 - j) j ∧ Below w1.heap.size w1 wr) (fun i _ => 62 - (intOf i).toNat)
  case atStart => exact ⟨0, by omega, rfl, rfl, Below.refl _ _⟩
  case round =>
    obtain ⟨j, hj, rfl, hf, hbw⟩ := hrel
    have f0 := F0.out.below hbw F0.out.lt
    obtain ⟨i1, i2, i3⟩ := And.intro f0.cell (And.intro f0.frozen f0.lt)
    have HS2 := Lib.hid (HS.out.below hbw)
    have F02 := Lib.hid f0
    have F12 := Lib.hid (F1.out.below hbw F1.out.lt)
    have HB2 := Lib.hid (bthen HB.out hbw)
    have HW := Lib.hid hbw
    have HFT := Lib.hid hf
    clear f0 hbw hf
    by_cases hlt : j < 62
    · cases hq : (decide ((j : Int) ∈ xs) == b)
      · have HC1 := Lib.hid (hq ▸ HC.out wr HS2.out j)
        have HT : Hid (fsT b xs 62 0 = j) := Lib.hid (by rw [HFT.out, show 62 - j = (61 - j) + 1 by omega, fsT, if_neg (by rw [hq]; decide)])
        have hj60 : 60 < j := by have := HX.out; have := HT.out; omega
        clear hq
        go_wp2_with fail
        refine HC1.out.mono ?_
        rintro e w2 ⟨rfl, hb⟩
        have f0 := F02.out.below hb F02.out.lt
        clear i1 i2 i3
        obtain ⟨i1, i2, i3⟩ := And.intro f0.cell (And.intro f0.frozen f0.lt)
        have HS3 := Lib.hid (HS2.out.below hb)
        have F13 := Lib.hid (F12.out.below hb F12.out.lt)
        have HB3 := Lib.hid (bthen HB2.out hb)
        clear f0 hb
        go_wp2_with fail
        refine (HA.out _ HS3.out).mono ?_
        rintro e w3 ⟨rfl, hb⟩
        have F14 := Lib.hid (F13.out.below hb F13.out.lt)
        have HB4 := Lib.hid (bthen HB3.out hb)
        clear hb i1 i2 i3
        have f1 := F14.out
        obtain ⟨k1, k2, k3⟩ := And.intro f1.cell (And.intro f1.frozen f1.lt)
        clear f1
        go_wp2
        refine bodyPost_ret (v := .tuple #[.agg #[.bool false, .slice none 0 0], .int .i64 3]) (by simp [results, Tryz.results12, go_sem, k1, k2, k3]) rfl ⟨rfl, ?_⟩
        exact (HB4.out.setCell (by show w.heap.size ≤ w.heap.size + 1; omega) _).setCell (by show w.heap.size ≤ w.heap.size + 1; omega) _
      · have HC1 := Lib.hid (hq ▸ HC.out wr HS2.out j)
        have HT : Hid (fsT b xs 62 0 = fsT b xs (62 - (j + 1)) (j + 1)) := Lib.hid (by rw [HFT.out, show 62 - j = (61 - j) + 1 by omega, fsT, if_pos hq, show 62 - (j + 1) = 61 - j by omega])
        clear hq
        go_wp2_with fail
        refine HC1.out.mono ?_
        rintro e w2 ⟨rfl, hb⟩
        have HW2 := Lib.hid (bthen HW.out hb)
        clear hb i1 i2 i3
        go_wp2
        go_roundw
        case rel => exact ⟨j + 1, by omega, by go_num, HT.out, HW2.out⟩
        case measure => simp [intOf]; omega
    · obtain rfl : j = 62 := by omega
      have HT : Hid (fsT b xs 62 0 = 62) := Lib.hid (by rw [HFT.out]; rfl)
      have HS3 := HS2
      have F13 := F12
      have HB3 := HB2
      go_wp2_with fail
      refine (HA.out _ HS3.out).mono ?_
      rintro e w3 ⟨rfl, hb⟩
      have F14 := Lib.hid (F13.out.below hb F13.out.lt)
      have HB4 := Lib.hid (bthen HB3.out hb)
      clear hb i1 i2 i3
      have f1 := F14.out
      obtain ⟨k1, k2, k3⟩ := And.intro f1.cell (And.intro f1.frozen f1.lt)
      clear f1
      go_wp2
      refine bodyPost_ret (v := .tuple #[.agg #[.bool false, .slice none 0 0], .int .i64 3]) (by simp [results, Tryz.results12, go_sem, k1, k2, k3]) rfl ⟨rfl, ?_⟩
      exact (HB4.out.setCell (by show w.heap.size ≤ w.heap.size + 1; omega) _).setCell (by show w.heap.size ≤ w.heap.size + 1; omega) _
set_option maxRecDepth 100000 in
theorem spec_BoxTrace_all (v : Value) (b : Bool) (xs : List Int) (w : World) (h : Sl cI w v xs) (hl : xs.length ≤ 1048576) (hc : okT xs = true) (hA : (!b && decide (xs.length = 0)) = true) (hX : True) :
    Calls Tryz.prog 12 #[.agg #[.bool b, v]] w fun e w' => ∃ u, e = .returned (.tuple #[.agg #[.bool false, u], .int .i64 0]) ∧ Ow cI 2 w.heap.size w' u [] ∧ Below w.heap.size w w' := by
  obtain ⟨A, c, rfl⟩ := h.opn
  have h2 := (h.alloc (.cells #[.bool b, .slice A xs.length c] 26)).alloc (.cells #[.bool false, .slice none 0 0] 26)
  have H1 := Lib.hid (hc ▸ spec_l32Valid _ b xs _ h2 hl)
  have HC := Lib.hid (fun W (hW : Sl cI W (.slice A xs.length c) xs) x => spec_l32Has _ b xs x W hW hl)
  have HA := Lib.hid (fun W (hW : Sl cI W (.slice A xs.length c) xs) => hA ▸ spec_l32All _ b xs W hW (by omega))
  have H2 := Lib.hid h2
  have HX := Lib.hid hX
  clear hc h h2 hA hX
  go_enter Tryz.func12, Tryz.ntmps12
  go_wp2_with fail
  refine H1.out.mono ?_
  rintro e w1 ⟨rfl, hb⟩
  have F0 : Hid (Blk w1 w.heap.size 26 #[.bool b, .slice A xs.length c]) := Lib.hid (((Blk.new w 26 #[.bool b, .slice A xs.length c]).alloc (.cells #[.bool false, .slice none 0 0] 26)).below hb (by simp <;> omega))
  have F1 : Hid (Blk w1 (w.heap.size + 1) 26 #[.bool false, .slice none 0 0]) := Lib.hid ((Blk.new' (w.alloc (.cells #[.bool b, .slice A xs.length c] 26)) 26 #[.bool false, .slice none 0 0] (by simp)).below hb (by simp <;> omega))
  have HS := Lib.hid (H2.out.below hb)
  have HB : Hid (Below w.heap.size w w1) := Lib.hid ((((Below.refl _ _).alloc (Nat.le_refl _) _).alloc (by simp) _).trans (hb.mono (by simp <;> omega)))
  clear hb
  go_wp2
  go_loopw [4] (fun i wr => ∃ j : Nat, j ≤ 62 ∧ i = .int .i64 j ∧ fsT b xs 62 0 = fsT b xs (62 - j) j ∧ Below w1.heap.size w1 wr) (fun i _ => 62 - (intOf i).toNat)
  case atStart => exact ⟨0, by omega, rfl, rfl, Below.refl _ _⟩
  case round =>
    obtain ⟨j, hj, rfl, hf, hbw⟩ := hrel
    have f0 := F0.out.below hbw F0.out.lt
    obtain ⟨i1, i2, i3⟩ := And.intro f0.cell (And.intro f0.frozen f0.lt)
    have HS2 := Lib.hid (HS.out.below hbw)
    have F02 := Lib.hid f0
    have F12 := Lib.hid (F1.out.below hbw F1.out.lt)
    have HB2 := Lib.hid (bthen HB.out hbw)
    have HW := Lib.hid hbw
    have HFT := Lib.hid hf
    clear f0 hbw hf
    by_cases hlt : j < 62
    · cases hq : (decide ((j : Int) ∈ xs) == b)
      · have HC1 := Lib.hid (hq ▸ HC.out wr HS2.out j)
        have HT : Hid (fsT b xs 62 0 = j) := Lib.hid (by rw [HFT.out, show 62 - j = (61 - j) + 1 by omega, fsT, if_neg (by rw [hq]; decide)])
        clear hq
        go_wp2_with fail
        refine HC1.out.mono ?_
        rintro e w2 ⟨rfl, hb⟩
        have f0 := F02.out.below hb F02.out.lt
        clear i1 i2 i3
        obtain ⟨i1, i2, i3⟩ := And.intro f0.cell (And.intro f0.frozen f0.lt)
        have HS3 := Lib.hid (HS2.out.below hb)
        have F13 := Lib.hid (F12.out.below hb F12.out.lt)
        have HB3 := Lib.hid (bthen HB2.out hb)
        clear f0 hb
        go_wp2_with fail
        refine (HA.out _ HS3.out).mono ?_
        rintro e w3 ⟨rfl, hb⟩
        have F14 := Lib.hid (F13.out.below hb F13.out.lt)
        have HB4 := Lib.hid (bthen HB3.out hb)
        clear hb i1 i2 i3
        have f1 := F14.out.alloc (.cells #[] 2)
        obtain ⟨k1, k2, k3⟩ := And.intro f1.cell (And.intro f1.frozen f1.lt)
        clear f1
        go_wp2
        refine bodyPost_ret (v := .tuple #[.agg #[.bool false, .slice (some ⟨w3.heap.size, 0, none⟩) 0 0], .int .i64 0]) (by simp [results, Tryz.results12, go_sem, k1, k2, k3]) rfl ⟨_, rfl, ?_, ?_⟩
        · have hz := F14.out.lt
          exact (((Ow.lit' [] rfl rfl rfl (Nat.le_refl _)).setBelow (by show w.heap.size + 1 < w3.heap.size; omega) _).setBelow (by show w.heap.size + 1 < w3.heap.size; omega) _).mono (by omega)
        · exact ((HB4.out.alloc (by have := HB4.out.size; omega) _).setCell (by show w.heap.size ≤ w.heap.size + 1; omega) _).setCell (by show w.heap.size ≤ w.heap.size + 1; omega) _
      · have HC1 := Lib.hid (hq ▸ HC.out wr HS2.out j)
        have HT : Hid (fsT b xs 62 0 = fsT b xs (62 - (j + 1)) (j + 1)) := Lib.hid (by rw [HFT.out, show 62 - j = (61 - j) + 1 by omega, fsT, if_pos hq, show 62 - (j + 1) = 61 - j by omega])
        clear hq
        go_wp2_with fail
        refine HC1.out.mono ?_
        rintro e w2 ⟨rfl, hb⟩
        have HW2 := Lib.hid (bthen HW.out hb)
        clear hb i1 i2 i3
        go_wp2
        go_roundw
        case rel => exact ⟨j + 1, by omega, by go_num, HT.out, HW2.out⟩
        case measure => simp [intOf]; omega
    · obtain rfl : j = 62 := by omega
      have HT : Hid (fsT b xs 62 0 = 62) := Lib.hid (by rw [HFT.out]; rfl)
      have HS3 := HS2
      have F13 := F12
      have HB3 := HB2
      go_wp2_with fail
      refine (HA.out _ HS3.out).mono ?_
      rintro e w3 ⟨rfl, hb⟩
      have F14 := Lib.hid (F13.out.below hb F13.out.lt)
      have HB4 := Lib.hid (bthen HB3.out hb)
      clear hb i1 i2 i3
      have f1 := F14.out.alloc (.cells #[] 2)
      obtain ⟨k1, k2, k3⟩ := And.intro f1.cell (And.intro f1.frozen f1.lt)
      clear f1
      go_wp2
      refine bodyPost_ret (v := .tuple #[.agg #[.bool false, .slice (some ⟨w3.heap.size, 0, none⟩) 0 0], .int .i64 0]) (by simp [results, Tryz.results12, go_sem, k1, k2, k3]) rfl ⟨_, rfl, ?_, ?_⟩
      · have hz := F14.out.lt
        exact (((Ow.lit' [] rfl rfl rfl (Nat.le_refl _)).setBelow (by show w.heap.size + 1 < w3.heap.size; omega) _).setBelow (by show w.heap.size + 1 < w3.heap.size; omega) _).mono (by omega)
      · exact ((HB4.out.alloc (by have := HB4.out.size; omega) _).setCell (by show w.heap.size ≤ w.heap.size + 1; omega) _).setCell (by show w.heap.size ≤ w.heap.size + 1; omega) _
set_option maxRecDepth 100000 in
theorem spec_BoxTrace_ok (v : Value) (b : Bool) (xs : List Int) (w : World) (h : Sl cI w v xs) (hl : xs.length ≤ 1048576) (hc : okT xs = true) (t : Nat) (hA : (!b && decide (xs.length = 0)) = false) (hX : fsT b xs 62 0 = t ∧ t ≤ 60) :
    Calls Tryz.prog 12 #[.agg #[.bool b, v]] w fun e w' => ∃ u, e = .returned (.tuple #[.agg #[.bool true, u], .int .i64 0]) ∧ Ow cI 2 w.heap.size w' u (shL (t + 1)) ∧ Below w.heap.size w w' := by
  obtain ⟨A, c, rfl⟩ := h.opn
  have h2 := (h.alloc (.cells #[.bool b, .slice A xs.length c] 26)).alloc (.cells #[.bool false, .slice none 0 0] 26)
  have H1 := Lib.hid (hc ▸ spec_l32Valid _ b xs _ h2 hl)
  have HC := Lib.hid (fun W (hW : Sl cI W (.slice A xs.length c) xs) x => spec_l32Has _ b xs x W hW hl)
  have HA := Lib.hid (fun W (hW : Sl cI W (.slice A xs.length c) xs) => hA ▸ spec_l32All _ b xs W hW (by omega))
  have H2 := Lib.hid h2
  have HX := Lib.hid hX
  clear hc h h2 hA hX
  go_enter Tryz.func12, Tryz.ntmps12
  go_wp2_with fail
  refine H1.out.mono ?_
  rintro e w1 ⟨rfl, hb⟩
  have F0 : Hid (Blk w1 w.heap.size 26 #[.bool b, .slice A xs.length c]) := Lib.hid (((Blk.new w 26 #[.bool b, .slice A xs.length c]).alloc (.cells #[.bool false, .slice none 0 0] 26)).below hb (by simp <;> omega))
  have F1 : Hid (Blk w1 (w.heap.size + 1) 26 #[.bool false, .slice none 0 0]) := Lib.hid ((Blk.new' (w.alloc (.cells #[.bool b, .slice A xs.length c] 26)) 26 #[.bool false, .slice none 0 0] (by simp)).below hb (by simp <;> omega))
  have HS := Lib.hid (H2.out.below hb)
  have HB : Hid (Below w.heap.size w w1) := Lib.hid ((((Below.refl _ _).alloc (Nat.le_refl _) _).alloc (by simp) _).trans (hb.mono (by simp <;> omega)))
  clear hb
  go_wp2
  go_loopw [4] (fun i wr => ∃ j : Nat, j ≤ 62 ∧ i = .int .i64 j ∧ fsT b xs 62 0 = fsT b xs (62 - j) j ∧ Below w1.heap.size w1 wr) (fun i _ => 62 - (intOf i).toNat)
  case atStart => exact ⟨0, by omega, rfl, rfl, Below.refl _ _⟩
  case round =>
    obtain ⟨j, hj, rfl, hf, hbw⟩ := hrel
    have f0 := F0.out.below hbw F0.out.lt
    obtain ⟨i1, i2, i3⟩ := And.intro f0.cell (And.intro f0.frozen f0.lt)
    have HS2 := Lib.hid (HS.out.below hbw)
    have F02 := Lib.hid f0
    have F12 := Lib.hid (F1.out.below hbw F1.out.lt)
    have HB2 := Lib.hid (bthen HB.out hbw)
    have HW := Lib.hid hbw
    have HFT := Lib.hid hf
    clear f0 hbw hf
    by_cases hlt : j < 62
    · cases hq : (decide ((j : Int) ∈ xs) == b)
      · have HC1 := Lib.hid (hq ▸ HC.out wr HS2.out j)
        have HT : Hid (fsT b xs 62 0 = j) := Lib.hid (by rw [HFT.out, show 62 - j = (61 - j) + 1 by omega, fsT, if_neg (by rw [hq]; decide)])
        clear hq
        go_wp2_with fail
        refine HC1.out.mono ?_
        rintro e w2 ⟨rfl, hb⟩
        have f0 := F02.out.below hb F02.out.lt
        clear i1 i2 i3
        obtain ⟨i1, i2, i3⟩ := And.intro f0.cell (And.intro f0.frozen f0.lt)
        have HS3 := Lib.hid (HS2.out.below hb)
        have F13 := Lib.hid (F12.out.below hb F12.out.lt)
        have HB3 := Lib.hid (bthen HB2.out hb)
        clear f0 hb
        go_wp2_with fail
        refine (HA.out _ HS3.out).mono ?_
        rintro e w3 ⟨rfl, hb⟩
        have F14 := Lib.hid (F13.out.below hb F13.out.lt)
        have HB4 := Lib.hid (bthen HB3.out hb)
        clear hb i1 i2 i3
        obtain rfl : j = t := by have := HX.out; have := HT.out; omega
        have hj60 : j ≤ 60 := HX.out.2
        have hj60' : (j : Int) ≤ 60 := by omega
        have hz := F14.out.lt
        have hz4 := HB4.out.size
        have B0 : Hid (Blk ((w3.alloc (.cells #[] 2)).alloc (.cells #[.bool true, .slice (some ⟨w3.heap.size, 0, none⟩) 0 0] 26)) (w.heap.size + 1) 26 #[.bool false, .slice none 0 0]) := Lib.hid ((F14.out.alloc _).alloc _)
        have B1 : Hid (Blk ((w3.alloc (.cells #[] 2)).alloc (.cells #[.bool true, .slice (some ⟨w3.heap.size, 0, none⟩) 0 0] 26)) (w3.heap.size + 1) 26 #[.bool true, .slice (some ⟨w3.heap.size, 0, none⟩) 0 0]) := Lib.hid (Blk.new' _ _ _ (by simp))
        have O0 : Hid (Ow cI 2 w3.heap.size ((w3.alloc (.cells #[] 2)).alloc (.cells #[.bool true, .slice (some ⟨w3.heap.size, 0, none⟩) 0 0] 26)) (.slice (some ⟨w3.heap.size, 0, none⟩) 0 0) []) := Lib.hid ((Ow.lit' [] rfl rfl rfl (Nat.le_refl _)).alloc _)
        have HB0 : Hid (Below w.heap.size w ((w3.alloc (.cells #[] 2)).alloc (.cells #[.bool true, .slice (some ⟨w3.heap.size, 0, none⟩) 0 0] 26))) := Lib.hid ((HB4.out.alloc (by omega) _).alloc (by simp <;> omega) _)
        go_wp2
        go_loopw [6] (fun i wr => ∃ (k : Nat) (lv : Value), k ≤ j + 1 ∧ i = .int .i64 k ∧ Ow cI 2 w3.heap.size wr lv (shL k) ∧ lv.ownBlock ≠ some (w3.heap.size + 1) ∧ Blk wr (w3.heap.size + 1) 26 #[.bool true, lv] ∧ Blk wr (w.heap.size + 1) 26 #[.bool false, .slice none 0 0] ∧ Below w.heap.size w wr) (fun i _ => j + 1 - (intOf i).toNat)
        case atStart => exact ⟨0, _, by omega, rfl, O0.out, by simp [Value.ownBlock], B1.out, B0.out, HB0.out⟩
        case round =>
          obtain ⟨k, lv, hk', rfl, ho, hne, hk, hk0, hbw⟩ := hrel
          clear O0 B0 B1 HB0
          obtain ⟨A1, c1, rfl⟩ := ho.opn
          rw [shL_length] at ho hne hk
          have glt := hk.lt
          have k1 := hk.cell
          have k2 := hk.frozen
          have HO := Lib.hid ho; have HK := Lib.hid hk; have HK0 := Lib.hid hk0; have HN := Lib.hid hne; have HBW := Lib.hid hbw
          clear ho hk hk0 hne hbw
          by_cases hlt2 : k < j + 1
          · go_wp2_with (at_builtin; refine stopHere ?_)
            refine goHere ?_
            refine ap_one (K := cI) _ ty_int64 rfl _ _ rfl (B := w3.heap.size) (xs := shL k) rfl HO.out k rfl rfl (by rw [shL_length]; omega) (by omega) ?_
            intro v1 w6 ho1 hg1 hb1 hat1
            have m1 := (HK.out.alloc (.cells #[.int .i64 k] 2)).grown hg1 (fun e => HN.out e.symm)
            have m0 := (HK0.out.alloc (.cells #[.int .i64 k] 2)).grown hg1 (HO.out.apart (g := w.heap.size + 1) (.inl (by omega)))
            have hne1 : v1.ownBlock ≠ some (w3.heap.size + 1) := by
              rcases hat1 with e | e
              · rw [e]; exact HN.out
              · rw [e]; intro e2; injection e2 with e2; omega
            have hbw1 : Below w.heap.size w w6 := HBW.out.trans (hb1.mono (by omega))
            obtain ⟨A2, c2, rfl⟩ := ho1.opn
            have el : (shL k ++ [(k : Int)]).length = k + 1 := by simp [shL_length]
            rw [el] at ho1 hne1 ⊢
            clear k1 k2 el
            have k1 := m1.cell
            have k2 := m1.frozen
            have M1 := Lib.hid m1; have M0 := Lib.hid m0; have N1 := Lib.hid hne1; have O1 := Lib.hid ho1; have W1 := Lib.hid hbw1
            clear m1 m0 hne1 ho1 hbw1 hg1 hb1 hat1
            go_wp2
            go_roundw
            case rel =>
              refine ⟨k + 1, .slice A2 (k + 1) c2, by omega, by go_num, by rw [shL_snoc]; exact O1.out.far N1.out _, N1.out, ?_, M0.out.far (by show w.heap.size + 1 ≠ w3.heap.size + 1; omega) _, W1.out.setCell (by show w.heap.size ≤ w3.heap.size + 1; omega) _⟩
              exact M1.out.set_ 1 _
            case measure => simp [intOf]; omega
          · obtain rfl : k = j + 1 := by omega
            have k3 := HK0.out.cell
            have k4 := HK0.out.frozen
            have glt0 := HK0.out.lt
            go_wp2
            refine bodyPost_ret (v := .tuple #[.agg #[.bool true, .slice A1 (j + 1) c1], .int .i64 0]) (by simp [results, Tryz.results12, go_sem, k1, k2, k3, k4]) rfl ⟨_, rfl, ?_, ?_⟩
            · exact ((HO.out.setBelow (by show w.heap.size + 1 < w3.heap.size; omega) _).setBelow (by show w.heap.size + 1 < w3.heap.size; omega) _).mono (by omega)
            · exact (HBW.out.setCell (by show w.heap.size ≤ w.heap.size + 1; omega) _).setCell (by show w.heap.size ≤ w.heap.size + 1; omega) _
      · have HC1 := Lib.hid (hq ▸ HC.out wr HS2.out j)
        have HT : Hid (fsT b xs 62 0 = fsT b xs (62 - (j + 1)) (j + 1)) := Lib.hid (by rw [HFT.out, show 62 - j = (61 - j) + 1 by omega, fsT, if_pos hq, show 62 - (j + 1) = 61 - j by omega])
        clear hq
        go_wp2_with fail
        refine HC1.out.mono ?_
        rintro e w2 ⟨rfl, hb⟩
        have HW2 := Lib.hid (bthen HW.out hb)
        clear hb i1 i2 i3
        go_wp2
        go_roundw
        case rel => exact ⟨j + 1, by omega, by go_num, HT.out, HW2.out⟩
        case measure => simp [intOf]; omega
    · obtain rfl : j = 62 := by omega
      have HT : Hid (fsT b xs 62 0 = 62) := Lib.hid (by rw [HFT.out]; rfl)
      exact absurd HT.out (by have := HX.out; omega)
/- The plain law of BoxTrace: the program's first false rank is the reference's. -/
theorem okT_at {xs : List Int} (h : okT xs = true) {i : Nat} (hi : i < xs.length) : goodT xs i = true := by
  unfold okT at h
  rw [List.all_eq_true] at h
  exact h i (List.mem_range.2 hi)
theorem okT_mem {xs : List Int} (h : okT xs = true) {x : Int} (hx : x ∈ xs) : 0 ≤ x ∧ x ≤ 60 := by
  obtain ⟨i, hi, rfl⟩ := List.getElem_of_mem hx
  have := okT_at h hi
  simp only [goodT, inR, Bool.and_eq_true, decide_eq_true_eq, List.getD_eq_getElem?_getD, List.getElem?_eq_getElem hi, Option.getD_some] at this
  omega
theorem okT_asc {xs : List Int} (h : okT xs = true) : xs.Pairwise (· < ·) := by
  rw [List.pairwise_iff_getElem]
  intro i j hi hj hij
  induction j with
  | zero => omega
  | succ k ih =>
    have h1 := okT_at h hj
    rw [goodT_succ hj, Bool.and_eq_true, decide_eq_true_eq] at h1
    by_cases he : i = k
    · subst he; exact h1.2
    · have := ih (by omega) (by omega)
      omega
theorem ffL_ge (L : List Int) : ∀ i : Int, i ≤ ffL L i := by
  induction L with
  | nil => intro i; exact Int.le_refl _
  | cons x t ih =>
    intro i
    rw [ffL]
    split
    · have := ih (i + 1); omega
    · exact Int.le_refl _
theorem fsT_true (F : List Int) (k : Nat) : ∀ (n : Nat) (L : List Int), L.Pairwise (· < ·) → (∀ x ∈ L, (n : Int) ≤ x) → (∀ m : Int, (n : Int) ≤ m → (m ∈ F ↔ m ∈ L)) → (fsT true F k n : Int) = min ((n + k : Nat) : Int) (ffL L n) := by
  induction k with
  | zero => intro n L _ _ _; have := ffL_ge L n; simp only [fsT]; omega
  | succ k ih =>
    intro n L hp hge hm
    have hge' := ffL_ge L n
    cases L with
    | nil =>
      have hn : ¬ (n : Int) ∈ F := by rw [hm n (Int.le_refl _)]; simp
      rw [fsT, if_neg (by simp [hn])]
      simp only [ffL]; omega
    | cons x t =>
      have hx := hge x List.mem_cons_self
      rw [List.pairwise_cons] at hp
      by_cases he : x = (n : Int)
      · have hn : (n : Int) ∈ F := by rw [hm n (Int.le_refl _), he]; exact List.mem_cons_self
        rw [fsT, if_pos (by simp [hn]), ih (n + 1) t hp.2 (fun y hy => by have := hp.1 y hy; omega) (fun m hmn => by
          rw [hm m (by omega), List.mem_cons]
          constructor
          · rintro (h | h)
            · omega
            · exact h
          · exact fun h => .inr h), ffL, if_pos he]
        rw [show ((n + 1 : Nat) : Int) = (n : Int) + 1 from by omega]
        omega
      · have hn : ¬ (n : Int) ∈ F := by
          rw [hm n (Int.le_refl _), List.mem_cons]
          rintro (h | h)
          · exact he h.symm
          · have := hp.1 _ h; omega
        rw [fsT, if_neg (by simp [hn]), ffL, if_neg he]
        omega
theorem fsT_false (F : List Int) (x : Int) (hx : x ∈ F) (hmin : ∀ y ∈ F, x ≤ y) (k : Nat) : ∀ n : Nat, (n : Int) ≤ x → (fsT false F k n : Int) = min ((n + k : Nat) : Int) x := by
  induction k with
  | zero => intro n hn; simp only [fsT]; omega
  | succ k ih =>
    intro n hn
    by_cases he : (n : Int) = x
    · rw [fsT, if_neg (by simp [he, hx])]; omega
    · have hnf : ¬ (n : Int) ∈ F := fun h => by have := hmin _ h; omega
      rw [fsT, if_pos (by simp [hnf]), ih (n + 1) (by omega)]
      omega
/-- the two ways to seek it agree, where the Trace is not of all ranks -/
theorem ff_fs {b : Bool} {xs : List Int} (h : okT xs = true) (hA : (!b && decide (xs.length = 0)) = false) :
    (fsT b xs 62 0 ≤ 60 → ffT b xs = fsT b xs 62 0) ∧ (60 < fsT b xs 62 0 → 60 < ffT b xs) := by
  cases b
  · cases xs with
    | nil => simp at hA
    | cons x t =>
      have hp := okT_asc h
      rw [List.pairwise_cons] at hp
      have h1 := okT_mem h (x := x) List.mem_cons_self
      have h2 := fsT_false (x :: t) x List.mem_cons_self (fun y hy => by
        rcases List.mem_cons.1 hy with e | e
        · omega
        · have := hp.1 y e; omega) 62 0 (by omega)
      have h3 : ffT false (x :: t) = x := rfl
      rw [h3]
      omega
  · have h2 := fsT_true xs 62 0 xs (okT_asc h) (fun x hx => by have := okT_mem h hx; omega) (fun m _ => Iff.rfl)
    have h3 : ffT true xs = ffL xs 0 := rfl
    rw [h3]
    rw [show ((0 : Nat) : Int) = 0 from rfl] at h2
    omega
end Go.Proofs.YtjpgiamblbgkpaaGreat
