/- Heyting algebras, of the program: heytingOf. Written by gen18R.py. -/
import Derived.Test.YtgkogfjifcfkoaaGreatY22
import Derived.Test.YtgkogfjifcfkoaaGreatY23
namespace Go.Proofs.YtgkogfjifcfkoaaGreat
open Go.RowKit
set_option linter.unusedVariables false
set_option linter.unusedSimpArgs false
/-- a partial order, by the three flags -/
theorem par_flags {ns : List Nat} (hr : RelM ns) : par ns = (t3 ns (fun x => (ns.getD x 0).testBit x) (fun _ _ => true) (fun _ _ _ => true) && trv ns && t3 ns (fun _ => true) (fun x y => !(!decide (x = y) && (ns.getD y 0).testBit x)) (fun _ _ _ => true)) := by
  rw [t3_one, ← f8_eqM ns hr, Bool.eq_iff_iff, Bool.and_eq_true, Bool.and_eq_true, List.all_eq_true, List.all_eq_true]
  unfold trv
  rw [List.all_eq_true]
  constructor
  · intro hp
    refine ⟨⟨fun x hx => par_refl hp (List.mem_range.1 hx), fun x hx => ?_⟩, fun x hx => ?_⟩
    · have hx' := List.mem_range.1 hx
      rw [decide_eq_true_eq, andnot_zero, (of_decide_eq_true hp x hx').2.1]
      exact fun i hi => hi
    · have hx' := List.mem_range.1 hx
      rw [decide_eq_true_eq, andnot_zero]
      intro i hi
      rw [Nat.testBit_and, Bool.and_eq_true] at hi
      have hi' := bit_lt (getD_lt hr.2 x) hi.1
      have h2 := ((le_inv hx').1 hi.2).2
      rw [Nat.testBit_two_pow, decide_eq_true_eq]
      exact par_anti hp hx' hi' hi.1 h2
  · rintro ⟨⟨h1, h2⟩, h3⟩
    refine decide_eq_true fun x hx => ⟨h1 x (List.mem_range.2 hx), ?_, fun y hy => ?_⟩
    · have h4 := h2 x (List.mem_range.2 hx)
      rw [decide_eq_true_eq, andnot_zero] at h4
      refine msk_ext ns.length (imgTo_lt hr.2 _ _) (getD_lt hr.2 x) fun i hi => ?_
      rw [Bool.eq_iff_iff]
      refine ⟨h4 i, fun hb => ?_⟩
      unfold img
      rw [imgTo_bit]
      exact ⟨x, hx, h1 x (List.mem_range.2 hx), hb⟩
    · cases hb : ((ns.getD x 0).testBit y && (ns.getD y 0).testBit x)
      · rfl
      · rw [Bool.and_eq_true] at hb
        have h5 := h3 x (List.mem_range.2 hx)
        rw [decide_eq_true_eq, andnot_zero] at h5
        have h6 := h5 y (by rw [Nat.testBit_and, hb.1, Bool.true_and]; exact (le_inv hx).2 ⟨by omega, hb.2⟩)
        rw [Nat.testBit_two_pow, decide_eq_true_eq] at h6
        omega
theorem gtI_ok {ns : List Nat} {m : Nat} (h : 0 ≤ lwI ns m) : gtI ns m = lwI ns m := by unfold gtI; rw [if_pos h]
/-- a row so far, the rest zeros -/
def rowZ (f : Nat → Nat → Int) (x n y : Nat) : List Int := rowI f x y ++ List.replicate (n - y) 0
theorem rowZ_length (f : Nat → Nat → Int) (x n y : Nat) (h : y ≤ n) : (rowZ f x n y).length = n := by unfold rowZ; rw [List.length_append, rowI_length, List.length_replicate]; omega
theorem rowZ_zero (f : Nat → Nat → Int) (x n : Nat) : List.replicate n (0 : Int) = rowZ f x n 0 := by unfold rowZ rowI; simp
theorem rowZ_end (f : Nat → Nat → Int) (x n : Nat) : rowZ f x n n = rowI f x n := by unfold rowZ; rw [Nat.sub_self, List.replicate_zero, List.append_nil]
theorem rowZ_set (f : Nat → Nat → Int) (x n y : Nat) (h : y < n) (z : Int) (hz : z = f x y) : (rowZ f x n y).set y z = rowZ f x n (y + 1) := by
  unfold rowZ
  rw [List.set_append, if_neg (by rw [rowI_length]; omega), rowI_length, Nat.sub_self]
  obtain ⟨m, hm⟩ : ∃ m, n - y = m + 1 := ⟨n - y - 1, by omega⟩
  rw [hm, List.replicate_succ, List.set_cons_zero, show n - (y + 1) = m by omega, rowI_succ, hz, List.append_assoc]
  rfl
def mkzM (n : Nat) : Array Value := (List.replicate n (Value.int .i64 0)).toArray
theorem mkzM_flat (n : Nat) : flat cI (List.replicate n 0) = (mkzM n).toList := by rw [flat_cI]; unfold mkzM; rw [List.map_replicate]
theorem run_mkzM (n : Nat) (h : n ≤ 1048576) (w : World) :
    (Instr.makeSlice 27 (.int .i64 (n : Int)) (.int .i64 (n : Int))).run Tryz.prog w = .ok (.slice (some ⟨w.heap.size, 0, none⟩) n n) (w.alloc (.cells (mkzM n) 2)) := by
  obtain ⟨i, hi, hz, hsize, hby⟩ := ty_int64.info
  have := run_make (P := Tryz.prog) w 27 2 i _ ty_int64.under hi hz .i64 .i64 (n : Int) (n : Int) (by omega) (Int.le_refl _) (by rw [hby]; omega) (by omega)
  have e : madeCells (Value.int .i64 0).cells ((n : Int).toNat * i.size) = mkzM n := by
    rw [hsize, Int.toNat_natCast, Nat.mul_one]
    apply Array.ext (by simp [madeCells, mkzM])
    intro j h1 h2
    simp [madeCells, mkzM, Value.cells, Nat.mod_one]
  rw [this, e, Int.toNat_natCast]
theorem Ow.mkzM {B : Nat} (w : World) (n g : Nat) (hg : g = w.heap.size) (hB : B ≤ g) (h : n ≤ 1048576) : Ow cI 2 B (w.alloc (.cells (mkzM n) 2)) (.slice (some ⟨g, 0, none⟩) n n) (List.replicate n 0) :=
  Ow.lit' (List.replicate n (0 : Int)) hg (by simp) (mkzM_flat n) hB (by simp; omega)
set_option maxHeartbeats 4000000 in
set_option maxRecDepth 100000 in
theorem impl_heytingOf (v : Value) (ns : List Nat) (w : World) (h : Sl cI w v (li ns)) (hr : RelM ns) :
    Calls Tryz.prog 90 #[v] w fun e w' => (¬ hpOk ns ∧ e = .returned (.tuple #[.agg #[.slice none 0 0, .slice none 0 0, .slice none 0 0, .int .i64 0, .int .i64 0], .bool false]) ∧ Below w.heap.size w w') ∨
      (hpOk ns ∧ ∃ a o i, e = .returned (.tuple #[.agg #[a, o, i, .int .i64 (botI ns), .int .i64 (topI ns)], .bool true]) ∧ Sl2 cI w' a (tabI (fA ns) ns.length ns.length) ∧ Sl2 cI w' o (tabI (fO ns) ns.length ns.length) ∧ Sl2 cI w' i (tabI (fI ns) ns.length ns.length) ∧ Below w.heap.size w w') := by
  obtain ⟨A0, c0, rfl⟩ := h.opn
  have h30 := hr.1
  have HL := Lib.hid (li_length ns)
  rw [HL.out] at h ⊢
  have HX := Lib.hid h
  have BL := Lib.hid (Below.refl w.heap.size w)
  have HR := Lib.hid hr
  have HRI := Lib.hid (inv_rel hr)
  have PF := Lib.hid (par_flags hr)
  have HSz := Lib.hid (fun W (hW : Sl cI W (.slice A0 ns.length c0) (li ns)) => impl_size_int64 _ (li ns) W hW)
  have HFr := Lib.hid (fun W (hW : Sl cI W (.slice A0 ns.length c0) (li ns)) => impl_frameOf _ (li ns) W hW)
  rw [HL.out] at HSz HFr
  have HF0 := Lib.hid (fun W (hW : Sl cI W (.slice A0 ns.length c0) (li ns)) => impl_hasFlag_014M ns _ W hW hr)
  have HF2 := Lib.hid (fun W (hW : Sl cI W (.slice A0 ns.length c0) (li ns)) => impl_hasFlag_2M ns _ W hW hr)
  have HF8 := Lib.hid (fun W (hW : Sl cI W (.slice A0 ns.length c0) (li ns)) => impl_hasFlag_814M ns _ W hW hr)
  have HIv := Lib.hid (fun W (hW : Sl cI W (.slice A0 ns.length c0) (li ns)) => impl_inverse_inM _ ns W hW hr)
  have HGo := Lib.hid (fun m W (hm : m < 2 ^ ns.length) (hW : Sl cI W (.slice A0 ns.length c0) (li ns)) => impl_greatest _ ns m W hW hr hm)
  have HGb := Lib.hid (fun u m W (hm : m < 2 ^ ns.length) (hW : Sl cI W u (li (inv ns))) => impl_greatest u (inv ns) m W hW (inv_rel hr) (by rw [inv_length]; exact hm))
  have HIL := Lib.hid (show (li (inv ns)).length = ns.length by rw [li_length, inv_length])
  clear h hr
  go_enter Tryz.func90, Tryz.ntmps90
  go_upto_region 1 with fail
  have hb := below_alloc' w (.cells #[.slice none 0 0, .slice none 0 0, .slice none 0 0, .int .i64 0, .int .i64 0] 26)
  have R := Lib.hid (Blk.new w 26 #[.slice none 0 0, .slice none 0 0, .slice none 0 0, .int .i64 0, .int .i64 0])
  replace HX := Lib.hid (HX.out.below hb)
  replace BL := Lib.hid (bthen BL.out hb)
  clear hb
  generalize World.alloc w _ = w1 at *
  go_wp2_with fail
  refine (HSz.out _ HX.out).mono ?_
  rintro e _ ⟨rfl, rfl⟩
  go_wp2_with fail
  refine (HFr.out _ HX.out).mono ?_
  rintro e w2 ⟨rfl, hb⟩
  replace HX := Lib.hid (HX.out.below hb)
  replace R := Lib.hid (R.out.below hb R.out.lt)
  replace BL := Lib.hid (bthen BL.out hb)
  clear hb
  go_upto_region 3 with fail
  have hb := below_alloc' w2 (.cells #[.int .i64 ns.length, .slice A0 ns.length c0] 122)
  have F := Lib.hid (Blk.new w2 122 #[.int .i64 ns.length, .slice A0 ns.length c0])
  replace HX := Lib.hid (HX.out.below hb)
  replace R := Lib.hid (R.out.below hb R.out.lt)
  replace BL := Lib.hid (bthen BL.out hb)
  clear hb
  generalize World.alloc w2 _ = w3 at *
  by_cases h0 : ns.length = 0
  · have E : Hid (¬ hpOk ns) := Lib.hid (fun hk => hk.1 h0)
    have i0 : ((ns.length : Int) == 0) = true := by rw [h0]; rfl
    clear h0
    have kr := R.out.cell
    have fr := R.out.frozen
    have lr := R.out.lt
    go_wp2
    refine bodyPost_ret (v := .tuple #[.agg #[.slice none 0 0, .slice none 0 0, .slice none 0 0, .int .i64 0, .int .i64 0], .bool false]) (by simp [results, Tryz.results90, go_sem, kr, fr, lr]) rfl (.inl ⟨E.out, rfl, ?_⟩)
    exact (((((BL.out.setCell (p := ⟨w.heap.size, 0, none⟩) (Nat.le_refl _) _).setCell (p := ⟨w.heap.size, 1, none⟩) (Nat.le_refl _) _).setCell (p := ⟨w.heap.size, 2, none⟩) (Nat.le_refl _) _).setCell (p := ⟨w.heap.size, 3, none⟩) (Nat.le_refl _) _).setCell (p := ⟨w.heap.size, 4, none⟩) (Nat.le_refl _) _)
  have HN0 := Lib.hid h0
  have i0 : ((ns.length : Int) == 0) = false := beq_eq_false_iff_ne.2 (by omega)
  clear h0
  obtain ⟨f0, hf0⟩ : ∃ f, t3 ns (fun x => (ns.getD x 0).testBit x) (fun _ _ => true) (fun _ _ _ => true) = f := ⟨_, rfl⟩
  obtain ⟨f2, hf2⟩ : ∃ f, trv ns = f := ⟨_, rfl⟩
  obtain ⟨f8, hf8⟩ : ∃ f, t3 ns (fun _ => true) (fun x y => !(!decide (x = y) && (ns.getD y 0).testBit x)) (fun _ _ _ => true) = f := ⟨_, rfl⟩
  rw [hf0] at HF0 PF
  rw [hf2] at HF2 PF
  rw [hf8] at HF8 PF
  clear hf0 hf2 hf8
  have EP : Hid (par ns = false → ¬ hpOk ns) := Lib.hid (fun hh hk => by rw [hk.2.1] at hh; cases hh)
  have kf := F.out.cell
  have lf := F.out.lt
  go_wp2_with fail
  refine (HF0.out _ HX.out).mono ?_
  rintro e w4 ⟨rfl, hb⟩
  replace HX := Lib.hid (HX.out.below hb)
  replace R := Lib.hid (R.out.below hb R.out.lt)
  replace F := Lib.hid (F.out.below hb F.out.lt)
  replace BL := Lib.hid (bthen BL.out hb)
  clear hb kf lf
  cases f0
  · have E := Lib.hid (EP.out (by rw [PF.out]; rfl))
    have kr := R.out.cell
    have fr := R.out.frozen
    have lr := R.out.lt
    go_wp2
    refine bodyPost_ret (v := .tuple #[.agg #[.slice none 0 0, .slice none 0 0, .slice none 0 0, .int .i64 0, .int .i64 0], .bool false]) (by simp [results, Tryz.results90, go_sem, kr, fr, lr]) rfl (.inl ⟨E.out, rfl, ?_⟩)
    exact (((((BL.out.setCell (p := ⟨w.heap.size, 0, none⟩) (Nat.le_refl _) _).setCell (p := ⟨w.heap.size, 1, none⟩) (Nat.le_refl _) _).setCell (p := ⟨w.heap.size, 2, none⟩) (Nat.le_refl _) _).setCell (p := ⟨w.heap.size, 3, none⟩) (Nat.le_refl _) _).setCell (p := ⟨w.heap.size, 4, none⟩) (Nat.le_refl _) _)
  have kf := F.out.cell
  have lf := F.out.lt
  go_wp2_with fail
  refine (HF2.out _ HX.out).mono ?_
  rintro e w5 ⟨rfl, hb⟩
  replace HX := Lib.hid (HX.out.below hb)
  replace R := Lib.hid (R.out.below hb R.out.lt)
  replace F := Lib.hid (F.out.below hb F.out.lt)
  replace BL := Lib.hid (bthen BL.out hb)
  clear hb kf lf
  cases f2
  · have E := Lib.hid (EP.out (by rw [PF.out]; rfl))
    have kr := R.out.cell
    have fr := R.out.frozen
    have lr := R.out.lt
    go_wp2
    refine bodyPost_ret (v := .tuple #[.agg #[.slice none 0 0, .slice none 0 0, .slice none 0 0, .int .i64 0, .int .i64 0], .bool false]) (by simp [results, Tryz.results90, go_sem, kr, fr, lr]) rfl (.inl ⟨E.out, rfl, ?_⟩)
    exact (((((BL.out.setCell (p := ⟨w.heap.size, 0, none⟩) (Nat.le_refl _) _).setCell (p := ⟨w.heap.size, 1, none⟩) (Nat.le_refl _) _).setCell (p := ⟨w.heap.size, 2, none⟩) (Nat.le_refl _) _).setCell (p := ⟨w.heap.size, 3, none⟩) (Nat.le_refl _) _).setCell (p := ⟨w.heap.size, 4, none⟩) (Nat.le_refl _) _)
  have kf := F.out.cell
  have lf := F.out.lt
  go_wp2_with fail
  refine (HF8.out _ HX.out).mono ?_
  rintro e w6 ⟨rfl, hb⟩
  replace HX := Lib.hid (HX.out.below hb)
  replace R := Lib.hid (R.out.below hb R.out.lt)
  replace F := Lib.hid (F.out.below hb F.out.lt)
  replace BL := Lib.hid (bthen BL.out hb)
  clear hb kf lf
  cases f8
  · have E := Lib.hid (EP.out (by rw [PF.out]; rfl))
    have kr := R.out.cell
    have fr := R.out.frozen
    have lr := R.out.lt
    go_wp2
    refine bodyPost_ret (v := .tuple #[.agg #[.slice none 0 0, .slice none 0 0, .slice none 0 0, .int .i64 0, .int .i64 0], .bool false]) (by simp [results, Tryz.results90, go_sem, kr, fr, lr]) rfl (.inl ⟨E.out, rfl, ?_⟩)
    exact (((((BL.out.setCell (p := ⟨w.heap.size, 0, none⟩) (Nat.le_refl _) _).setCell (p := ⟨w.heap.size, 1, none⟩) (Nat.le_refl _) _).setCell (p := ⟨w.heap.size, 2, none⟩) (Nat.le_refl _) _).setCell (p := ⟨w.heap.size, 3, none⟩) (Nat.le_refl _) _).setCell (p := ⟨w.heap.size, 4, none⟩) (Nat.le_refl _) _)
  have HPP : Hid (par ns = true) := Lib.hid (by rw [PF.out]; rfl)
  clear i0 EP PF HF0 HF2 HF8 F
  go_wp2_with fail
  refine (HIv.out _ HX.out).mono ?_
  rintro e w7 ⟨u6, rfl, hO, hb⟩
  replace HX := Lib.hid (HX.out.below hb)
  replace R := Lib.hid (R.out.below hb R.out.lt)
  replace BL := Lib.hid (bthen BL.out hb)
  have HU := Lib.hid hO.sl
  clear hb hO HIv
  obtain ⟨A6, c6, rfl⟩ := HU.out.opn
  rw [HIL.out] at HU ⊢
  go_upto_region 7 with fail
  have hb := below_alloc' w7 (.cells #[.slice none 0 0, .slice none 0 0, .slice none 0 0, .int .i64 0, .int .i64 0] 26)
  have G := Lib.hid (Blk.new w7 26 #[.slice none 0 0, .slice none 0 0, .slice none 0 0, .int .i64 0, .int .i64 0])
  have ZR := Lib.hid R.out.lt
  have R3 := R
  have BL3 := BL
  have H78 := Lib.hid hb
  have hz8 : (World.alloc w7 (.cells #[.slice none 0 0, .slice none 0 0, .slice none 0 0, .int .i64 0, .int .i64 0] 26)).heap.size = w7.heap.size + 1 := size_alloc' _ _
  clear R BL hb
  generalize World.alloc w7 _ = w8 at *
  go_wp2
  go_loopw [46] (fun i wr => ∃ x : Nat, x ≤ ns.length ∧ i = .int .i64 x ∧ (∃ av ov SA SO, Two (w7.heap.size + 1) wr av ov (tabI (fA ns) ns.length x) (tabI (fO ns) ns.length x) SA SO ∧ Blk wr w7.heap.size 26 #[av, ov, .slice none 0 0, .int .i64 0, .int .i64 0]) ∧ Below w7.heap.size w7 wr ∧ ∀ x', x' < x → ∀ y, y < ns.length → 0 ≤ fA ns x' y ∧ 0 ≤ fO ns x' y) (fun i _ => ns.length - (intOf i).toNat)
  case atStart => exact ⟨0, Nat.zero_le _, rfl, ⟨_, _, _, _, ⟨OwQ.nil _ _, OwQ.nil _ _, fun k hk => hk.elim⟩, G.out⟩, H78.out, fun x' h => by omega⟩
  case round =>
    obtain ⟨x, hx, rfl, ⟨av, ov, SA, SO, TW, G9⟩, hb, hgood⟩ := hrel
    obtain ⟨w9, hw9⟩ : ∃ W, W = wr := ⟨_, rfl⟩
    subst hw9
    replace TW := Lib.hid TW
    clear G
    have G := Lib.hid G9
    clear G9
    have HG := Lib.hid hgood
    have B9 := Lib.hid hb
    have HX9 := Lib.hid (HX.out.below hb)
    have HU9 := Lib.hid (HU.out.below hb)
    have hG9 := G.out.lt
    clear hgood hb
    by_cases hlt : x < ns.length
    · have hm1 := run_mkzM ns.length (by omega)
      go_upto_region 10 with fail
      go_cut [9, 10] (fun a b V => ∃ g1 g2 : Nat, a = .slice (some ⟨g1, 0, none⟩) ns.length ns.length ∧ b = .slice (some ⟨g2, 0, none⟩) ns.length ns.length ∧ ¬ g1 = g2 ∧ Ow cI 2 w9.heap.size V (.slice (some ⟨g1, 0, none⟩) ns.length ns.length) (List.replicate ns.length 0) ∧ Ow cI 2 w9.heap.size V (.slice (some ⟨g2, 0, none⟩) ns.length ns.length) (List.replicate ns.length 0) ∧ Below w9.heap.size w9 V)
      case first =>
        have HXX : Hid (Ow cI 2 w9.heap.size ((w9.alloc (.cells (mkzM ns.length) 2)).alloc (.cells (mkzM ns.length) 2)).drew (.slice (some ⟨w9.heap.size, 0, none⟩) ns.length ns.length) (List.replicate ns.length 0) ∧ Ow cI 2 w9.heap.size ((w9.alloc (.cells (mkzM ns.length) 2)).alloc (.cells (mkzM ns.length) 2)).drew (.slice (some ⟨w9.heap.size + 1, 0, none⟩) ns.length ns.length) (List.replicate ns.length 0) ∧ Below w9.heap.size w9 ((w9.alloc (.cells (mkzM ns.length) 2)).alloc (.cells (mkzM ns.length) 2)).drew) := Lib.hid
          ⟨((Ow.mkzM w9 ns.length w9.heap.size rfl (Nat.le_refl _) (by omega)).alloc _).drewN 1, (Ow.mkzM (w9.alloc (.cells (mkzM ns.length) 2)) ns.length (w9.heap.size + 1) (by simp) (by omega) (by omega)).drewN 1, (((Below.refl _ _).alloc (Nat.le_refl _) _).alloc (by simp) _).drew⟩
        first | go_region | fail
        all_goals
          go_wp2_with fail
          go_meet
          first
            | exact ⟨_, _, rfl, rfl, by omega, HXX.out.1, HXX.out.2.1, HXX.out.2.2⟩
            | exact ⟨_, _, rfl, rfl, by omega, HXX.out.2.1, HXX.out.1, HXX.out.2.2⟩
      case rest =>
        obtain ⟨g1, g2, rfl, rfl, hne, hO1, hO2, hBV⟩ := hcut
        rw [rowZ_zero (fA ns) x] at hO1
        rw [rowZ_zero (fO ns) x] at hO2
        have HO1 := Lib.hid hO1
        have HO2 := Lib.hid hO2
        have HBV := Lib.hid hBV
        have HNE := Lib.hid hne
        clear hm1 hO1 hO2 hBV hne
        go_wp2
        go_loopw [54] (fun i wr => ∃ y : Nat, y ≤ ns.length ∧ i = .int .i64 y ∧ Ow cI 2 w9.heap.size wr (.slice (some ⟨g1, 0, none⟩) ns.length ns.length) (rowZ (fA ns) x ns.length y) ∧ Ow cI 2 w9.heap.size wr (.slice (some ⟨g2, 0, none⟩) ns.length ns.length) (rowZ (fO ns) x ns.length y) ∧ Below w9.heap.size w9 wr ∧ ∀ y', y' < y → 0 ≤ fA ns x y' ∧ 0 ≤ fO ns x y') (fun i _ => ns.length - (intOf i).toNat)
        case atStart => exact ⟨0, Nat.zero_le _, rfl, HO1.out, HO2.out, HBV.out, fun y' h => by omega⟩
        case round =>
          obtain ⟨y, hy, rfl, OP, OQ, hb, hgood2⟩ := hrel
          obtain ⟨w10, hw10⟩ : ∃ W, W = wr := ⟨_, rfl⟩
          subst hw10
          replace OP := Lib.hid OP
          replace OQ := Lib.hid OQ
          have B10 := Lib.hid hb
          have HG2 := Lib.hid hgood2
          have HX10 := Lib.hid (HX9.out.below hb)
          have HU10 := Lib.hid (HU9.out.below hb)
          clear hb hgood2
          by_cases hlt2 : y < ns.length
          · obtain ⟨b, o, rfl, hbl, hcx⟩ := HX10.out.atI (k := x) (by rw [HL.out]; exact hlt)
            obtain ⟨b', o', hE', hbl9, -⟩ := HX9.out.atI (k := x) (by rw [HL.out]; exact hlt)
            injection hE' with hE'
            injection hE' with hE1 hE3
            subst hE1; subst hE3
            obtain ⟨b', o', hE', -, hcy⟩ := HX10.out.atI (k := y) (by rw [HL.out]; exact hlt2)
            injection hE' with hE'
            injection hE' with hE1 hE3
            subst hE1; subst hE3
            obtain ⟨d, q, rfl, hdl, hdx⟩ := HU10.out.atI (k := x) (by rw [HIL.out]; exact hlt)
            obtain ⟨d', q', hE', hdl9, -⟩ := HU9.out.atI (k := x) (by rw [HIL.out]; exact hlt)
            injection hE' with hE'
            injection hE' with hE1 hE3
            subst hE1; subst hE3
            obtain ⟨d', q', hE', -, hdy⟩ := HU10.out.atI (k := y) (by rw [HIL.out]; exact hlt2)
            injection hE' with hE'
            injection hE' with hE1 hE3
            subst hE1; subst hE3
            rw [li_get] at hcx hcy hdx hdy
            have h1 := HR.out.lt x
            have h2 := HR.out.lt y
            have h3 := HRI.out.lt x
            have h4 := HRI.out.lt y
            have eO := Lib.hid (i64_and_nat (ns.getD x 0) (ns.getD y 0) (by omega) (by omega))
            have eA := Lib.hid (i64_and_nat ((inv ns).getD x 0) ((inv ns).getD y 0) (by omega) (by omega))
            have hmA : (inv ns).getD x 0 &&& (inv ns).getD y 0 < 2 ^ ns.length := Nat.lt_of_le_of_lt Nat.and_le_left (by have := getD_lt HRI.out.2 x; rwa [inv_length] at this)
            have hmO : ns.getD x 0 &&& ns.getD y 0 < 2 ^ ns.length := Nat.lt_of_le_of_lt Nat.and_le_left (getD_lt HR.out.2 x)
            have HcA := Lib.hid (fun W hW => HGb.out (.slice (some ⟨d, q, none⟩) ns.length c6) ((inv ns).getD x 0 &&& (inv ns).getD y 0) W hmA hW)
            have HcO := Lib.hid (fun W hW => HGo.out (ns.getD x 0 &&& ns.getD y 0) W hmO hW)
            have efA : lwI (inv ns) ((inv ns).getD x 0 &&& (inv ns).getD y 0) = fA ns x y := rfl
            have efO : lwI ns (ns.getD x 0 &&& ns.getD y 0) = fO ns x y := rfl
            have GA := Lib.hid (fun hh => gtI_ok (ns := inv ns) (m := (inv ns).getD x 0 &&& (inv ns).getD y 0) hh)
            have GO := Lib.hid (fun hh => gtI_ok (ns := ns) (m := ns.getD x 0 &&& ns.getD y 0) hh)
            rw [efA] at HcA GA
            rw [efO] at HcO GO
            clear efA efO hmA hmO
            have EFB : Hid (¬ (0 ≤ fA ns x y ∧ 0 ≤ fO ns x y) → ¬ hpOk ns) := Lib.hid (fun hn hk => hn (hk.2.2.1 x hlt y hlt2))
            have HGN : Hid (0 ≤ fA ns x y ∧ 0 ≤ fO ns x y → ∀ y', y' < y + 1 → 0 ≤ fA ns x y' ∧ 0 ≤ fO ns x y') := Lib.hid (fun hk y' hy' => by
              rcases Nat.lt_or_ge y' y with h1 | h1
              · exact HG2.out y' h1
              · obtain rfl : y' = y := by omega
                exact hk)
            have RA := Lib.hid (fun z => rowZ_set (fA ns) x ns.length y hlt2 z)
            have RO := Lib.hid (fun z => rowZ_set (fO ns) x ns.length y hlt2 z)
            have RLA := Lib.hid (rowZ_length (fA ns) x ns.length y hy)
            have RLO := Lib.hid (rowZ_length (fO ns) x ns.length y hy)
            generalize fA ns x y = ra at *
            generalize fO ns x y = ro at *
            generalize gtI (inv ns) ((inv ns).getD x 0 &&& (inv ns).getD y 0) = ga at *
            generalize gtI ns (ns.getD x 0 &&& ns.getD y 0) = go at *
            generalize ns.getD x 0 = m1 at *
            generalize ns.getD y 0 = m2 at *
            generalize (inv ns).getD x 0 = k1 at *
            generalize (inv ns).getD y 0 = k2 at *
            clear h1 h2 h3 h4
            have zA := (OP.out.block g1 rfl).1
            have zO := (OQ.out.block g2 rfl).1
            go_upto_region 15 with fail
            have hI : (fun X : World => X.cell? ⟨d, q + x, none⟩ = some (.int .i64 (k1 : Int)) ∧ X.cell? ⟨d, q + y, none⟩ = some (.int .i64 (k2 : Int))) (World.drew w10) := ⟨hdx, hdy⟩
            refine wp_region_sched (fun X : World => X.cell? ⟨d, q + x, none⟩ = some (.int .i64 (k1 : Int)) ∧ X.cell? ⟨d, q + y, none⟩ = some (.int .i64 (k2 : Int))) 18 [0, 1, 2, 3, 4, 5, 6, 7, 8, 9, 10, 11, 13, 14, 15, 16] (List.range 18) (by kernel_rfl) (by kernel_rfl) hI ?_
            repeat
              apply wpSched_q rfl rfl
              case h =>
                intro w' hI K hK
                have c1 : w'.cell? ⟨d, q + x, none⟩ = some (.int .i64 (k1 : Int)) := hI.1
                have c2 : w'.cell? ⟨d, q + y, none⟩ = some (.int .i64 (k2 : Int)) := hI.2
                simp only [quietV, stillV]
                go_simp
                exact hK
              go_simp
            rw [eA.out]
            refine wpSched_r rfl rfl ?_ hI
            intro K hK _
            go_simp
            refine (HcA.out _ (HU10.out.below (Below.refl w10.heap.size w10).drew)).mono ?_
            rintro e w11 ⟨rfl, hb⟩
            have hb11 : Below w10.heap.size w10 w11 := ((Below.refl w10.heap.size w10).drew).trans hb
            clear hI
            have hI : (fun X : World => X.cell? ⟨d, q + x, none⟩ = some (.int .i64 (k1 : Int)) ∧ X.cell? ⟨d, q + y, none⟩ = some (.int .i64 (k2 : Int))) w11 := ⟨(hb11.cell (p := ⟨d, q + x, none⟩) hdl).trans hdx, (hb11.cell (p := ⟨d, q + y, none⟩) hdl).trans hdy⟩
            have P11 := Lib.hid (OP.out.below hb11)
            have Q11 := Lib.hid (OQ.out.below hb11)
            have B11 := Lib.hid (bthen B10.out hb11)
            have hdg : d ≠ g1 := by
              have := B9.out.size
              have h1 : d < w9.heap.size := hdl9
              omega
            have hcx11 := (hb11.cell (p := ⟨b, o + x, none⟩) hbl).trans hcx
            have hcy11 := (hb11.cell (p := ⟨b, o + y, none⟩) hbl).trans hcy
            refine hK _ _ hI ?_
            clear hK K hb hdx hdy hcx hcy
            repeat
              apply wpSched_q rfl rfl
              case h =>
                intro w' hI K hK
                have c1 : w'.cell? ⟨d, q + x, none⟩ = some (.int .i64 (k1 : Int)) := hI.1
                have c2 : w'.cell? ⟨d, q + y, none⟩ = some (.int .i64 (k2 : Int)) := hI.2
                simp only [quietV, stillV]
                go_simp
                exact hK
              go_simp
            obtain ⟨cj, fj, -, -⟩ := P11.out.at1 rfl (j := y) (by rw [RLA.out]; exact hlt2) rfl
            refine wpSched_r rfl rfl ?_ hI
            intro K hK _
            go_simp
            refine hK _ _ ⟨(World.cell?_setCell_far _ _ _ _ (show g1 ≠ d from fun e => hdg e.symm)).trans hI.1, (World.cell?_setCell_far _ _ _ _ (show g1 ≠ d from fun e => hdg e.symm)).trans hI.2⟩ ?_
            clear hK K hI cj fj
            refine wpSched_nil ?_
            try simp only [List.drop_succ_cons, List.drop_zero, List.drop_nil]
            have hbg : b ≠ g1 := by omega
            have P12 := Lib.hid (P11.out.set1 (j := y) (x := ga) (u := .int .i64 ga) rfl rfl (by rw [RLA.out]; exact hlt2))
            have Q12 := Lib.hid (Q11.out.far (p := ⟨g1, y, none⟩) (fun e => HNE.out (by injection e with e; exact e.symm)) (.int .i64 ga))
            have B12 := Lib.hid (B11.out.setCell (p := ⟨g1, y, none⟩) zA (.int .i64 ga))
            have hcx12 := (World.cell?_setCell_far w11 ⟨g1, y, none⟩ ⟨b, o + x, none⟩ (.int .i64 ga) (fun e => hbg e.symm)).trans hcx11
            have hcy12 := (World.cell?_setCell_far w11 ⟨g1, y, none⟩ ⟨b, o + y, none⟩ (.int .i64 ga) (fun e => hbg e.symm)).trans hcy11
            have hbl12 : b < (w11.setCell ⟨g1, y, none⟩ (.int .i64 ga)).heap.size := Nat.lt_of_lt_of_le hbl9 B12.out.size
            clear P11 Q11 B11 hcx11 hcy11 OP OQ hdg hdl hdl9 hbl
            generalize (w11.setCell ⟨g1, y, none⟩ (.int .i64 ga)) = w12 at *
            go_upto_region 16 with fail
            have hI : (fun X : World => X.cell? ⟨b, o + x, none⟩ = some (.int .i64 (m1 : Int)) ∧ X.cell? ⟨b, o + y, none⟩ = some (.int .i64 (m2 : Int))) (World.drew w12) := ⟨hcx12, hcy12⟩
            refine wp_region_sched (fun X : World => X.cell? ⟨b, o + x, none⟩ = some (.int .i64 (m1 : Int)) ∧ X.cell? ⟨b, o + y, none⟩ = some (.int .i64 (m2 : Int))) 18 [0, 1, 2, 3, 4, 5, 6, 7, 8, 9, 10, 11, 13, 14, 15, 16] (List.range 18) (by kernel_rfl) (by kernel_rfl) hI ?_
            repeat
              apply wpSched_q rfl rfl
              case h =>
                intro w' hI K hK
                have c1 : w'.cell? ⟨b, o + x, none⟩ = some (.int .i64 (m1 : Int)) := hI.1
                have c2 : w'.cell? ⟨b, o + y, none⟩ = some (.int .i64 (m2 : Int)) := hI.2
                simp only [quietV, stillV]
                go_simp
                exact hK
              go_simp
            rw [eO.out]
            refine wpSched_r rfl rfl ?_ hI
            intro K hK _
            go_simp
            refine (HcO.out _ ((HX.out.below (bthen B9.out B12.out)).below (Below.refl w12.heap.size w12).drew)).mono ?_
            rintro e w13 ⟨rfl, hb⟩
            have hb13 : Below w12.heap.size w12 w13 := ((Below.refl w12.heap.size w12).drew).trans hb
            clear hI
            have hI : (fun X : World => X.cell? ⟨b, o + x, none⟩ = some (.int .i64 (m1 : Int)) ∧ X.cell? ⟨b, o + y, none⟩ = some (.int .i64 (m2 : Int))) w13 := ⟨(hb13.cell (p := ⟨b, o + x, none⟩) hbl12).trans hcx12, (hb13.cell (p := ⟨b, o + y, none⟩) hbl12).trans hcy12⟩
            have P13 := Lib.hid (P12.out.below hb13)
            have Q13 := Lib.hid (Q12.out.below hb13)
            have B13 := Lib.hid (bthen B12.out hb13)
            have hbg2 : b ≠ g2 := by omega
            refine hK _ _ hI ?_
            clear hK K hb hcx12 hcy12 P12 Q12 B12
            repeat
              apply wpSched_q rfl rfl
              case h =>
                intro w' hI K hK
                have c1 : w'.cell? ⟨b, o + x, none⟩ = some (.int .i64 (m1 : Int)) := hI.1
                have c2 : w'.cell? ⟨b, o + y, none⟩ = some (.int .i64 (m2 : Int)) := hI.2
                simp only [quietV, stillV]
                go_simp
                exact hK
              go_simp
            obtain ⟨cj, fj, -, -⟩ := Q13.out.at1 rfl (j := y) (by rw [RLO.out]; exact hlt2) rfl
            refine wpSched_r rfl rfl ?_ hI
            intro K hK _
            go_simp
            refine hK _ _ ⟨(World.cell?_setCell_far _ _ _ _ (show g2 ≠ b from fun e => hbg2 e.symm)).trans hI.1, (World.cell?_setCell_far _ _ _ _ (show g2 ≠ b from fun e => hbg2 e.symm)).trans hI.2⟩ ?_
            clear hK K hI cj fj
            refine wpSched_nil ?_
            try simp only [List.drop_succ_cons, List.drop_zero, List.drop_nil]
            have Q14 := Lib.hid (Q13.out.set1 (j := y) (x := go) (u := .int .i64 go) rfl rfl (by rw [RLO.out]; exact hlt2))
            have P14 := Lib.hid (P13.out.far (p := ⟨g2, y, none⟩) (fun e => HNE.out (by injection e with e)) (.int .i64 go))
            have B14 := Lib.hid (B13.out.setCell (p := ⟨g2, y, none⟩) zO (.int .i64 go))
            clear P13 Q13 B13 hbl12 hbg hbg2 hbl9 hb13
            generalize (w13.setCell ⟨g2, y, none⟩ (.int .i64 go)) = w14 at *
            by_cases hra : 0 ≤ ra
            · by_cases hro : 0 ≤ ro
              · have E := Lib.hid (HGN.out ⟨hra, hro⟩)
                have e1 := RA.out ga (GA.out hra)
                have e2 := RO.out go (GO.out hro)
                rw [e1] at P14
                rw [e2] at Q14
                have p1 : decide (0 ≤ ra) = true := decide_eq_true hra
                have p2 : decide (0 ≤ ro) = true := decide_eq_true hro
                rw [p1, p2]
                clear e1 e2 p1 p2 hra hro
                go_wp2
                exact ⟨⟨y + 1, by omega, by go_num, P14.out, Q14.out, B14.out, E.out⟩, by simp [intOf]; omega⟩
              · have E := Lib.hid (EFB.out fun hh => hro hh.2)
                have p1 : decide (0 ≤ ra) = true := decide_eq_true hra
                have p2 : decide (0 ≤ ro) = false := decide_eq_false hro
                rw [p1, p2]
                clear p1 p2 hra hro
                have B74 := Lib.hid (bthen B9.out B14.out)
                have R := Lib.hid (R3.out.below B74.out ZR.out)
                have BL := Lib.hid (bthen BL3.out B74.out)
                have kr := R.out.cell
                have fr := R.out.frozen
                have lr := R.out.lt
                go_wp2
                refine bodyPost_ret (v := .tuple #[.agg #[.slice none 0 0, .slice none 0 0, .slice none 0 0, .int .i64 0, .int .i64 0], .bool false]) (by simp [results, Tryz.results90, go_sem, kr, fr, lr]) rfl (.inl ⟨E.out, rfl, ?_⟩)
                exact (((((BL.out.setCell (p := ⟨w.heap.size, 0, none⟩) (Nat.le_refl _) _).setCell (p := ⟨w.heap.size, 1, none⟩) (Nat.le_refl _) _).setCell (p := ⟨w.heap.size, 2, none⟩) (Nat.le_refl _) _).setCell (p := ⟨w.heap.size, 3, none⟩) (Nat.le_refl _) _).setCell (p := ⟨w.heap.size, 4, none⟩) (Nat.le_refl _) _)
            · have E := Lib.hid (EFB.out fun hh => hra hh.1)
              have p1 : decide (0 ≤ ra) = false := decide_eq_false hra
              rw [p1]
              clear p1 hra
              have B74 := Lib.hid (bthen B9.out B14.out)
              have R := Lib.hid (R3.out.below B74.out ZR.out)
              have BL := Lib.hid (bthen BL3.out B74.out)
              have kr := R.out.cell
              have fr := R.out.frozen
              have lr := R.out.lt
              go_wp2
              refine bodyPost_ret (v := .tuple #[.agg #[.slice none 0 0, .slice none 0 0, .slice none 0 0, .int .i64 0, .int .i64 0], .bool false]) (by simp [results, Tryz.results90, go_sem, kr, fr, lr]) rfl (.inl ⟨E.out, rfl, ?_⟩)
              exact (((((BL.out.setCell (p := ⟨w.heap.size, 0, none⟩) (Nat.le_refl _) _).setCell (p := ⟨w.heap.size, 1, none⟩) (Nat.le_refl _) _).setCell (p := ⟨w.heap.size, 2, none⟩) (Nat.le_refl _) _).setCell (p := ⟨w.heap.size, 3, none⟩) (Nat.le_refl _) _).setCell (p := ⟨w.heap.size, 4, none⟩) (Nat.le_refl _) _)
          · obtain rfl : y = ns.length := by omega
            have HGX : Hid (∀ x', x' < x + 1 → ∀ y, y < ns.length → 0 ≤ fA ns x' y ∧ 0 ≤ fO ns x' y) := Lib.hid (fun x' hx' y hy => by
              rcases Nat.lt_or_ge x' x with h1 | h1
              · exact HG.out x' h1 y hy
              · obtain rfl : x' = x := by omega
                exact HG2.out y hy)
            have zA := (OP.out.block g1 rfl)
            have zO := (OQ.out.block g2 rfl)
            have PA0 : Hid (Pd (w7.heap.size + 1) (World.drew w10) SA SO g1 ns.length (rowI (fA ns) x ns.length)) := Lib.hid ⟨by have := OP.out.sl; rw [rowZ_end] at this; exact this.below (Below.refl w10.heap.size w10).drew, by omega, zA.2, fun hS => by have := (TW.out.a.1 _ hS).2; omega, fun hS => by have := (TW.out.b.1 _ hS).2; omega⟩
            have PO0 : Hid (Pd (w7.heap.size + 1) (World.drew w10) SA SO g2 ns.length (rowI (fO ns) x ns.length)) := Lib.hid ⟨by have := OQ.out.sl; rw [rowZ_end] at this; exact this.below (Below.refl w10.heap.size w10).drew, by omega, zO.2, fun hS => by have := (TW.out.a.1 _ hS).2; omega, fun hS => by have := (TW.out.b.1 _ hS).2; omega⟩
            have T0 := Lib.hid ((TW.out.below B10.out).below (Below.refl w10.heap.size w10).drew)
            have K0 : Hid (Blk (World.drew w10) _ _ _) := Lib.hid ((G.out.below B10.out G.out.lt).below (Below.refl w10.heap.size w10).drew (Nat.lt_of_lt_of_le G.out.lt B10.out.size))
            have BW0 := Lib.hid ((bthen B9.out B10.out).drew)
            have ZA : Hid (∀ k, av.ownBlock = some k → k < w10.heap.size) := Lib.hid (fun k e => by
              obtain ⟨-, -, -, q3, -⟩ := T0.out.pushA PA0.out
              exact (q3 k e).2)
            have ZO : Hid (∀ k, ov.ownBlock = some k → k < w10.heap.size) := Lib.hid (fun k e => by
              obtain ⟨-, -, -, q3, -⟩ := T0.out.swap.pushA PO0.out.swap
              exact (q3 k e).2)
            have hTA := tabI_length (fA ns) ns.length x
            have hTO := tabI_length (fO ns) ns.length x
            obtain ⟨Aa, ca, hva⟩ := T0.out.a.opn
            obtain ⟨Ao, co, hvo⟩ := T0.out.b.opn
            rw [hTA] at hva
            rw [hTO] at hvo
            subst hva
            subst hvo
            clear hTA hTO zA zO OP OQ TW G HO1 HO2 HBV HG HG2
            go_upto_region 20 with fail
            have hI := K0.out
            refine wp_region_tree (fun X : World => Blk X w7.heap.size 26 #[.slice Aa x ca, .slice Ao x co, .slice none 0 0, .int .i64 0, .int .i64 0]) 11 (.q 0 (.q 1 (.q 2 (.q 5 (.q 6 (.q 7 (.rr 3 8 (.rr 4 8 (.q 10 (.r 8 (.r 9 .fin))) (.r 4 (.q 10 (.r 9 .fin)))) (.r 3 (.r 4 (.q 10 (.r 9 .fin)))))))))))  (by kernel_rfl) (by kernel_rfl) hI ?_
            have z0 : w10.heap.size ≤ (World.drew w10).heap.size := Nat.le_refl _
            generalize World.drew w10 = Y0 at *
            repeat
              apply wpT_q rfl
              case h =>
                intro w' hI K hK
                have c0 : w'.cell? ⟨w7.heap.size, 0, none⟩ = some (.slice Aa x ca) := hI.cell 0
                have c1 : w'.cell? ⟨w7.heap.size, 1, none⟩ = some (.slice Ao x co) := hI.cell 1
                simp only [quietV, stillV]
                go_simp
                exact hK
              go_simp
            refine wpT_rr rfl rfl ?_ ?_ hI
            · intro K hK hI
              go_simp
              have hbA := below_alloc' Y0 (.cells #[.slice (some ⟨g1, 0, none⟩) ns.length ns.length] 27)
              have T1 := Lib.hid (T0.out.below hbA)
              have PA1 := Lib.hid (PA0.out.below hbA)
              have PO1 := Lib.hid (PO0.out.below hbA)
              have K1 := Lib.hid (K0.out.alloc (.cells #[.slice (some ⟨g1, 0, none⟩) ns.length ns.length] 27))
              have BW1 := Lib.hid (bthen BW0.out hbA)
              have NA1 : Hid (Sl cH (World.alloc Y0 (.cells #[.slice (some ⟨g1, 0, none⟩) ns.length ns.length] 27)) (.slice (some ⟨Y0.heap.size, 0, none⟩) 1 1) [(⟨some ⟨g1, 0, none⟩, ns.length, ns.length⟩ : Hd)]) := Lib.hid (Ow.lit (K := cH) (w := Y0) (e := 27) (B := 0) (cs := #[.slice (some ⟨g1, 0, none⟩) ns.length ns.length]) (n := 1) [(⟨some ⟨g1, 0, none⟩, ns.length, ns.length⟩ : Hd)] rfl rfl (Nat.zero_le _)).sl
              have z1 := hbA.size
              clear hbA
              refine hK _ _ K1.out ?_
              clear hK K hI
              generalize World.alloc Y0 (.cells #[.slice (some ⟨g1, 0, none⟩) ns.length ns.length] 27) = Y1 at *
              refine wpT_rr rfl rfl ?_ ?_ K1.out
              · intro K hK hI
                rw [if_pos (show Region.wanted _ _ = true from rfl)]
                obtain ⟨hs2, q1, q2, q3, q4⟩ := T1.out.pushA PA1.out
                have hl2 : hs2.length = x := by rw [q2, tabI_length]
                have lk := K1.out.lt
                refine ap_any_wpM (K := cH) Y1 ty_intss _ _ rfl (B := w7.heap.size + 1) rfl q1 (news := [(⟨some ⟨g1, 0, none⟩, ns.length, ns.length⟩ : Hd)]) rfl rfl (slRd NA1.out) (by rw [hl2, List.length_singleton]; omega) (by omega) ?_
                intro v2 Y2 ho hg hbB hat
                obtain ⟨S2, t1, p1⟩ := q4 _ _ ho hg hat
                have T2 := Lib.hid t1
                have PO2 := Lib.hid (p1 g2 _ _ PO1.out (fun e => HNE.out e.symm))
                have K2 := Lib.hid (K1.out.grown hg (fun e => by have h5 := (q3 _ e.symm).1; omega))
                have BW2 := Lib.hid (BW1.out.trans (hbB.mono (Nat.le_succ _)))
                have z2 := hg.size
                obtain ⟨W2, d2, hv2⟩ := ho.opn
                rw [List.length_append, List.length_singleton, hl2] at hv2
                subst hv2
                clear ho hg hbB hat q1 q2 q3 q4 t1 p1 lk
                refine hK _ _ K2.out ?_
                clear hK K hI
                repeat
                  apply wpT_q rfl
                  case h =>
                    intro w' hI K hK
                    simp only [quietV, stillV]
                    go_simp
                    exact hK
                  go_simp
                refine wpT_r rfl ?_ K2.out
                intro K hK _
                go_simp
                have hbA := below_alloc' Y2 (.cells #[.slice (some ⟨g2, 0, none⟩) ns.length ns.length] 27)
                have T3 := Lib.hid (T2.out.below hbA)
                have PO3 := Lib.hid (PO2.out.below hbA)
                have K3 := Lib.hid (K2.out.alloc (.cells #[.slice (some ⟨g2, 0, none⟩) ns.length ns.length] 27))
                have BW3 := Lib.hid (bthen BW2.out hbA)
                have NO3 : Hid (Sl cH (World.alloc Y2 (.cells #[.slice (some ⟨g2, 0, none⟩) ns.length ns.length] 27)) (.slice (some ⟨Y2.heap.size, 0, none⟩) 1 1) [(⟨some ⟨g2, 0, none⟩, ns.length, ns.length⟩ : Hd)]) := Lib.hid (Ow.lit (K := cH) (w := Y2) (e := 27) (B := 0) (cs := #[.slice (some ⟨g2, 0, none⟩) ns.length ns.length]) (n := 1) [(⟨some ⟨g2, 0, none⟩, ns.length, ns.length⟩ : Hd)] rfl rfl (Nat.zero_le _)).sl
                have z3 := hbA.size
                clear hbA
                refine hK _ _ K3.out ?_
                clear hK K
                generalize World.alloc Y2 (.cells #[.slice (some ⟨g2, 0, none⟩) ns.length ns.length] 27) = Y3 at *
                refine wpT_r rfl ?_ K3.out
                intro K hK _
                rw [if_pos (show Region.wanted _ _ = true from rfl)]
                obtain ⟨hs4, q1, q2, q3, q4⟩ := T3.out.swap.pushA PO3.out.swap
                have hl4 : hs4.length = x := by rw [q2, tabI_length]
                have lk := K3.out.lt
                refine ap_any_wpM (K := cH) Y3 ty_intss _ _ rfl (B := w7.heap.size + 1) rfl q1 (news := [(⟨some ⟨g2, 0, none⟩, ns.length, ns.length⟩ : Hd)]) rfl rfl (slRd NO3.out) (by rw [hl4, List.length_singleton]; omega) (by omega) ?_
                intro v4 Y4 ho hg hbB hat
                obtain ⟨S4, t1, p1⟩ := q4 _ _ ho hg hat
                have T4 := Lib.hid t1.swap
                have K4 := Lib.hid (K3.out.grown hg (fun e => by have h5 := (q3 _ e.symm).1; omega))
                have BW4 := Lib.hid (BW3.out.trans (hbB.mono (Nat.le_succ _)))
                have z4 := hg.size
                obtain ⟨W4, d4, hv4⟩ := ho.opn
                rw [List.length_append, List.length_singleton, hl4] at hv4
                subst hv4
                clear ho hg hbB hat q1 q2 q3 q4 t1 p1 lk
                refine hK _ _ K4.out ?_
                clear hK K
                refine wpT_fin ?_
                try simp only [List.drop_succ_cons, List.drop_zero, List.drop_nil]
                have U1 := Lib.hid ((T4.out.set (p := ⟨w7.heap.size, 0, none⟩) (Nat.lt_succ_self _) (.slice W2 (x + 1) d2)).set (p := ⟨w7.heap.size, 1, none⟩) (Nat.lt_succ_self _) (.slice W4 (x + 1) d4))
                have U2 := Lib.hid ((K4.out.set_ 0 (.slice W2 (x + 1) d2)).set_ 1 (.slice W4 (x + 1) d4))
                have U3 := Lib.hid ((BW4.out.setCell (p := ⟨w7.heap.size, 0, none⟩) (Nat.le_refl _) (.slice W2 (x + 1) d2)).setCell (p := ⟨w7.heap.size, 1, none⟩) (Nat.le_refl _) (.slice W4 (x + 1) d4))
                rw [← tabI_succ, ← tabI_succ] at U1
                have kg := K4.out.cell
                have fg := K4.out.frozen
                have lg := K4.out.lt
                clear T4 K4 BW4
                go_wp2
                exact ⟨⟨x + 1, by omega, by go_num, ⟨_, _, _, _, U1.out, by have := U2.out; simpa using this⟩, U3.out, HGX.out⟩, by simp [intOf]; omega⟩
              · intro K hK hI
                go_simp
                have hbA := below_alloc' Y1 (.cells #[.slice (some ⟨g2, 0, none⟩) ns.length ns.length] 27)
                have T2 := Lib.hid (T1.out.below hbA)
                have PA2 := Lib.hid (PA1.out.below hbA)
                have PO2 := Lib.hid (PO1.out.below hbA)
                have NA2 := Lib.hid (NA1.out.below hbA)
                have K2 := Lib.hid (K1.out.alloc (.cells #[.slice (some ⟨g2, 0, none⟩) ns.length ns.length] 27))
                have BW2 := Lib.hid (bthen BW1.out hbA)
                have NO2 : Hid (Sl cH (World.alloc Y1 (.cells #[.slice (some ⟨g2, 0, none⟩) ns.length ns.length] 27)) (.slice (some ⟨Y1.heap.size, 0, none⟩) 1 1) [(⟨some ⟨g2, 0, none⟩, ns.length, ns.length⟩ : Hd)]) := Lib.hid (Ow.lit (K := cH) (w := Y1) (e := 27) (B := 0) (cs := #[.slice (some ⟨g2, 0, none⟩) ns.length ns.length]) (n := 1) [(⟨some ⟨g2, 0, none⟩, ns.length, ns.length⟩ : Hd)] rfl rfl (Nat.zero_le _)).sl
                have z2 := hbA.size
                clear hbA
                refine hK _ _ K2.out ?_
                clear hK K hI
                generalize World.alloc Y1 (.cells #[.slice (some ⟨g2, 0, none⟩) ns.length ns.length] 27) = Y2 at *
                refine wpT_r rfl ?_ K2.out
                intro K hK _
                rw [if_pos (show Region.wanted _ _ = true from rfl)]
                obtain ⟨hs3, q1, q2, q3, q4⟩ := T2.out.pushA PA2.out
                have hl3 : hs3.length = x := by rw [q2, tabI_length]
                have lk := K2.out.lt
                refine ap_any_wpM (K := cH) Y2 ty_intss _ _ rfl (B := w7.heap.size + 1) rfl q1 (news := [(⟨some ⟨g1, 0, none⟩, ns.length, ns.length⟩ : Hd)]) rfl rfl (slRd NA2.out) (by rw [hl3, List.length_singleton]; omega) (by omega) ?_
                intro v3 Y3 ho hg hbB hat
                obtain ⟨S3, t1, p1⟩ := q4 _ _ ho hg hat
                have T3 := Lib.hid t1
                have PO3 := Lib.hid (p1 g2 _ _ PO2.out (fun e => HNE.out e.symm))
                have NO3 := Lib.hid (NO2.out.grown hg (.inr (fun e => by have h5 : Y1.heap.size < w10.heap.size := ZA.out _ e.symm; omega)))
                have K3 := Lib.hid (K2.out.grown hg (fun e => by have h5 := (q3 _ e.symm).1; omega))
                have BW3 := Lib.hid (BW2.out.trans (hbB.mono (Nat.le_succ _)))
                have z3 := hg.size
                obtain ⟨W3, d3, hv3⟩ := ho.opn
                rw [List.length_append, List.length_singleton, hl3] at hv3
                subst hv3
                clear ho hg hbB hat q1 q2 q3 q4 t1 p1 lk
                refine hK _ _ K3.out ?_
                clear hK K
                repeat
                  apply wpT_q rfl
                  case h =>
                    intro w' hI K hK
                    simp only [quietV, stillV]
                    go_simp
                    exact hK
                  go_simp
                refine wpT_r rfl ?_ K3.out
                intro K hK _
                rw [if_pos (show Region.wanted _ _ = true from rfl)]
                obtain ⟨hs4, q1, q2, q3, q4⟩ := T3.out.swap.pushA PO3.out.swap
                have hl4 : hs4.length = x := by rw [q2, tabI_length]
                have lk := K3.out.lt
                refine ap_any_wpM (K := cH) Y3 ty_intss _ _ rfl (B := w7.heap.size + 1) rfl q1 (news := [(⟨some ⟨g2, 0, none⟩, ns.length, ns.length⟩ : Hd)]) rfl rfl (slRd NO3.out) (by rw [hl4, List.length_singleton]; omega) (by omega) ?_
                intro v4 Y4 ho hg hbB hat
                obtain ⟨S4, t1, p1⟩ := q4 _ _ ho hg hat
                have T4 := Lib.hid t1.swap
                have K4 := Lib.hid (K3.out.grown hg (fun e => by have h5 := (q3 _ e.symm).1; omega))
                have BW4 := Lib.hid (BW3.out.trans (hbB.mono (Nat.le_succ _)))
                have z4 := hg.size
                obtain ⟨W4, d4, hv4⟩ := ho.opn
                rw [List.length_append, List.length_singleton, hl4] at hv4
                subst hv4
                clear ho hg hbB hat q1 q2 q3 q4 t1 p1 lk
                refine hK _ _ K4.out ?_
                clear hK K
                refine wpT_fin ?_
                try simp only [List.drop_succ_cons, List.drop_zero, List.drop_nil]
                have U1 := Lib.hid ((T4.out.set (p := ⟨w7.heap.size, 0, none⟩) (Nat.lt_succ_self _) (.slice W3 (x + 1) d3)).set (p := ⟨w7.heap.size, 1, none⟩) (Nat.lt_succ_self _) (.slice W4 (x + 1) d4))
                have U2 := Lib.hid ((K4.out.set_ 0 (.slice W3 (x + 1) d3)).set_ 1 (.slice W4 (x + 1) d4))
                have U3 := Lib.hid ((BW4.out.setCell (p := ⟨w7.heap.size, 0, none⟩) (Nat.le_refl _) (.slice W3 (x + 1) d3)).setCell (p := ⟨w7.heap.size, 1, none⟩) (Nat.le_refl _) (.slice W4 (x + 1) d4))
                rw [← tabI_succ, ← tabI_succ] at U1
                have kg := K4.out.cell
                have fg := K4.out.frozen
                have lg := K4.out.lt
                clear T4 K4 BW4
                go_wp2
                exact ⟨⟨x + 1, by omega, by go_num, ⟨_, _, _, _, U1.out, by have := U2.out; simpa using this⟩, U3.out, HGX.out⟩, by simp [intOf]; omega⟩
            · intro K hK hI
              go_simp
              have hbA := below_alloc' Y0 (.cells #[.slice (some ⟨g2, 0, none⟩) ns.length ns.length] 27)
              have T1 := Lib.hid (T0.out.below hbA)
              have PA1 := Lib.hid (PA0.out.below hbA)
              have PO1 := Lib.hid (PO0.out.below hbA)
              have K1 := Lib.hid (K0.out.alloc (.cells #[.slice (some ⟨g2, 0, none⟩) ns.length ns.length] 27))
              have BW1 := Lib.hid (bthen BW0.out hbA)
              have NO1 : Hid (Sl cH (World.alloc Y0 (.cells #[.slice (some ⟨g2, 0, none⟩) ns.length ns.length] 27)) (.slice (some ⟨Y0.heap.size, 0, none⟩) 1 1) [(⟨some ⟨g2, 0, none⟩, ns.length, ns.length⟩ : Hd)]) := Lib.hid (Ow.lit (K := cH) (w := Y0) (e := 27) (B := 0) (cs := #[.slice (some ⟨g2, 0, none⟩) ns.length ns.length]) (n := 1) [(⟨some ⟨g2, 0, none⟩, ns.length, ns.length⟩ : Hd)] rfl rfl (Nat.zero_le _)).sl
              have z1 := hbA.size
              clear hbA
              refine hK _ _ K1.out ?_
              clear hK K hI
              generalize World.alloc Y0 (.cells #[.slice (some ⟨g2, 0, none⟩) ns.length ns.length] 27) = Y1 at *
              refine wpT_r rfl ?_ K1.out
              intro K hK _
              go_simp
              have hbA := below_alloc' Y1 (.cells #[.slice (some ⟨g1, 0, none⟩) ns.length ns.length] 27)
              have T2 := Lib.hid (T1.out.below hbA)
              have PA2 := Lib.hid (PA1.out.below hbA)
              have PO2 := Lib.hid (PO1.out.below hbA)
              have NO2 := Lib.hid (NO1.out.below hbA)
              have K2 := Lib.hid (K1.out.alloc (.cells #[.slice (some ⟨g1, 0, none⟩) ns.length ns.length] 27))
              have BW2 := Lib.hid (bthen BW1.out hbA)
              have NA2 : Hid (Sl cH (World.alloc Y1 (.cells #[.slice (some ⟨g1, 0, none⟩) ns.length ns.length] 27)) (.slice (some ⟨Y1.heap.size, 0, none⟩) 1 1) [(⟨some ⟨g1, 0, none⟩, ns.length, ns.length⟩ : Hd)]) := Lib.hid (Ow.lit (K := cH) (w := Y1) (e := 27) (B := 0) (cs := #[.slice (some ⟨g1, 0, none⟩) ns.length ns.length]) (n := 1) [(⟨some ⟨g1, 0, none⟩, ns.length, ns.length⟩ : Hd)] rfl rfl (Nat.zero_le _)).sl
              have z2 := hbA.size
              clear hbA
              refine hK _ _ K2.out ?_
              clear hK K
              generalize World.alloc Y1 (.cells #[.slice (some ⟨g1, 0, none⟩) ns.length ns.length] 27) = Y2 at *
              refine wpT_r rfl ?_ K2.out
              intro K hK _
              rw [if_pos (show Region.wanted _ _ = true from rfl)]
              obtain ⟨hs3, q1, q2, q3, q4⟩ := T2.out.pushA PA2.out
              have hl3 : hs3.length = x := by rw [q2, tabI_length]
              have lk := K2.out.lt
              refine ap_any_wpM (K := cH) Y2 ty_intss _ _ rfl (B := w7.heap.size + 1) rfl q1 (news := [(⟨some ⟨g1, 0, none⟩, ns.length, ns.length⟩ : Hd)]) rfl rfl (slRd NA2.out) (by rw [hl3, List.length_singleton]; omega) (by omega) ?_
              intro v3 Y3 ho hg hbB hat
              obtain ⟨S3, t1, p1⟩ := q4 _ _ ho hg hat
              have T3 := Lib.hid t1
              have PO3 := Lib.hid (p1 g2 _ _ PO2.out (fun e => HNE.out e.symm))
              have NO3 := Lib.hid (NO2.out.grown hg (.inr (fun e => by have h5 : Y0.heap.size < w10.heap.size := ZA.out _ e.symm; omega)))
              have K3 := Lib.hid (K2.out.grown hg (fun e => by have h5 := (q3 _ e.symm).1; omega))
              have BW3 := Lib.hid (BW2.out.trans (hbB.mono (Nat.le_succ _)))
              have z3 := hg.size
              obtain ⟨W3, d3, hv3⟩ := ho.opn
              rw [List.length_append, List.length_singleton, hl3] at hv3
              subst hv3
              clear ho hg hbB hat q1 q2 q3 q4 t1 p1 lk
              refine hK _ _ K3.out ?_
              clear hK K
              repeat
                apply wpT_q rfl
                case h =>
                  intro w' hI K hK
                  simp only [quietV, stillV]
                  go_simp
                  exact hK
                go_simp
              refine wpT_r rfl ?_ K3.out
              intro K hK _
              rw [if_pos (show Region.wanted _ _ = true from rfl)]
              obtain ⟨hs4, q1, q2, q3, q4⟩ := T3.out.swap.pushA PO3.out.swap
              have hl4 : hs4.length = x := by rw [q2, tabI_length]
              have lk := K3.out.lt
              refine ap_any_wpM (K := cH) Y3 ty_intss _ _ rfl (B := w7.heap.size + 1) rfl q1 (news := [(⟨some ⟨g2, 0, none⟩, ns.length, ns.length⟩ : Hd)]) rfl rfl (slRd NO3.out) (by rw [hl4, List.length_singleton]; omega) (by omega) ?_
              intro v4 Y4 ho hg hbB hat
              obtain ⟨S4, t1, p1⟩ := q4 _ _ ho hg hat
              have T4 := Lib.hid t1.swap
              have K4 := Lib.hid (K3.out.grown hg (fun e => by have h5 := (q3 _ e.symm).1; omega))
              have BW4 := Lib.hid (BW3.out.trans (hbB.mono (Nat.le_succ _)))
              have z4 := hg.size
              obtain ⟨W4, d4, hv4⟩ := ho.opn
              rw [List.length_append, List.length_singleton, hl4] at hv4
              subst hv4
              clear ho hg hbB hat q1 q2 q3 q4 t1 p1 lk
              refine hK _ _ K4.out ?_
              clear hK K
              refine wpT_fin ?_
              try simp only [List.drop_succ_cons, List.drop_zero, List.drop_nil]
              have U1 := Lib.hid ((T4.out.set (p := ⟨w7.heap.size, 0, none⟩) (Nat.lt_succ_self _) (.slice W3 (x + 1) d3)).set (p := ⟨w7.heap.size, 1, none⟩) (Nat.lt_succ_self _) (.slice W4 (x + 1) d4))
              have U2 := Lib.hid ((K4.out.set_ 0 (.slice W3 (x + 1) d3)).set_ 1 (.slice W4 (x + 1) d4))
              have U3 := Lib.hid ((BW4.out.setCell (p := ⟨w7.heap.size, 0, none⟩) (Nat.le_refl _) (.slice W3 (x + 1) d3)).setCell (p := ⟨w7.heap.size, 1, none⟩) (Nat.le_refl _) (.slice W4 (x + 1) d4))
              rw [← tabI_succ, ← tabI_succ] at U1
              have kg := K4.out.cell
              have fg := K4.out.frozen
              have lg := K4.out.lt
              clear T4 K4 BW4
              go_wp2
              exact ⟨⟨x + 1, by omega, by go_num, ⟨_, _, _, _, U1.out, by have := U2.out; simpa using this⟩, U3.out, HGX.out⟩, by simp [intOf]; omega⟩
    · obtain rfl : x = ns.length := by omega
      have hTA := tabI_length (fA ns) ns.length ns.length
      have hTO := tabI_length (fO ns) ns.length ns.length
      obtain ⟨Aa, ca, hva⟩ := TW.out.a.opn
      obtain ⟨Ao, co, hvo⟩ := TW.out.b.opn
      rw [hTA] at hva
      rw [hTO] at hvo
      subst hva
      subst hvo
      have TH0 : Hid (Three (w7.heap.size + 1) w9 (.slice Aa ns.length ca) (.slice Ao ns.length co) (.slice none 0 0) (tabI (fA ns) ns.length ns.length) (tabI (fO ns) ns.length ns.length) (tabI (fI ns) ns.length 0) SA SO (fun _ => False)) := Lib.hid ⟨TW.out, OwQ.nil _ _, fun k hk => hk.elim⟩
      clear hTA hTO TW
      go_wp2
      go_loopw [113] (fun i wr => ∃ x : Nat, x ≤ ns.length ∧ i = .int .i64 x ∧ (∃ iv SI, Three (w7.heap.size + 1) wr (.slice Aa ns.length ca) (.slice Ao ns.length co) iv (tabI (fA ns) ns.length ns.length) (tabI (fO ns) ns.length ns.length) (tabI (fI ns) ns.length x) SA SO SI ∧ Blk wr w7.heap.size 26 #[.slice Aa ns.length ca, .slice Ao ns.length co, iv, .int .i64 0, .int .i64 0]) ∧ Below w7.heap.size w7 wr ∧ ∀ x', x' < x → ∀ y, y < ns.length → 0 ≤ fI ns x' y) (fun i _ => ns.length - (intOf i).toNat)
      case atStart => exact ⟨0, Nat.zero_le _, rfl, ⟨_, _, TH0.out, G.out⟩, B9.out, fun x' h => by omega⟩
      case round =>
        obtain ⟨x, hx, rfl, ⟨iv, SI, TH1, G1⟩, hb, hgood⟩ := hrel
        obtain ⟨w10, hw10⟩ : ∃ W, W = wr := ⟨_, rfl⟩
        subst hw10
        have TH := Lib.hid TH1
        have GI := Lib.hid hgood
        have B10 := Lib.hid hb
        clear G HX9 HU9 hG9 B9
        have G := Lib.hid G1
        have HX10 := Lib.hid (HX.out.below hb)
        have HU10 := Lib.hid (HU.out.below hb)
        have hG10 := G.out.lt
        clear TH1 G1 hgood hb TH0
        by_cases hlt : x < ns.length
        · go_wp2_with (at_make; refine stopHere ?_)
          refine goHere ?_
          refine mk_full (K := cI) w10 ty_int64 rfl _ _ rfl w10.heap.size ns.length 0 rfl rfl rfl (by omega) (Nat.le_refl _) ?_
          intro w11 ho hg hb hz
          rw [rowZ_zero (fI ns) x] at ho
          have HO1 := Lib.hid ho
          have HBV := Lib.hid hb
          clear ho hg hb hz
          go_wp2
          go_loopw [119] (fun i wr => ∃ y : Nat, y ≤ ns.length ∧ i = .int .i64 y ∧ Ow cI 2 w10.heap.size wr (.slice (some ⟨w10.heap.size, 0, none⟩) ns.length ns.length) (rowZ (fI ns) x ns.length y) ∧ Below w10.heap.size w10 wr ∧ ∀ y', y' < y → 0 ≤ fI ns x y') (fun i _ => ns.length - (intOf i).toNat)
          case atStart => exact ⟨0, Nat.zero_le _, rfl, HO1.out, HBV.out, fun y' h => by omega⟩
          case round =>
            obtain ⟨y, hy, rfl, OP, hb, hgood2⟩ := hrel
            obtain ⟨w12, hw12⟩ : ∃ W, W = wr := ⟨_, rfl⟩
            subst hw12
            replace OP := Lib.hid OP
            have B12 := Lib.hid hb
            have HG2 := Lib.hid hgood2
            have HU12 := Lib.hid (HU10.out.below hb)
            have G12 := Lib.hid (G.out.below hb hG10)
            have TA12 := Lib.hid (TH.out.t.a.sl2.below hb)
            clear hb hgood2
            by_cases hlt2 : y < ns.length
            · go_wp2
              go_loopw [17, 123] (fun c i wr => ∃ z : Nat, z ≤ ns.length ∧ i = .int .i64 z ∧ c = .int .i64 (msk (fun z => (ns.getD (fA ns z x).toNat 0).testBit y) z : Nat) ∧ Below w12.heap.size w12 wr) (fun _ i _ => ns.length - (intOf i).toNat)
              case atStart => exact ⟨0, Nat.zero_le _, rfl, rfl, Below.refl _ _⟩
              case round =>
                obtain ⟨z, hz, rfl, rfl, hb⟩ := hrel
                obtain ⟨w13, hw13⟩ : ∃ W, W = wr := ⟨_, rfl⟩
                subst hw13
                have B13 := Lib.hid hb
                clear hb
                by_cases hlt3 : z < ns.length
                · obtain ⟨a, ha⟩ : ∃ a : Nat, fA ns z x = a := ⟨(fA ns z x).toNat, by have := (HG.out z hlt3 x hlt).1; omega⟩
                  have han : a < ns.length := by
                    have h1 : fA ns z x < (inv ns).length ∨ (inv ns).length = 0 := lwI_lt (inv ns) _
                    rw [inv_length] at h1
                    omega
                  have hMs : msk (fun z => (ns.getD (fA ns z x).toNat 0).testBit y) (z + 1) = msk (fun z => (ns.getD (fA ns z x).toNat 0).testBit y) z ||| if (ns.getD (fA ns z x).toNat 0).testBit y then 2 ^ z else 0 := rfl
                  rw [show (fA ns z x).toNat = a by omega] at hMs
                  have eIB := inv_bit ns hlt2 a
                  rw [decide_eq_true han, Bool.true_and] at eIB
                  rw [← eIB] at hMs
                  have HMs := Lib.hid hMs
                  clear hMs eIB
                  have hm := Nat.lt_of_lt_of_le (msk_lt (fun z => (ns.getD (fA ns z x).toNat 0).testBit y) z) (two_pow_30 (show z ≤ 30 by omega))
                  obtain ⟨b, o, Aj, nj, cj, hE, hbl, hcj, hsj⟩ := (TA12.out.below B13.out).at_ (k := z) (by rw [tabI_length]; exact hlt3)
                  subst hE
                  rw [tabI_get] at hsj
                  have hnj : nj = ns.length := by
                    obtain ⟨A', c', hv⟩ := hsj.opn
                    rw [rowI_length] at hv
                    injection hv
                  subst hnj
                  obtain ⟨d, q, rfl, hdl, hdx⟩ := hsj.atI (k := x) (by rw [rowI_length]; exact hlt)
                  rw [rowI_get, ha] at hdx
                  obtain ⟨b2, o2, hE, hb2, hcx⟩ := (HU12.out.below B13.out).atI (k := y) (by rw [HIL.out]; exact hlt2)
                  subst hE
                  rw [li_get] at hcx
                  have hxa := HRI.out.lt y
                  generalize (inv ns).getD y 0 = k1 at *
                  generalize msk (fun z => (ns.getD (fA ns z x).toNat 0).testBit y) z = m at *
                  have HQ : Hid (∀ n, Calls Tryz.prog 74 #[.int .i64 (k1 : Nat), .int .i64 (a : Nat)] (w13.drewN n) fun e w'' => e = .returned (.bool (k1.testBit a)) ∧ ∃ m, w'' = w13.drewN m) := Lib.hid (fun n => (impl_has k1 a _ (by omega) (by omega)).mono fun e w' hh => ⟨hh.1, n, hh.2.symm⟩)
                  have g13 := G12.out.below B13.out G12.out.lt
                  have kg := g13.cell
                  have lg := g13.lt
                  clear g13 hsj ha
                  go_wp2
                  go_quiet ((go_at_call 74; exact HQ.out _))
                  cases hbt : k1.testBit a
                  · rw [hbt, if_neg Bool.false_ne_true, Nat.or_zero] at HMs
                    clear hbt
                    go_wp2
                    exact ⟨⟨z + 1, by omega, by go_num, by rw [HMs.out], below_drewN B13.out _⟩, by simp [intOf]; omega⟩
                  · rw [hbt, if_pos rfl] at HMs
                    clear hbt
                    have e2 := i64_or_nat m (2 ^ z) (by omega) (two_pow_lt (by omega))
                    have e3 := wrap_two_pow'' (n := z) (by omega)
                    rw [← cast_two_pow] at e2
                    go_wp2
                    exact ⟨⟨z + 1, by omega, by go_num, by rw [HMs.out], below_drewN B13.out _⟩, by simp [intOf]; omega⟩
                · obtain rfl : z = ns.length := by omega
                  have hm := msk_lt (fun z => (ns.getD (fA ns z x).toNat 0).testBit y) ns.length
                  have HcI := Lib.hid (HGb.out (.slice A6 ns.length c6) (msk (fun z => (ns.getD (fA ns z x).toNat 0).testBit y) ns.length) w13 hm (HU12.out.below B13.out))
                  have efI : lwI (inv ns) (msk (fun z => (ns.getD (fA ns z x).toNat 0).testBit y) ns.length) = fI ns x y := rfl
                  have GI2 := Lib.hid (fun hh => gtI_ok (ns := inv ns) (m := msk (fun z => (ns.getD (fA ns z x).toNat 0).testBit y) ns.length) hh)
                  rw [efI] at HcI GI2
                  clear efI hm
                  have EFB : Hid (¬ 0 ≤ fI ns x y → ¬ hpOk ns) := Lib.hid (fun hn hk => hn (hk.2.2.2 x hlt y hlt2))
                  have HGN : Hid (0 ≤ fI ns x y → ∀ y', y' < y + 1 → 0 ≤ fI ns x y') := Lib.hid (fun hk y' hy' => by
                    rcases Nat.lt_or_ge y' y with h1 | h1
                    · exact HG2.out y' h1
                    · obtain rfl : y' = y := by omega
                      exact hk)
                  have RA := Lib.hid (fun z => rowZ_set (fI ns) x ns.length y hlt2 z)
                  have RLA := Lib.hid (rowZ_length (fI ns) x ns.length y hy)
                  generalize fI ns x y = ri at *
                  generalize gtI (inv ns) (msk (fun z => (ns.getD (fA ns z x).toNat 0).testBit y) ns.length) = gi at *
                  generalize msk (fun z => (ns.getD (fA ns z x).toNat 0).testBit y) ns.length = mm at *
                  go_wp2_with fail
                  refine HcI.out.mono ?_
                  rintro e w14 ⟨rfl, hb⟩
                  have B14 := Lib.hid (bthen B12.out (bthen B13.out hb))
                  have P14 := Lib.hid ((OP.out.below B13.out).below hb)
                  clear hb
                  by_cases hri : 0 ≤ ri
                  · have E := Lib.hid (HGN.out hri)
                    have e1 := RA.out gi (GI2.out hri)
                    have p1 : decide (0 ≤ ri) = true := decide_eq_true hri
                    obtain ⟨cj, fj, zb, -⟩ := P14.out.at1 rfl (j := y) (by rw [RLA.out]; exact hlt2) rfl
                    have P15 := Lib.hid (P14.out.set1 (j := y) (x := gi) (u := .int .i64 gi) rfl rfl (by rw [RLA.out]; exact hlt2))
                    have B15 := Lib.hid (B14.out.setCell (p := ⟨w10.heap.size, y, none⟩) (Nat.le_refl _) (.int .i64 gi))
                    rw [e1] at P15
                    rw [p1]
                    clear e1 p1 hri
                    go_wp2
                    exact ⟨⟨y + 1, by omega, by go_num, P15.out, B15.out, E.out⟩, by simp [intOf]; omega⟩
                  · have E := Lib.hid (EFB.out (by omega))
                    have p1 : decide (0 ≤ ri) = false := decide_eq_false hri
                    rw [p1]
                    clear p1 hri
                    have B74 := Lib.hid (bthen B10.out B14.out)
                    have R := Lib.hid (R3.out.below B74.out ZR.out)
                    have BL := Lib.hid (bthen BL3.out B74.out)
                    have kr := R.out.cell
                    have fr := R.out.frozen
                    have lr := R.out.lt
                    go_wp2
                    refine bodyPost_ret (v := .tuple #[.agg #[.slice none 0 0, .slice none 0 0, .slice none 0 0, .int .i64 0, .int .i64 0], .bool false]) (by simp [results, Tryz.results90, go_sem, kr, fr, lr]) rfl (.inl ⟨E.out, rfl, ?_⟩)
                    exact (((((BL.out.setCell (p := ⟨w.heap.size, 0, none⟩) (Nat.le_refl _) _).setCell (p := ⟨w.heap.size, 1, none⟩) (Nat.le_refl _) _).setCell (p := ⟨w.heap.size, 2, none⟩) (Nat.le_refl _) _).setCell (p := ⟨w.heap.size, 3, none⟩) (Nat.le_refl _) _).setCell (p := ⟨w.heap.size, 4, none⟩) (Nat.le_refl _) _)
            · obtain rfl : y = ns.length := by omega
              have HGX : Hid (∀ x', x' < x + 1 → ∀ y, y < ns.length → 0 ≤ fI ns x' y) := Lib.hid (fun x' hx' y hy => by
                rcases Nat.lt_or_ge x' x with h1 | h1
                · exact GI.out x' h1 y hy
                · obtain rfl : x' = x := by omega
                  exact HG2.out y hy)
              have zP := OP.out.block w10.heap.size rfl
              have TH12 := Lib.hid (TH.out.below B12.out)
              obtain ⟨hs, q1, q2, q3, q4⟩ := TH12.out.pushI (g := w10.heap.size) (n := ns.length) (r := rowI (fI ns) x ns.length) (by have := OP.out.sl; rw [rowZ_end] at this; exact this) (by omega) zP.2 (fun hS => by have := (TH.out.t.a.1 _ hS).2; omega) (fun hS => by have := (TH.out.t.b.1 _ hS).2; omega) (fun hS => by have := (TH.out.i.1 _ hS).2; omega)
              have hl : hs.length = x := by rw [q2, tabI_length]
              have hTI := tabI_length (fI ns) ns.length x
              obtain ⟨Ai, ci, hvi⟩ := TH12.out.i.opn
              rw [hTI] at hvi
              subst hvi
              have kg := G12.out.cell
              have fg := G12.out.frozen
              have lg := G12.out.lt
              have Q1 := Lib.hid q1
              have Q3 := Lib.hid q3
              have Q4 := Lib.hid q4
              have HLS := Lib.hid hl
              clear q1 q2 q3 q4 hTI hl zP
              go_wp2_with (at_builtin; refine stopHere ?_)
              refine goHere ?_
              refine ap_one (K := cH) _ ty_intss rfl _ _ rfl (B := w7.heap.size + 1) (xs := hs) rfl Q1.out (⟨some ⟨w10.heap.size, 0, none⟩, ns.length, ns.length⟩ : Hd) rfl rfl (by have := HLS.out; omega) (by omega) ?_
              intro v1 w13 ho hg hbB hat
              have hgg := grown_alloc _ hg
              obtain ⟨SI', TT⟩ := Q4.out _ _ ho hgg (by
                rcases hat with e | e
                · exact .inl e
                · exact .inr ⟨_, Nat.le_succ _, e⟩)
              rw [← tabI_succ] at TT
              have TT1 := Lib.hid TT
              have G13 := Lib.hid (G12.out.grown hgg (fun e => by have h5 := Q3.out _ e.symm; omega))
              have B13 := Lib.hid ((bthen B10.out B12.out).trans (hbB.mono (Nat.le_succ _)))
              obtain ⟨W1, d1, hv1⟩ := ho.opn
              rw [List.length_append, List.length_singleton, HLS.out] at hv1
              subst hv1
              clear ho hg hbB hat hgg TT kg fg lg
              have U1 := Lib.hid (TT1.out.set (p := ⟨w7.heap.size, 2, none⟩) (Nat.lt_succ_self _) (.slice W1 (x + 1) d1))
              have U2 := Lib.hid (G13.out.set_ 2 (.slice W1 (x + 1) d1))
              have U3 := Lib.hid (B13.out.setCell (p := ⟨w7.heap.size, 2, none⟩) (Nat.le_refl _) (.slice W1 (x + 1) d1))
              have kg := G13.out.cell
              have fg := G13.out.frozen
              have lg := G13.out.lt
              clear G13 B13 TT1
              go_wp2
              exact ⟨⟨x + 1, by omega, by go_num, ⟨_, _, U1.out, by have := U2.out; simpa using this⟩, U3.out, HGX.out⟩, by simp [intOf]; omega⟩
        · obtain rfl : x = ns.length := by omega
          have E : Hid (hpOk ns) := Lib.hid ⟨HN0.out, HPP.out, HG.out, GI.out⟩
          obtain ⟨F, hF⟩ : ∃ F : Nat, 2 ^ ns.length = F + 1 := ⟨2 ^ ns.length - 1, by have : 0 < 2 ^ ns.length := Nat.pow_pos (by decide); omega⟩
          have hF30 : F < 1073741824 := by have := two_pow_30 h30; omega
          have hbk := (hpOk_iff HR.out).1 E.out
          have eF : (2 ^ ns.length - 1 : Nat) = F := by omega
          have eB : botI ns = lwI ns F := by unfold botI; rw [eF]
          have eT : topI ns = lwI (inv ns) F := by unfold topI; rw [eF]
          have e3 : IntKind.i64.wrap ((2 : Int) ^ ns.length) = (F : Int) + 1 := by rw [wrap_two_pow'' (by omega), hF]; rfl
          have HcB : Hid (∀ W, Sl cI W (.slice A0 ns.length c0) (li ns) → Calls Tryz.prog 134 #[.int .i64 (F : Nat), .slice A0 ns.length c0] W fun e w' => e = .returned (.tuple #[.int .i64 (botI ns), .bool true]) ∧ Below W.heap.size W w') := Lib.hid (fun W hW => by
            have := HGo.out F W (by omega) hW
            rw [gtI_ok (by rw [← eB]; exact hbk.2.2.1), ← eB, decide_eq_true hbk.2.2.1] at this
            exact this)
          have HcT : Hid (∀ W, Sl cI W (.slice A6 ns.length c6) (li (inv ns)) → Calls Tryz.prog 134 #[.int .i64 (F : Nat), .slice A6 ns.length c6] W fun e w' => e = .returned (.tuple #[.int .i64 (topI ns), .bool true]) ∧ Below W.heap.size W w') := Lib.hid (fun W hW => by
            have := HGb.out (.slice A6 ns.length c6) F W (by omega) hW
            rw [gtI_ok (by rw [← eT]; exact hbk.2.2.2.1), ← eT, decide_eq_true hbk.2.2.2.1] at this
            exact this)
          have hTI := tabI_length (fI ns) ns.length ns.length
          obtain ⟨Ai, ci, hvi⟩ := TH.out.i.opn
          rw [hTI] at hvi
          subst hvi
          clear hF hbk eF eB eT HGo HGb hTI HG GI
          go_wp2_with fail
          refine (HcB.out _ HX10.out).mono ?_
          rintro e w11 ⟨rfl, hb⟩
          have TH11 := Lib.hid (TH.out.below hb)
          have G11 := Lib.hid (G.out.below hb hG10)
          have B11 := Lib.hid (bthen B10.out hb)
          clear hb TH G
          have kg := G11.out.cell
          have fg := G11.out.frozen
          have lg := G11.out.lt
          go_upto_region 44 with fail
          have TH12 := Lib.hid (TH11.out.set (p := ⟨w7.heap.size, 3, none⟩) (Nat.lt_succ_self _) (.int .i64 (botI ns)))
          have G12 := Lib.hid (G11.out.set_ 3 (.int .i64 (botI ns)))
          have B12 := Lib.hid (B11.out.setCell (p := ⟨w7.heap.size, 3, none⟩) (Nat.le_refl _) (.int .i64 (botI ns)))
          clear kg fg lg TH11 G11 B11
          generalize World.setCell w11 _ _ = w12 at *
          have HU12 := Lib.hid (HU.out.below B12.out)
          have G12' : Hid (Blk w12 w7.heap.size 26 #[.slice Aa ns.length ca, .slice Ao ns.length co, .slice Ai ns.length ci, .int .i64 (botI ns), .int .i64 0]) := Lib.hid (by have := G12.out; simpa using this)
          go_wp2_with fail
          refine (HcT.out _ HU12.out).mono ?_
          rintro e w13 ⟨rfl, hb⟩
          have TH13 := Lib.hid (TH12.out.below hb)
          have G13 := Lib.hid (G12'.out.below hb G12'.out.lt)
          have B13 := Lib.hid (bthen B12.out hb)
          clear hb TH12 G12 G12' B12
          have kg := G13.out.cell
          have fg := G13.out.frozen
          have lg := G13.out.lt
          go_upto_region 45 with fail
          have TH14 := Lib.hid (TH13.out.set (p := ⟨w7.heap.size, 4, none⟩) (Nat.lt_succ_self _) (.int .i64 (topI ns)))
          have G14 := Lib.hid (G13.out.set_ 4 (.int .i64 (topI ns)))
          have B14 := Lib.hid (B13.out.setCell (p := ⟨w7.heap.size, 4, none⟩) (Nat.le_refl _) (.int .i64 (topI ns)))
          clear kg fg lg TH13 G13 B13
          generalize World.setCell w13 _ _ = w14 at *
          have G14' : Hid (Blk w14 w7.heap.size 26 #[.slice Aa ns.length ca, .slice Ao ns.length co, .slice Ai ns.length ci, .int .i64 (botI ns), .int .i64 (topI ns)]) := Lib.hid (by have := G14.out; simpa using this)
          have R := Lib.hid (R3.out.below B14.out ZR.out)
          have BL := Lib.hid (bthen BL3.out B14.out)
          have kr := R.out.cell
          have fr := R.out.frozen
          have lr := R.out.lt
          have kg := G14'.out.cell
          have lg := G14'.out.lt
          have zr := ZR.out
          clear HX HU HX10 HU10 HU12 G14
          go_wp2
          refine bodyPost_ret (v := .tuple #[.agg #[.slice Aa ns.length ca, .slice Ao ns.length co, .slice Ai ns.length ci, .int .i64 (botI ns), .int .i64 (topI ns)], .bool true]) (by simp [results, Tryz.results90, go_sem, kr, fr, lr]) rfl (.inr ⟨E.out, _, _, _, rfl, ?_, ?_, ?_, ?_⟩)
          · exact (((((TH14.out.set (p := ⟨w.heap.size, 0, none⟩) (show w.heap.size < w7.heap.size + 1 by omega) (.slice Aa ns.length ca)).set (p := ⟨w.heap.size, 1, none⟩) (show w.heap.size < w7.heap.size + 1 by omega) (.slice Ao ns.length co)).set (p := ⟨w.heap.size, 2, none⟩) (show w.heap.size < w7.heap.size + 1 by omega) (.slice Ai ns.length ci)).set (p := ⟨w.heap.size, 3, none⟩) (show w.heap.size < w7.heap.size + 1 by omega) (.int .i64 (botI ns))).set (p := ⟨w.heap.size, 4, none⟩) (show w.heap.size < w7.heap.size + 1 by omega) (.int .i64 (topI ns))).t.a.sl2
          · exact (((((TH14.out.set (p := ⟨w.heap.size, 0, none⟩) (show w.heap.size < w7.heap.size + 1 by omega) (.slice Aa ns.length ca)).set (p := ⟨w.heap.size, 1, none⟩) (show w.heap.size < w7.heap.size + 1 by omega) (.slice Ao ns.length co)).set (p := ⟨w.heap.size, 2, none⟩) (show w.heap.size < w7.heap.size + 1 by omega) (.slice Ai ns.length ci)).set (p := ⟨w.heap.size, 3, none⟩) (show w.heap.size < w7.heap.size + 1 by omega) (.int .i64 (botI ns))).set (p := ⟨w.heap.size, 4, none⟩) (show w.heap.size < w7.heap.size + 1 by omega) (.int .i64 (topI ns))).t.b.sl2
          · exact (((((TH14.out.set (p := ⟨w.heap.size, 0, none⟩) (show w.heap.size < w7.heap.size + 1 by omega) (.slice Aa ns.length ca)).set (p := ⟨w.heap.size, 1, none⟩) (show w.heap.size < w7.heap.size + 1 by omega) (.slice Ao ns.length co)).set (p := ⟨w.heap.size, 2, none⟩) (show w.heap.size < w7.heap.size + 1 by omega) (.slice Ai ns.length ci)).set (p := ⟨w.heap.size, 3, none⟩) (show w.heap.size < w7.heap.size + 1 by omega) (.int .i64 (botI ns))).set (p := ⟨w.heap.size, 4, none⟩) (show w.heap.size < w7.heap.size + 1 by omega) (.int .i64 (topI ns))).i.sl2
          · exact (((((BL.out.setCell (p := ⟨w.heap.size, 0, none⟩) (Nat.le_refl _) (.slice Aa ns.length ca)).setCell (p := ⟨w.heap.size, 1, none⟩) (Nat.le_refl _) (.slice Ao ns.length co)).setCell (p := ⟨w.heap.size, 2, none⟩) (Nat.le_refl _) (.slice Ai ns.length ci)).setCell (p := ⟨w.heap.size, 3, none⟩) (Nat.le_refl _) (.int .i64 (botI ns))).setCell (p := ⟨w.heap.size, 4, none⟩) (Nat.le_refl _) (.int .i64 (topI ns)))
end Go.Proofs.YtgkogfjifcfkoaaGreat
