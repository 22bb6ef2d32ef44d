/- Joined of several texts: 07q, 07r, 07s, 07t, 07u. -/
import Derived.Test.YtboldkahppdmbaaGreatDoorJ05
import Derived.Test.YtboldkahppdmbaaGreatDoorSA
import Derived.Test.YtboldkahppdmbaaGreatDoorAN2
import Derived.StillTailTactics
import Derived.Deep.RegionLaw
namespace Go.Proofs.YtboldkahppdmbaaGreatDoor
open Go.RowKit
set_option linter.unusedVariables false
set_option linter.unusedSimpArgs false
/- Contracts of chapter 7, of the program: slices.Max, classCount, mapMask, quotientRelation, frameOf. -/
theorem slices_Max (v : Value) (cl : List Nat) (w : World) (h : Sl cI w v (li cl)) (h0 : 0 < cl.length) (hl : cl.length ≤ 1048576) (hb : ∀ i, cl.getD i 0 < 256) :
    Calls Tryz.prog 156 #[v] w fun e w' => e = .returned (.int .i64 (mx cl cl.length - 1 : Nat)) ∧ w = w' := by
  obtain ⟨A, c, rfl⟩ := h.opn
  have HL := Lib.hid (li_length cl)
  obtain ⟨b, o, rfl, hbl, hc0⟩ := h.atI (k := 0) (by rw [li_length]; exact h0)
  rw [li_get, Nat.add_zero] at hc0
  obtain ⟨y0, hy0⟩ : ∃ y, cl.getD 0 0 = y := ⟨_, rfl⟩
  rw [hy0] at hc0
  have HY := Lib.hid (show mx cl 1 = y0 + 1 by rw [← hy0]; simp [mx])
  have HS := Lib.hid h
  rw [HL.out] at HS ⊢
  have HB := Lib.hid hb
  clear h hb hy0
  have h1 : ¬ (cl.length : Int) < 1 := by omega
  go_enter Tryz.func156, Tryz.ntmps156
  go_wp2
  go_loop [3, 4] (fun m i => ∃ j q : Nat, 1 ≤ j ∧ j ≤ cl.length ∧ i = .int .i64 j ∧ m = .int .i64 q ∧ mx cl j = q + 1) (fun _ i => cl.length - (intOf i).toNat)
  case atStart => exact ⟨1, y0, Nat.le_refl _, h0, rfl, rfl, HY.out⟩
  case round =>
    obtain ⟨j, q, hj1, hj, rfl, rfl, hm⟩ := hrel
    have HM := Lib.hid hm
    clear hm
    by_cases hlt : j < cl.length
    · obtain ⟨b2, o2, hA, hbl2, hc2⟩ := (show Sl cI w (.slice (some ⟨b, o, none⟩) (li cl).length c) (li cl) by rw [HL.out]; exact HS.out).atI (k := j) (by rw [li_length]; exact hlt)
      injection hA with hA
      injection hA with hA hA2
      subst hA; subst hA2
      rw [li_get] at hc2
      have HE : Hid (mx cl (j + 1) = max q (cl.getD j 0) + 1) := Lib.hid (by rw [mx, HM.out]; omega)
      have hk := HB.out j
      generalize cl.getD j 0 = y at *
      rcases Nat.le_total q y with hq | hq
      all_goals
        go_wp2

        go_round
        case rel => exact ⟨j + 1, max q y, by omega, by omega, by go_num, by first | (rw [Nat.max_eq_right hq]; done) | (rw [Nat.max_eq_left hq]; done) | go_num, HE.out⟩
        case measure => simp [intOf]; omega
    · obtain rfl : j = cl.length := by omega
      go_wp2
      go_ret
      exact ⟨by rw [HM.out]; rfl, rfl⟩
theorem impl_classCount (v : Value) (cl : List Nat) (w : World) (h : Sl cI w v (li cl)) (hl : cl.length ≤ 1048576) (hb : ∀ i, cl.getD i 0 < 256) :
    Calls Tryz.prog 124 #[v] w fun e w' => e = .returned (.int .i64 (mx cl cl.length : Nat)) ∧ w = w' := by
  obtain ⟨A, c, rfl⟩ := h.opn
  have HL := Lib.hid (li_length cl)
  rcases Nat.eq_zero_or_pos cl.length with h0 | h0
  · have HE : Hid (mx cl cl.length = 0) := Lib.hid (by rw [h0]; rfl)
    have hz : (li cl).length = 0 := by rw [li_length, h0]
    rw [hz]
    clear h0 HL h hz
    go_enter Tryz.func124, Tryz.ntmps124
    go_wp2
    go_ret
    exact ⟨by rw [HE.out]; rfl, rfl⟩
  · have HC := Lib.hid (slices_Max _ cl w h h0 hl hb)
    have HE : Hid (∃ q : Nat, mx cl cl.length = q + 1 ∧ q < 256) := Lib.hid (by
      have h1 := mx_gt cl (show 0 < cl.length from h0)
      have h2 := mx_le cl 256 cl.length (fun i _ => hb i)
      exact ⟨mx cl cl.length - 1, by omega, by omega⟩)
    rw [HL.out] at HC ⊢
    obtain ⟨q, hq, hq2⟩ := HE.out
    have HQ := Lib.hid hq
    rw [show mx cl cl.length - 1 = q by omega] at HC
    clear hq HE h hb
    have hne : ((cl.length : Int) == 0) = false := by rw [beq_eq_false_iff_ne]; omega
    go_enter Tryz.func124, Tryz.ntmps124
    go_wp2_with fail
    refine HC.out.mono ?_
    rintro e w1 ⟨rfl, rfl⟩
    go_wp2
    go_ret
    exact ⟨by rw [HQ.out]; first | rfl | (congr 1), rfl⟩
theorem impl_mapMask (v : Value) (cl : List Nat) (m : Nat) (w : World) (h : Sl cI w v (li cl)) (h8 : cl.length ≤ 8) (hb : ∀ c ∈ cl, c < 8) (hm : m < 2 ^ cl.length) :
    Calls Tryz.prog 27 #[v, .int .i64 m] w fun e w' => e = .returned (.int .i64 (img (pw cl) m : Nat)) ∧ Below w.heap.size w w' := by
  obtain ⟨A, c, rfl⟩ := h.opn
  have HL := Lib.hid (li_length cl)
  rw [HL.out] at h ⊢
  have hm256 := two_pow_256 h8
  have HM := Lib.hid hm
  have EI : Hid (orL (pw cl) (mems m) = img (pw cl) m) := Lib.hid (orL_img (pw cl) m (by rw [pw_length]; exact hm) (by rw [pw_length]; exact h8))
  have HO := Lib.hid (orL_lt (pw_lt hb))
  have HX : Hid (∀ x : Nat, x < cl.length → cl.getD x 0 < 8) := Lib.hid (fun x hx => hb _ (getD_mem hx))
  have HPW : Hid (∀ x : Nat, x < cl.length → (pw cl).getD x 0 = 2 ^ cl.getD x 0) := Lib.hid (fun x hx => pw_getD hx)
  have HS := Lib.hid h
  clear h hb
  go_enter Tryz.func27, Tryz.ntmps27
  go_wp2_with fail
  refine (impl_membersOf m _ (by omega)).mono ?_
  rintro e w1 ⟨vm, rfl, ho, hb⟩
  obtain ⟨A2, c2, rfl⟩ := ho.opn
  have hms := ho.sl
  have hml := mems_length m
  have HMM := Lib.hid (fun x (hx : x ∈ mems m) => mems_mem HM.out hx)
  have h1 := HS.out.below hb
  have HB := Lib.hid hb
  clear ho hb hm hm256 HM
  generalize mems m = ms at *
  go_wp2
  go_loop [5, 11] (fun t i => ∃ j : Nat, j ≤ ms.length ∧ i = .int .i64 j ∧ t = .int .i64 (orL (pw cl) (ms.take j) : Nat)) (fun _ i => ms.length - (intOf i).toNat)
  case atStart => exact ⟨0, Nat.zero_le _, rfl, rfl⟩
  case round =>
    obtain ⟨j, hj, rfl, rfl⟩ := hrel
    by_cases hlt : j < ms.length
    · obtain ⟨b, o, rfl, hbl, hc0⟩ := hms.atI hlt
      obtain ⟨x, hxx, hxn⟩ := HMM.out ms[j] (List.getElem_mem hlt)
      have HE : Hid (orL (pw cl) (ms.take (j + 1)) = orL (pw cl) (ms.take j) ||| 2 ^ cl.getD x 0) := Lib.hid (by rw [List.take_succ_eq_append_getElem hlt, orL_snoc, hxx, Int.toNat_natCast, HPW.out x hxn])
      rw [hxx] at hc0
      have hx' : x < (li cl).length := by rw [HL.out]; exact hxn
      obtain ⟨b2, o2, rfl, hbl2, hd0⟩ := h1.atI hx'
      rw [li_get] at hd0
      have hq := HO.out (ms.take j)
      have hy := HX.out x hxn
      clear hxx
      generalize orL (pw cl) (ms.take j) = q at *
      generalize cl.getD x 0 = y at *
      have e1 := wrap_two_pow (n := y) (by omega)
      have e2 := i64_or_nat q (2 ^ y) (by omega) (two_pow_lt (by omega))
      rw [← cast_two_pow] at e2
      go_wp2
      go_round
      case rel => exact ⟨j + 1, by omega, by go_num, by rw [HE.out]⟩
      case measure => simp [intOf]; omega
    · have HE : Hid (orL (pw cl) (ms.take j) = img (pw cl) m) := Lib.hid (by rw [List.take_of_length_le (by omega), EI.out])
      go_wp2
      go_ret
      exact ⟨by rw [HE.out]; rfl, HB.out⟩
/- Contracts of chapter 7, of the program: quotientRelation. -/
/- Contracts of chapter 7, of the program: quotientModel. -/
/-- the classes of a model, and their number -/
def qcl (ns us : List Nat) : List Nat := (bcl ns us ns.length).1
def qn (ns us : List Nat) : Nat := mx (qcl ns us) (qcl ns us).length
theorem qcl_length (ns us : List Nat) : (qcl ns us).length = ns.length := dvd_length _ _
theorem qcl_lt (ns us : List Nat) (h8 : ns.length ≤ 8) : ∀ c ∈ qcl ns us, c < 8 := fun c hc => by
  have h1 := dvd_lt _ _ c hc
  have h2 := dvd_count (fun y => (bnd ns us ns us 16).getD y 0) ns.length
  omega
theorem qn_le (ns us : List Nat) (h8 : ns.length ≤ 8) : qn ns us ≤ 8 := mx_le _ 8 _ fun i hi => qcl_lt ns us h8 _ (getD_mem hi)
theorem qvl_take (cl us : List Nat) {j : Nat} (h : j < us.length) : (qvl cl us).take (j + 1) = (qvl cl us).take j ++ [img (pw cl) (us.getD j 0)] := by
  rw [List.take_succ_eq_append_getElem (by rw [qvl_length]; exact h)]
  congr 2
  simp [qvl, h]
/- Contracts of QuotientModel, of the program. -/
/-- what a Model that is a result holds: its lists lie in memory of their own, the one below H, the other from H on -/
def MdR (w w' : World) (u1 u2 : Value) (xs ys : List Int) : Prop := ∃ H, w.heap.size ≤ H ∧ H ≤ w'.heap.size ∧ Ob cI 2 w.heap.size H w' u1 xs ∧ Ob cI 2 H w'.heap.size w' u2 ys
/- Contracts of chapter 7, of the reference: l07Quotient, QuotientModel. -/
/-- the cells of make([]int64, n) -/
def mkz (n : Nat) : Array Value := (List.replicate n (Value.int .i64 0)).toArray
theorem mkz_flat (n : Nat) : flat cI (List.replicate n 0) = (mkz n).toList := by rw [flat_cI]; unfold mkz; rw [List.map_replicate]
theorem run_mkz (n : Nat) (h : n ≤ 1048576) (w : World) :
    (Instr.makeSlice 24 (.int .i64 (n : Int)) (.int .i64 (n : Int))).run Tryz.prog w = .ok (.slice (some ⟨w.heap.size, 0, none⟩) n n) (w.alloc (.cells (mkz n) 2)) := by
  obtain ⟨i, hi, hz, hsize, hby⟩ := ty_int64.info
  have := run_make (P := Tryz.prog) w 24 2 i _ ty_int64.under hi hz .i64 .i64 (n : Int) (n : Int) (by omega) (Int.le_refl _) (by rw [hby]; omega) (by omega)
  have e : madeCells (Value.int .i64 0).cells ((n : Int).toNat * i.size) = mkz n := by
    rw [hsize, Int.toNat_natCast, Nat.mul_one]
    apply Array.ext (by simp [madeCells, mkz])
    intro j h1 h2
    simp [madeCells, mkz, Value.cells, Nat.mod_one]
  rw [this, e, Int.toNat_natCast]
theorem Ow.mkz {B : Nat} (w : World) (n g : Nat) (hg : g = w.heap.size) (hB : B ≤ g) (h : n ≤ 1048576) : Ow cI 2 B (w.alloc (.cells (mkz n) 2)) (.slice (some ⟨g, 0, none⟩) n n) (List.replicate n 0) :=
  Ow.lit' (List.replicate n (0 : Int)) hg (by simp) (mkz_flat n) hB (by simp; omega)
end Go.Proofs.YtboldkahppdmbaaGreatDoor
