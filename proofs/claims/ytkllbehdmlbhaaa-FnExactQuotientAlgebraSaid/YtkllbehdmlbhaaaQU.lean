/- Joined of several texts: 07q, 07r, 07s, 07t, 07u. -/
import Derived.Test.Ytkllbehdmlbhaaa05f
import Derived.Test.YtkllbehdmlbhaaaSA
import Derived.Test.YtkllbehdmlbhaaaAN2
import Derived.StillTailTactics
import Derived.Deep.RegionLaw
namespace Go.Proofs.Ytkllbehdmlbhaaa
open Go.RowKit
set_option linter.unusedVariables false
set_option linter.unusedSimpArgs false
/- Contracts of chapter 7, of the program: slices.Max, classCount, mapMask, quotientRelation, frameOf. -/
theorem slices_Max (v : Value) (cl : List Nat) (w : World) (h : Sl cI w v (li cl)) (h0 : 0 < cl.length) (hl : cl.length ≤ 1048576) (hb : ∀ i, cl.getD i 0 < 256) :
    Calls Try.prog 41 #[v] w fun e w' => e = .returned (.int .i64 (mx cl cl.length - 1 : Nat)) ∧ w = w' := by
  obtain ⟨A, c, rfl⟩ := h.opn
  have HL := Lib.hid (li_length cl)
  obtain ⟨b, o, rfl, hbl, hc0⟩ := h.atI (k := 0) (by rw [li_length]; exact h0)
  rw [li_get, Nat.add_zero] at hc0
  obtain ⟨y0, hy0⟩ : ∃ y, cl.getD 0 0 = y := ⟨_, rfl⟩
  rw [hy0] at hc0
  have HY := Lib.hid (show mx cl 1 = y0 + 1 by rw [← hy0]; simp [mx])
  have HS := Lib.hid h
  rw [HL.out] at HS ⊢
  have HB := Lib.hid hb
  clear h hb hy0
  have h1 : ¬ (cl.length : Int) < 1 := by omega
  go_enter Try.func41, Try.ntmps41
  go_wp2
  go_loop [3, 4] (fun m i => ∃ j q : Nat, 1 ≤ j ∧ j ≤ cl.length ∧ i = .int .i64 j ∧ m = .int .i64 q ∧ mx cl j = q + 1) (fun _ i => cl.length - (intOf i).toNat)
  case atStart => exact ⟨1, y0, Nat.le_refl _, h0, rfl, rfl, HY.out⟩
  case round =>
    obtain ⟨j, q, hj1, hj, rfl, rfl, hm⟩ := hrel
    have HM := Lib.hid hm
    clear hm
    by_cases hlt : j < cl.length
    · obtain ⟨b2, o2, hA, hbl2, hc2⟩ := (show Sl cI w (.slice (some ⟨b, o, none⟩) (li cl).length c) (li cl) by rw [HL.out]; exact HS.out).atI (k := j) (by rw [li_length]; exact hlt)
      injection hA with hA
      injection hA with hA hA2
      subst hA; subst hA2
      rw [li_get] at hc2
      have HE : Hid (mx cl (j + 1) = max q (cl.getD j 0) + 1) := Lib.hid (by rw [mx, HM.out]; omega)
      have hk := HB.out j
      generalize cl.getD j 0 = y at *
      rcases Nat.le_total q y with hq | hq
      all_goals
        go_wp2

        go_round
        case rel => exact ⟨j + 1, max q y, by omega, by omega, by go_num, by first | (rw [Nat.max_eq_right hq]; done) | (rw [Nat.max_eq_left hq]; done) | go_num, HE.out⟩
        case measure => simp [intOf]; omega
    · obtain rfl : j = cl.length := by omega
      go_wp2
      go_ret
      exact ⟨by rw [HM.out]; rfl, rfl⟩
theorem impl_classCount (v : Value) (cl : List Nat) (w : World) (h : Sl cI w v (li cl)) (hl : cl.length ≤ 1048576) (hb : ∀ i, cl.getD i 0 < 256) :
    Calls Try.prog 26 #[v] w fun e w' => e = .returned (.int .i64 (mx cl cl.length : Nat)) ∧ w = w' := by
  obtain ⟨A, c, rfl⟩ := h.opn
  have HL := Lib.hid (li_length cl)
  rcases Nat.eq_zero_or_pos cl.length with h0 | h0
  · have HE : Hid (mx cl cl.length = 0) := Lib.hid (by rw [h0]; rfl)
    have hz : (li cl).length = 0 := by rw [li_length, h0]
    rw [hz]
    clear h0 HL h hz
    go_enter Try.func26, Try.ntmps26
    go_wp2
    go_ret
    exact ⟨by rw [HE.out]; rfl, rfl⟩
  · have HC := Lib.hid (slices_Max _ cl w h h0 hl hb)
    have HE : Hid (∃ q : Nat, mx cl cl.length = q + 1 ∧ q < 256) := Lib.hid (by
      have h1 := mx_gt cl (show 0 < cl.length from h0)
      have h2 := mx_le cl 256 cl.length (fun i _ => hb i)
      exact ⟨mx cl cl.length - 1, by omega, by omega⟩)
    rw [HL.out] at HC ⊢
    obtain ⟨q, hq, hq2⟩ := HE.out
    have HQ := Lib.hid hq
    rw [show mx cl cl.length - 1 = q by omega] at HC
    clear hq HE h hb
    have hne : ((cl.length : Int) == 0) = false := by rw [beq_eq_false_iff_ne]; omega
    go_enter Try.func26, Try.ntmps26
    go_wp2_with fail
    refine HC.out.mono ?_
    rintro e w1 ⟨rfl, rfl⟩
    go_wp2
    go_ret
    exact ⟨by rw [HQ.out]; first | rfl | (congr 1), rfl⟩
/- Contracts of chapter 7, of the program: quotientRelation. -/
/- Contracts of chapter 7, of the program: quotientModel. -/
/-- the classes of a model, and their number -/
def qcl (ns us : List Nat) : List Nat := (bcl ns us ns.length).1
def qn (ns us : List Nat) : Nat := mx (qcl ns us) (qcl ns us).length
theorem qcl_length (ns us : List Nat) : (qcl ns us).length = ns.length := dvd_length _ _
theorem qcl_lt (ns us : List Nat) (h8 : ns.length ≤ 8) : ∀ c ∈ qcl ns us, c < 8 := fun c hc => by
  have h1 := dvd_lt _ _ c hc
  have h2 := dvd_count (fun y => (bnd ns us ns us 16).getD y 0) ns.length
  omega
theorem qn_le (ns us : List Nat) (h8 : ns.length ≤ 8) : qn ns us ≤ 8 := mx_le _ 8 _ fun i hi => qcl_lt ns us h8 _ (getD_mem hi)
theorem qvl_take (cl us : List Nat) {j : Nat} (h : j < us.length) : (qvl cl us).take (j + 1) = (qvl cl us).take j ++ [img (pw cl) (us.getD j 0)] := by
  rw [List.take_succ_eq_append_getElem (by rw [qvl_length]; exact h)]
  congr 2
  simp [qvl, h]
/- Contracts of QuotientModel, of the program. -/
/-- what a Model that is a result holds: its lists lie in memory of their own, the one below H, the other from H on -/
def MdR (w w' : World) (u1 u2 : Value) (xs ys : List Int) : Prop := ∃ H, w.heap.size ≤ H ∧ H ≤ w'.heap.size ∧ Ob cI 2 w.heap.size H w' u1 xs ∧ Ob cI 2 H w'.heap.size w' u2 ys
/- Contracts of chapter 7, of the reference: l07Quotient, QuotientModel. -/
/-- the cells of make([]int64, n) -/
def mkz (n : Nat) : Array Value := (List.replicate n (Value.int .i64 0)).toArray
theorem mkz_flat (n : Nat) : flat cI (List.replicate n 0) = (mkz n).toList := by rw [flat_cI]; unfold mkz; rw [List.map_replicate]
theorem run_mkz (n : Nat) (h : n ≤ 1048576) (w : World) :
    (Instr.makeSlice 26 (.int .i64 (n : Int)) (.int .i64 (n : Int))).run Try.prog w = .ok (.slice (some ⟨w.heap.size, 0, none⟩) n n) (w.alloc (.cells (mkz n) 2)) := by
  obtain ⟨i, hi, hz, hsize, hby⟩ := ty_int64.info
  have := run_make (P := Try.prog) w 26 2 i _ ty_int64.under hi hz .i64 .i64 (n : Int) (n : Int) (by omega) (Int.le_refl _) (by rw [hby]; omega) (by omega)
  have e : madeCells (Value.int .i64 0).cells ((n : Int).toNat * i.size) = mkz n := by
    rw [hsize, Int.toNat_natCast, Nat.mul_one]
    apply Array.ext (by simp [madeCells, mkz])
    intro j h1 h2
    simp [madeCells, mkz, Value.cells, Nat.mod_one]
  rw [this, e, Int.toNat_natCast]
theorem Ow.mkz {B : Nat} (w : World) (n g : Nat) (hg : g = w.heap.size) (hB : B ≤ g) (h : n ≤ 1048576) : Ow cI 2 B (w.alloc (.cells (mkz n) 2)) (.slice (some ⟨g, 0, none⟩) n n) (List.replicate n 0) :=
  Ow.lit' (List.replicate n (0 : Int)) hg (by simp) (mkz_flat n) hB (by simp; omega)
end Go.Proofs.Ytkllbehdmlbhaaa
