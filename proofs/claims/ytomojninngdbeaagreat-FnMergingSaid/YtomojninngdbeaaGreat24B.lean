/- Contracts of valuations, of the program: isUpset, isValuation. Written by gen24A.py. -/
import Derived.Test.YtomojninngdbeaaGreat24A
namespace Go.Proofs.YtomojninngdbeaaGreat
open Go.RowKit
set_option linter.unusedVariables false
set_option linter.unusedSimpArgs false
set_option maxHeartbeats 1000000 in
set_option maxRecDepth 100000 in
theorem impl_isUpset (ns : List Nat) (m : Int) (A0 : Option Addr) (c0 : Nat) (w : World) (h : Sl cI w (.slice A0 ns.length c0) (li ns)) (hr : RelN ns) :
    Calls Tryz.prog 42 #[.agg #[.int .i64 (ns.length : Int), .slice A0 ns.length c0], .int .i64 m] w fun e w' => e = .returned (.bool (upn ns m)) ∧ Below w.heap.size w w' := by
  have h8 := hr.1
  have A := Lib.hid (Below.refl w.heap.size w)
  have HS := Lib.hid h
  clear h
  have HM := Lib.hid (fun W => impl_isMask (ns.length : Int) m W)
  cases h1 : mkOk ns.length m
  · have E : Hid (upn ns m = false) := Lib.hid (by unfold upn; rw [h1]; rfl)
    rw [h1] at HM
    clear h1 hr
    go_enter Tryz.func42, Tryz.ntmps42
    go_upto_region 1 with fail
    have hb := below_alloc' w (.cells #[.int .i64 (ns.length : Int), .slice A0 ns.length c0] 26)
    have T1 := Lib.hid (Bk.new w #[.int .i64 (ns.length : Int), .slice A0 ns.length c0] 26)
    replace HS := Lib.hid (HS.out.below hb)
    replace A := Lib.hid (bthen A.out hb)
    clear hb
    generalize World.alloc w _ = w1 at *
    have T1s := T1.out.1
    have T1c := T1.out.2
    go_wp2_with fail
    clear T1s T1c
    refine (HM.out _).mono ?_
    rintro e w9 ⟨rfl, rfl⟩
    go_wp2
    go_ret
    exact ⟨by rw [E.out]; rfl, A.out⟩
  · obtain ⟨hm0, hm1⟩ := mkOk_nat h1
    obtain ⟨k, rfl⟩ : ∃ k : Nat, m = k := ⟨m.toNat, by omega⟩
    rw [Int.toNat_natCast] at hm1
    have E : Hid (upn ns (k : Int) = decide (img ns k = k)) := Lib.hid (by unfold upn; rw [h1, Int.toNat_natCast]; rfl)
    have HI := Lib.hid (fun W (hW : Sl cI W (.slice A0 ns.length c0) (li ns)) => impl_image _ ns k W hW h8 (fun x hx => Nat.lt_of_lt_of_le (hr.2 x hx) (two_pow_256 h8)) hm1)
    have EI := Lib.hid (eqI (img ns k) k)
    have hi := Nat.lt_of_lt_of_le (imgTo_lt hr.2 k ns.length) (two_pow_256 h8)
    change img ns k < 256 at hi
    rw [h1] at HM
    clear h1 hr
    go_enter Tryz.func42, Tryz.ntmps42
    go_upto_region 1 with fail
    have hb := below_alloc' w (.cells #[.int .i64 (ns.length : Int), .slice A0 ns.length c0] 26)
    have T1 := Lib.hid (Bk.new w #[.int .i64 (ns.length : Int), .slice A0 ns.length c0] 26)
    replace HS := Lib.hid (HS.out.below hb)
    replace A := Lib.hid (bthen A.out hb)
    clear hb
    generalize World.alloc w _ = w1 at *
    have T1s := T1.out.1
    have T1c := T1.out.2
    go_wp2_with fail
    clear T1s T1c
    refine (HM.out _).mono ?_
    rintro e w9 ⟨rfl, rfl⟩
    have T1s := T1.out.1
    have T1c := T1.out.2
    go_wp2_with fail
    clear T1s T1c
    refine (HI.out _ HS.out).mono ?_
    rintro e w3 ⟨rfl, hb⟩
    replace HS := Lib.hid (HS.out.below hb)
    replace T1 := Lib.hid (T1.out.below hb)
    replace A := Lib.hid (bthen A.out hb)
    clear hb
    go_wp2
    go_ret
    exact ⟨by rw [E.out, ← EI.out]; rfl, A.out⟩
set_option maxHeartbeats 1000000 in
set_option maxRecDepth 100000 in
theorem impl_isValuation_1 (ns : List Nat) (m : Int) (B : Nat) (A0 : Option Addr) (c0 : Nat) (w : World) (hc0 : w.cell? ⟨B, 0, none⟩ = some (.int .i64 (ns.length : Int))) (hc1 : w.cell? ⟨B, 1, none⟩ = some (.slice A0 ns.length c0)) (h : Sl cI w (.slice A0 ns.length c0) (li ns)) (hr : RelN ns) :
    Calls Tryz.prog 41 #[.int .i64 m, .pointer (some ⟨B, 0, none⟩)] w fun e w' => e = .returned (.bool (!upn ns m)) ∧ Below w.heap.size w w' := by
  have A := Lib.hid (Below.refl w.heap.size w)
  have HU := Lib.hid (impl_isUpset ns m A0 c0 w h hr)
  clear h hr
  go_enter Tryz.func41, Tryz.ntmps41
  go_wp2_with fail
  refine HU.out.mono ?_
  rintro e w1 ⟨rfl, hb⟩
  have B := Lib.hid hb
  clear hb hc0 hc1
  go_wp2
  go_ret
  exact ⟨rfl, B.out⟩
theorem en_isValuation_1 : ∀ (args : Array Value) (w : World), (callFunc 41 args).run Tryz.prog w = .ok (.enter 41 args) w := enters Tryz.func41 (by kernel_rfl) (by kernel_rfl)
def upBad (ns : List Nat) (V : List Int) (i : Nat) : Bool := !upn ns (V.getD i 0)
theorem upBad_all (ns : List Nat) (V : List Int) : (!(List.range V.length).any (upBad ns V)) = V.all fun m => upn ns m := by
  have h := any_range V 0 (fun m => !upn ns m)
  rw [show (List.range V.length).any (upBad ns V) = V.any fun m => !upn ns m from h, List.any_eq_not_all_not, Bool.not_not]
  congr 1
  funext g
  rw [Bool.not_not]
set_option maxHeartbeats 1000000 in
set_option maxRecDepth 100000 in
theorem impl_isValuation (n : Int) (v u : Value) (xs V : List Int) (w : World) (h : Sl cI w v xs) (h' : Sl cI w u V) (hl : xs.length ≤ 1073741824) (hl' : V.length ≤ 1073741824) :
    Calls Tryz.prog 18 #[.agg #[.int .i64 n, v], u] w fun e w' => e = .returned (.bool (vlOk n xs V)) ∧ Below w.heap.size w w' := by
  obtain ⟨A0, c0, rfl⟩ := h.opn
  obtain ⟨A1, c1, rfl⟩ := h'.opn
  have hb0 := below_alloc' w (.cells #[.int .i64 n, .slice A0 xs.length c0] 26)
  have A := Lib.hid hb0
  have HX := Lib.hid (h.below hb0)
  have HV := Lib.hid (h'.below hb0)
  have T1 := Lib.hid (Bk.new w #[.int .i64 n, .slice A0 xs.length c0] 26)
  have HP := Lib.hid (fun W (hW : Sl cI W (.slice A0 xs.length c0) xs) => impl_isPoset n _ xs W hW hl)
  clear h h' hb0
  cases h1 : psOk n xs
  · have E : Hid (vlOk n xs V = false) := Lib.hid (by unfold vlOk; rw [h1]; rfl)
    rw [h1] at HP
    clear h1
    go_enter Tryz.func18, Tryz.ntmps18
    go_upto_region 1 with fail
    generalize World.alloc w _ = w0 at *
    have T1s := T1.out.1
    have T1c := T1.out.2
    go_wp2_with fail
    clear T1s T1c
    refine (HP.out _ HX.out).mono ?_
    rintro e w1 ⟨rfl, hb⟩
    replace HX := Lib.hid (HX.out.below hb)
    replace HV := Lib.hid (HV.out.below hb)
    replace T1 := Lib.hid (T1.out.below hb)
    replace A := Lib.hid (bthen A.out hb)
    clear hb
    go_wp2
    go_ret
    exact ⟨by rw [E.out]; rfl, A.out⟩
  · rw [h1] at HP
    by_cases h2 : V.length = 6
    · have E : Hid (vlOk n xs V = V.all fun m => upn (nL xs) m) := Lib.hid (by unfold vlOk; rw [h1, decide_eq_true h2]; rfl)
      obtain ⟨ns, rfl, rfl, hr, -⟩ := psOk_iff h1
      rw [nL_li] at E
      have EL := li_length ns
      rw [EL] at HX HV T1 A HP ⊢
      have HC := Lib.hid (fun W (hX : Sl cI W (.slice A0 ns.length c0) (li ns)) (hV : Sl cI W (.slice A1 V.length c1) V) (hT : Bk W w.heap.size #[.int .i64 (ns.length : Int), .slice A0 ns.length c0]) => slices_ContainsFunc_ints _ V 41 #[.pointer (some ⟨w.heap.size, 0, none⟩)] (upBad ns V) W hV hl' en_isValuation_1 (fun X hW i hi => by
        rw [show (#[Value.int .i64 V[i]] ++ #[Value.pointer (some ⟨w.heap.size, 0, none⟩)] : Array Value) = #[.int .i64 V[i], .pointer (some ⟨w.heap.size, 0, none⟩)] from rfl]
        have := impl_isValuation_1 ns V[i] w.heap.size A0 c0 X ((hT.below hW).2 0) ((hT.below hW).2 1) (hX.below hW) hr
        rwa [show upBad ns V i = !upn ns V[i] by unfold upBad; rw [List.getD_eq_getElem?_getD, List.getElem?_eq_getElem hi]; rfl]))
      have EC := Lib.hid (upBad_all ns V)
      have h6 : ((V.length : Int) == 6) = true := by rw [h2]; rfl
      clear h1 hr h2 hl hl'
      go_enter Tryz.func18, Tryz.ntmps18
      go_upto_region 1 with fail
      generalize World.alloc w _ = w0 at *
      have T1s := T1.out.1
      have T1c := T1.out.2
      go_wp2_with fail
      clear T1s T1c
      refine (HP.out _ HX.out).mono ?_
      rintro e w1 ⟨rfl, hb⟩
      replace HX := Lib.hid (HX.out.below hb)
      replace HV := Lib.hid (HV.out.below hb)
      replace T1 := Lib.hid (T1.out.below hb)
      replace A := Lib.hid (bthen A.out hb)
      clear hb
      have T1s := T1.out.1
      have T1c := T1.out.2
      go_wp2_with fail
      clear T1s T1c
      refine (HC.out _ HX.out HV.out T1.out).mono ?_
      rintro e w2 ⟨rfl, hb⟩
      replace HX := Lib.hid (HX.out.below hb)
      replace HV := Lib.hid (HV.out.below hb)
      replace T1 := Lib.hid (T1.out.below hb)
      replace A := Lib.hid (bthen A.out hb)
      clear hb
      go_wp2
      go_ret
      exact ⟨by rw [E.out, ← EC.out]; rfl, A.out⟩
    · have E : Hid (vlOk n xs V = false) := Lib.hid (by unfold vlOk; rw [decide_eq_false h2]; simp)
      have h6 : ((V.length : Int) == 6) = false := beq_eq_false_iff_ne.2 (by omega)
      clear h1 h2
      go_enter Tryz.func18, Tryz.ntmps18
      go_upto_region 1 with fail
      generalize World.alloc w _ = w0 at *
      have T1s := T1.out.1
      have T1c := T1.out.2
      go_wp2_with fail
      clear T1s T1c
      refine (HP.out _ HX.out).mono ?_
      rintro e w1 ⟨rfl, hb⟩
      replace HX := Lib.hid (HX.out.below hb)
      replace HV := Lib.hid (HV.out.below hb)
      replace T1 := Lib.hid (T1.out.below hb)
      replace A := Lib.hid (bthen A.out hb)
      clear hb
      go_wp2
      go_ret
      exact ⟨by rw [E.out]; rfl, A.out⟩
end Go.Proofs.YtomojninngdbeaaGreat
