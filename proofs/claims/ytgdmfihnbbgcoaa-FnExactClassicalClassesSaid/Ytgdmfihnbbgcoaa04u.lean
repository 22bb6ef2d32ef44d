/- Contracts of chapter 4, of the program: models of plain formulas. -/
import Derived.Test.YtgdmfihnbbgcoaaM04
import Derived.Test.Ytgdmfihnbbgcoaa33t
import Derived.Test.Ytgdmfihnbbgcoaa33R
import Derived.Test.YtgdmfihnbbgcoaaNN
import Derived.Test.Ytgdmfihnbbgcoaa04m
namespace Go.Proofs.Ytgdmfihnbbgcoaa
open Go.RowKit
set_option linter.unusedVariables false
set_option linter.unusedSimpArgs false
theorem ofInt_u64 (a : Nat) (ha : a < 18446744073709551616) : (BitVec.ofInt 64 (a : Int)).toNat = a := by
  rw [BitVec.ofInt_natCast, BitVec.toNat_ofNat]; exact Nat.mod_eq_of_lt (by omega)
theorem u64_and (a b : Nat) (ha : a < 18446744073709551616) (hb : b < 18446744073709551616) : bits .and .u64 (a : Int) (b : Int) = ((a &&& b : Nat) : Int) := by
  have hx : a &&& b < 2 ^ 64 := Nat.and_lt_two_pow _ (by omega)
  show IntKind.u64.wrap ((BitVec.ofInt 64 (a : Int) &&& BitVec.ofInt 64 (b : Int)).toNat : Int) = _
  rw [BitVec.toNat_and, ofInt_u64 a ha, ofInt_u64 b hb]
  exact IntWalk.u64_in _ ⟨by omega, by omega⟩
theorem u64_or (a b : Nat) (ha : a < 18446744073709551616) (hb : b < 18446744073709551616) : bits .or .u64 (a : Int) (b : Int) = ((a ||| b : Nat) : Int) := by
  have hx : a ||| b < 2 ^ 64 := Nat.or_lt_two_pow (by omega) (by omega)
  show IntKind.u64.wrap ((BitVec.ofInt 64 (a : Int) ||| BitVec.ofInt 64 (b : Int)).toNat : Int) = _
  rw [BitVec.toNat_or, ofInt_u64 a ha, ofInt_u64 b hb]
  exact IntWalk.u64_in _ ⟨by omega, by omega⟩
theorem u64_not (a : Nat) (ha : a < 18446744073709551616) : bits .xor .u64 IntKind.u64.max (a : Int) = ((18446744073709551615 - a : Nat) : Int) := by
  show IntKind.u64.wrap ((BitVec.ofInt 64 18446744073709551615 ^^^ BitVec.ofInt 64 (a : Int)).toNat : Int) = _
  have e : BitVec.ofInt 64 18446744073709551615 = BitVec.allOnes 64 := by decide
  have e2 : BitVec.allOnes 64 ^^^ BitVec.ofInt 64 (a : Int) = ~~~ BitVec.ofInt 64 (a : Int) := by rw [BitVec.xor_comm]; exact BitVec.xor_allOnes
  rw [e, e2, BitVec.toNat_not, ofInt_u64 a ha]
  rw [show 2 ^ 64 - 1 - a = 18446744073709551615 - a from rfl]
  exact IntWalk.u64_in _ ⟨by omega, by omega⟩
theorem impl_isModal_any (k : Int) (w : World) :
    Calls Try.prog 187 #[.int .i64 k] w fun e w' => e = .returned (.bool (k == 5 || k == 6)) ∧ w = w' := by
  by_cases h5 : k = 5
  · subst h5; exact impl_isModal_yes .box w
  · by_cases h6 : k = 6
    · subst h6; exact impl_isModal_yes .dia w
    · have e5 : (k == 5) = false := by rw [beq_eq_false_iff_ne]; exact h5
      have e6 : (k == 6) = false := by rw [beq_eq_false_iff_ne]; exact h6
      rw [e5, e6]
      go_enter Try.func187, Try.ntmps187
      go_wp2
      go_ret
      exact ⟨rfl, rfl⟩
theorem en_isPlain_1 : ∀ (args : Array Value) (w : World), (callFunc 227 args).run Try.prog w = .ok (.enter 227 args) w := enters Try.func227 (by kernel_rfl) (by kernel_rfl)
theorem impl_isPlain_1 (a b : Int) (w : World) :
    Calls Try.prog 227 #[.agg #[.int .i64 a, .int .i64 b]] w fun e w' => e = .returned (.bool (plN (a, b))) ∧ Below w.heap.size w w' := by
  have HM := Lib.hid (fun W => impl_isModal_any a W)
  go_enter Try.func227, Try.ntmps227
  go_wp2_with fail
  refine (HM.out _).mono ?_
  rintro e w1 ⟨rfl, rfl⟩
  go_wp2
  go_ret
  exact ⟨rfl, below_alloc' _ _⟩
theorem impl_isPlain (v : Value) (xs : List Nd) (w : World) (h : Sl cN w v xs) (hl : xs.length ≤ 1048576) :
    Calls Try.prog 163 #[v] w fun e w' => e = .returned (.bool (pl xs)) ∧ Below w.heap.size w w' := by
  have HC := Lib.hid (slices_ContainsFunc_node v xs 227 #[] plN w h (by omega) en_isPlain_1 (fun w' _ a b => by rw [Array.append_empty]; exact impl_isPlain_1 a b w'))
  clear h
  go_enter Try.func163, Try.ntmps163
  go_wp2_with fail
  refine HC.out.mono ?_
  rintro e w1 ⟨rfl, hb⟩
  have HB := Lib.hid hb; clear hb
  go_wp2
  go_ret
  exact ⟨rfl, HB.out⟩
theorem en_plainCode_1 : ∀ (args : Array Value) (w : World), (callFunc 162 args).run Try.prog w = .ok (.enter 162 args) w := enters Try.func162 (by kernel_rfl) (by kernel_rfl)
theorem impl_plainCode_1 (v : Value) (xs : List Nd) (w : World) (h : Sl cN w v xs) (hl : xs.length ≤ 1048576) :
    Calls Try.prog 162 #[v] w fun e w' => e = .returned (.bool (!pl xs)) ∧ Below w.heap.size w w' := by
  have HC := Lib.hid (impl_isPlain v xs w h hl)
  clear h
  go_enter Try.func162, Try.ntmps162
  go_wp2_with fail
  refine HC.out.mono ?_
  rintro e w1 ⟨rfl, hb⟩
  have HB := Lib.hid hb; clear hb
  go_wp2
  go_ret
  exact ⟨rfl, HB.out⟩
theorem impl_plainCode (v : Value) (xss : List (List Nd)) (w : World) (h : Sl2 cN w v xss) (hl : xss.length ≤ 1073741824) (hls : ∀ xs ∈ xss, xs.length ≤ 1048576) :
    Calls Try.prog 93 #[v] w fun e w' => e = .returned (.int .i64 (pcode xss)) ∧ Below w.heap.size w w' := by
  have HF := Lib.hid (impl_areFormulas v xss w h hl hls)
  have HI := Lib.hid (fun W (hW : Below w.heap.size w W) => slices_IndexFunc_nodes v xss 162 #[] (fun xs => !pl xs) W (h.below hW) hl en_plainCode_1 (fun w' _ u xs hx hs => by rw [Array.append_empty]; exact impl_plainCode_1 u xs w' hs (hls xs hx)))
  have hc : ∀ W, Below w.heap.size w W → Calls Try.prog 120 #[v, .func (.func 162) #[] #[]] W fun e w' => e = .returned (.bool (xss.any fun xs => !pl xs)) ∧ Below W.heap.size W w' := by
    intro W hW
    have HI' := Lib.hid (HI.out W hW)
    go_enter Try.func120, Try.ntmps120
    go_wp2_with fail
    refine HI'.out.mono ?_
    rintro e w1 ⟨r, rfl, hr, hb⟩
    have HR := Lib.hid hr; clear hr
    have HB := Lib.hid hb; clear hb
    go_wp2
    go_ret
    exact ⟨by rw [← HR.out]; rfl, HB.out⟩
  have HC := Lib.hid hc; clear hc HI h hls
  have HE : Hid ((xss.any fun xs => !pl xs) = !xss.all pl) := Lib.hid (by rw [Bool.eq_iff_iff]; simp)
  rw [HE.out] at HC
  have HP : Hid (pcode xss = if xss.all isF then (if xss.all pl then 0 else 5) else 1) := Lib.hid rfl
  cases h1 : xss.all isF
  · rw [h1] at HF HP
    go_enter Try.func93, Try.ntmps93
    go_wp2_with fail
    refine HF.out.mono ?_
    rintro e w1 ⟨rfl, hb⟩
    have HB := Lib.hid hb; clear hb
    go_wp2
    go_ret
    exact ⟨by rw [HP.out]; rfl, HB.out⟩
  · rw [h1] at HF HP
    cases h2 : xss.all pl <;> rw [h2] at HC HP
    all_goals
      go_enter Try.func93, Try.ntmps93
      go_wp2_with fail
      refine HF.out.mono ?_
      rintro e w1 ⟨rfl, hb⟩
      have HB := Lib.hid hb; clear hb
      go_wp2_with fail
      refine (HC.out _ HB.out).mono ?_
      rintro e w2 ⟨rfl, hb⟩
      have HB2 := Lib.hid (bthen HB.out hb); clear hb
      go_wp2
      go_ret
      exact ⟨by rw [HP.out]; rfl, HB2.out⟩
set_option maxRecDepth 100000 in
theorem impl_variableRows (s : Nat) (w : World) (hs : s ≤ 5) :
    Calls Try.prog 164 #[.int .i64 s] w fun e w' => e = .returned (.int .u64 (mdl (.var s) : Nat)) ∧ w = w' := by
  go_enter Try.func164, Try.ntmps164
  go_wp2
  go_loop [3, 5] (fun q i => ∃ j : Nat, j ≤ 64 ∧ i = .int .i64 j ∧ q = .int .u64 (msk (ev (.var s)) j : Nat)) (fun _ i => 64 - (intOf i).toNat)
  case atStart => exact ⟨0, Nat.zero_le _, rfl, rfl⟩
  case round =>
    obtain ⟨j, hj, rfl, rfl⟩ := hrel
    by_cases hlt : j < 64
    · have HH := Lib.hid (impl_has j s w (by omega) (by omega))
      have hml : msk (ev (.var s)) j < 18446744073709551616 := Nat.lt_of_lt_of_le (msk_lt _ _) (Nat.le_trans (Nat.pow_le_pow_right (by decide) (by omega)) (Nat.le_refl (2 ^ 64)))
      have h2 : 2 ^ j < 18446744073709551616 := Nat.pow_lt_pow_right (a := 2) (m := j) (n := 64) (by decide) hlt
      have hor := u64_or (msk (ev (.var s)) j) (2 ^ j) hml h2
      have HS : Hid (msk (ev (.var s)) (j + 1) = msk (ev (.var s)) j ||| if j.testBit s then 2 ^ j else 0) := Lib.hid rfl
      cases hb : j.testBit s
      · rw [hb] at HH HS
        generalize msk (ev (.var s)) j = q at *
        go_wp2_with fail
        refine HH.out.mono ?_
        rintro e w1 ⟨rfl, rfl⟩
        go_wp2
        go_round
        case rel => exact ⟨j + 1, by omega, by go_num, by rw [HS.out]; simp⟩
        case measure => simp [intOf]; omega
      · rw [hb] at HH HS
        generalize msk (ev (.var s)) j = q at *
        go_wp2_with fail
        refine HH.out.mono ?_
        rintro e w1 ⟨rfl, rfl⟩
        have hw : IntKind.u64.wrap ((2 : Int) ^ j) = ((2 ^ j : Nat) : Int) := by rw [cast_two_pow]; clear hor; generalize 2 ^ j = t at *; exact IntWalk.u64_in _ ⟨by omega, by omega⟩
        go_wp2
        go_round
        case rel => exact ⟨j + 1, by omega, by go_num, by rw [cast_two_pow, hor, HS.out, if_pos (by simp)]⟩
        case measure => simp [intOf]; omega
    · obtain rfl : j = 64 := by omega
      go_wp2
      go_ret
      exact ⟨rfl, rfl⟩
/-- the models of a formula, of the program -/
def MdOK (f : Fm) : Prop := ∀ (v : Value) (w : World), Sl cN w v (enc f) → (enc f).length ≤ 1048576 → f.ok = true → f.plain = true →
  Calls Try.prog 94 #[v] w fun e w' => e = .returned (.int .u64 (mdl f : Nat)) ∧ w = w'
theorem mdl_fls : mdl .fls = 0 := by decide
theorem md_fls : MdOK .fls := by
  intro v w h hl hok hpl
  obtain ⟨A, c, rfl⟩ := h.opn
  obtain ⟨b', o, y, rfl, hb, h0, h1⟩ := kd_cell h
  have h00 : w.cell? ⟨b', o, none⟩ = some (.int .i64 1) := h0
  have HM := Lib.hid mdl_fls
  clear h h0 h1
  simp only [enc, List.length_cons, List.length_nil] at *
  go_enter Try.func94, Try.ntmps94
  go_wp2
  go_ret
  exact ⟨by rw [HM.out]; rfl, rfl⟩
theorem md_var (s : Nat) : MdOK (.var s) := by
  intro v w h hl hok hpl
  have hs : s ≤ 5 := by have := hok; simp only [Fm.ok, decide_eq_true_eq] at this; omega
  have HV := Lib.hid (impl_variableRows s w hs)
  obtain ⟨A, c, rfl⟩ := h.opn
  obtain ⟨b', o, rfl, hb, h00, h01⟩ := (show Sl cN w (.slice A (enc (.var s)).length c) [(0, (s : Int))] from h).atN0
  clear h
  simp only [enc, List.length_cons, List.length_nil] at *
  go_enter Try.func94, Try.ntmps94
  go_wp2_with fail
  refine HV.out.mono ?_
  rintro e w1 ⟨rfl, rfl⟩
  go_wp2
  go_ret
  exact ⟨rfl, rfl⟩
set_option maxRecDepth 100000 in
theorem md_and (a b : Fm) (iha : MdOK a) (ihb : MdOK b) : MdOK (.bin .and a b) := by
  intro v w h hl hok hpl
  obtain ⟨A, c, rfl⟩ := h.opn
  obtain ⟨b', o, y, rfl, hb, h0, h1⟩ := kd_cell h
  have h00 : w.cell? ⟨b', o, none⟩ = some (.int .i64 2) := h0
  have hp := enc_pos (.bin .and a b)
  have hlen : (enc (.bin .and a b)).length = 1 + ((enc a).length + (enc b).length) := by simp [enc]; omega
  have hF1 : Sl cN w (.slice (some ⟨b', o, none⟩) (enc (.bin .and a b)).length c) ((2, 0) :: (enc a ++ enc b)) := h
  have hF2 : Sl cN w (.slice (some ⟨b', o, none⟩) (enc (.bin .and a b)).length c) ((2, 0) :: (enc a ++ (enc b ++ []))) := by rw [List.append_nil]; exact h
  have H1 := Lib.hid (first_g _ (2, 0) a (enc b) w hF1 (by simp; omega))
  have H2 := Lib.hid (second_g _ (2, 0) a b [] w hF2 (by simp; omega))
  simp only [Fm.ok, Fm.plain, Bool.and_eq_true] at hok hpl
  have HA := Lib.hid (fun u (hu : Sl cN w u (enc a)) => iha u w hu (by omega) hok.1 hpl.1)
  have HB := Lib.hid (fun u (hu : Sl cN w u (enc b)) => ihb u w hu (by omega) hok.2 hpl.2)
  have G1 := Lib.hid hF1
  have G2 := Lib.hid hF2
  have HM := Lib.hid (mdl_and a b)
  have hbits := u64_and (mdl a) (mdl b) (mdl_lt a) (mdl_lt b)
  have hma := mdl_lt a
  have hmb := mdl_lt b
  generalize mdl a = ma at *
  generalize mdl b = mb at *
  clear h h0 h1 hF1 hF2 hl hlen hok hpl
  obtain ⟨m, hm⟩ : ∃ m, (enc (.bin .and a b)).length = m := ⟨_, rfl⟩
  rw [hm] at hp H1 H2 G1 G2 ⊢
  clear hm
  go_enter Try.func94, Try.ntmps94
  go_wp2_with fail
  refine H1.out.mono ?_
  rintro e w1 ⟨u1, rfl, hu1, rfl⟩
  have HU1 := Lib.hid (HA.out u1 (hu1 w G1.out))
  clear hu1
  go_wp2_with fail
  refine HU1.out.mono ?_
  rintro e w1 ⟨rfl, rfl⟩
  go_wp2_with fail
  refine H2.out.mono ?_
  rintro e w1 ⟨u2, rfl, hu2, rfl⟩
  have HU2 := Lib.hid (HB.out u2 (hu2 _ G2.out))
  clear hu2
  go_wp2_with fail
  refine HU2.out.mono ?_
  rintro e w1 ⟨rfl, rfl⟩
  go_wp2
  go_ret
  exact ⟨by rw [HM.out]; rfl, rfl⟩
set_option maxRecDepth 100000 in
theorem md_or (a b : Fm) (iha : MdOK a) (ihb : MdOK b) : MdOK (.bin .or a b) := by
  intro v w h hl hok hpl
  obtain ⟨A, c, rfl⟩ := h.opn
  obtain ⟨b', o, y, rfl, hb, h0, h1⟩ := kd_cell h
  have h00 : w.cell? ⟨b', o, none⟩ = some (.int .i64 3) := h0
  have hp := enc_pos (.bin .or a b)
  have hlen : (enc (.bin .or a b)).length = 1 + ((enc a).length + (enc b).length) := by simp [enc]; omega
  have hF1 : Sl cN w (.slice (some ⟨b', o, none⟩) (enc (.bin .or a b)).length c) ((3, 0) :: (enc a ++ enc b)) := h
  have hF2 : Sl cN w (.slice (some ⟨b', o, none⟩) (enc (.bin .or a b)).length c) ((3, 0) :: (enc a ++ (enc b ++ []))) := by rw [List.append_nil]; exact h
  have H1 := Lib.hid (first_g _ (3, 0) a (enc b) w hF1 (by simp; omega))
  have H2 := Lib.hid (second_g _ (3, 0) a b [] w hF2 (by simp; omega))
  simp only [Fm.ok, Fm.plain, Bool.and_eq_true] at hok hpl
  have HA := Lib.hid (fun u (hu : Sl cN w u (enc a)) => iha u w hu (by omega) hok.1 hpl.1)
  have HB := Lib.hid (fun u (hu : Sl cN w u (enc b)) => ihb u w hu (by omega) hok.2 hpl.2)
  have G1 := Lib.hid hF1
  have G2 := Lib.hid hF2
  have HM := Lib.hid (mdl_or a b)
  have hbits := u64_or (mdl a) (mdl b) (mdl_lt a) (mdl_lt b)
  have hma := mdl_lt a
  have hmb := mdl_lt b
  generalize mdl a = ma at *
  generalize mdl b = mb at *
  clear h h0 h1 hF1 hF2 hl hlen hok hpl
  obtain ⟨m, hm⟩ : ∃ m, (enc (.bin .or a b)).length = m := ⟨_, rfl⟩
  rw [hm] at hp H1 H2 G1 G2 ⊢
  clear hm
  go_enter Try.func94, Try.ntmps94
  go_wp2_with fail
  refine H1.out.mono ?_
  rintro e w1 ⟨u1, rfl, hu1, rfl⟩
  have HU1 := Lib.hid (HA.out u1 (hu1 w G1.out))
  clear hu1
  go_wp2_with fail
  refine HU1.out.mono ?_
  rintro e w1 ⟨rfl, rfl⟩
  go_wp2_with fail
  refine H2.out.mono ?_
  rintro e w1 ⟨u2, rfl, hu2, rfl⟩
  have HU2 := Lib.hid (HB.out u2 (hu2 _ G2.out))
  clear hu2
  go_wp2_with fail
  refine HU2.out.mono ?_
  rintro e w1 ⟨rfl, rfl⟩
  go_wp2
  go_ret
  exact ⟨by rw [HM.out]; rfl, rfl⟩
set_option maxRecDepth 100000 in
theorem md_imp (a b : Fm) (iha : MdOK a) (ihb : MdOK b) : MdOK (.bin .imp a b) := by
  intro v w h hl hok hpl
  obtain ⟨A, c, rfl⟩ := h.opn
  obtain ⟨b', o, y, rfl, hb, h0, h1⟩ := kd_cell h
  have h00 : w.cell? ⟨b', o, none⟩ = some (.int .i64 4) := h0
  have hp := enc_pos (.bin .imp a b)
  have hlen : (enc (.bin .imp a b)).length = 1 + ((enc a).length + (enc b).length) := by simp [enc]; omega
  have hF1 : Sl cN w (.slice (some ⟨b', o, none⟩) (enc (.bin .imp a b)).length c) ((4, 0) :: (enc a ++ enc b)) := h
  have hF2 : Sl cN w (.slice (some ⟨b', o, none⟩) (enc (.bin .imp a b)).length c) ((4, 0) :: (enc a ++ (enc b ++ []))) := by rw [List.append_nil]; exact h
  have H1 := Lib.hid (first_g _ (4, 0) a (enc b) w hF1 (by simp; omega))
  have H2 := Lib.hid (second_g _ (4, 0) a b [] w hF2 (by simp; omega))
  simp only [Fm.ok, Fm.plain, Bool.and_eq_true] at hok hpl
  have HA := Lib.hid (fun u (hu : Sl cN w u (enc a)) => iha u w hu (by omega) hok.1 hpl.1)
  have HB := Lib.hid (fun u (hu : Sl cN w u (enc b)) => ihb u w hu (by omega) hok.2 hpl.2)
  have G1 := Lib.hid hF1
  have G2 := Lib.hid hF2
  have HM := Lib.hid (mdl_imp a b)
  have hbits := u64_or (18446744073709551615 - mdl a) (mdl b) (by omega) (mdl_lt b)
  have hnot := u64_not (mdl a) (mdl_lt a)
  have hma := mdl_lt a
  have hmb := mdl_lt b
  generalize 18446744073709551615 - mdl a = na at *
  generalize mdl a = ma at *
  generalize mdl b = mb at *
  clear h h0 h1 hF1 hF2 hl hlen hok hpl
  obtain ⟨m, hm⟩ : ∃ m, (enc (.bin .imp a b)).length = m := ⟨_, rfl⟩
  rw [hm] at hp H1 H2 G1 G2 ⊢
  clear hm
  go_enter Try.func94, Try.ntmps94
  go_wp2_with fail
  refine H1.out.mono ?_
  rintro e w1 ⟨u1, rfl, hu1, rfl⟩
  have HU1 := Lib.hid (HA.out u1 (hu1 w G1.out))
  clear hu1
  go_wp2_with fail
  refine HU1.out.mono ?_
  rintro e w1 ⟨rfl, rfl⟩
  go_wp2_with fail
  refine H2.out.mono ?_
  rintro e w1 ⟨u2, rfl, hu2, rfl⟩
  have HU2 := Lib.hid (HB.out u2 (hu2 _ G2.out))
  clear hu2
  go_wp2_with fail
  refine HU2.out.mono ?_
  rintro e w1 ⟨rfl, rfl⟩
  go_wp2
  go_ret
  exact ⟨by rw [HM.out]; rfl, rfl⟩
theorem ty_rows : Ty Try.prog 126 128 (.int .u64 0) 1 8 := Ty.mk' Try.underlying126 (by kernel_rfl) rfl (by decide)
theorem md_all (f : Fm) : MdOK f := by
  induction f with
  | var s => exact md_var s
  | fls => exact md_fls
  | un k a ih => intro v w h hl hok hpl; simp [Fm.plain] at hpl
  | bin k a b iha ihb =>
    cases k
    · exact md_and a b iha ihb
    · exact md_or a b iha ihb
    · exact md_imp a b iha ihb
theorem pcode_zero {xss : List (List Nd)} (h : pcode xss = 0) : ∃ I : List Fm, xss = I.map enc ∧ ∀ g ∈ I, g.ok = true ∧ (enc g).length ≤ 40 ∧ g.plain = true := by
  unfold pcode at h
  by_cases h1 : xss.all isF = true
  · rw [if_pos h1] at h
    by_cases h2 : xss.all pl = true
    · obtain ⟨I, rfl, hI⟩ := all_enc xss h1
      refine ⟨I, rfl, fun g hg => ⟨(hI g hg).1, (hI g hg).2, ?_⟩⟩
      rw [← pl_enc]
      exact List.all_eq_true.1 h2 _ (List.mem_map_of_mem hg)
    · rw [if_neg h2] at h; exact absurd h (by decide)
  · rw [if_neg h1] at h; exact absurd h (by decide)
theorem pcode_ok {I : List Fm} (hI : ∀ g ∈ I, g.ok = true ∧ (enc g).length ≤ 40 ∧ g.plain = true) : pcode (I.map enc) = 0 := by
  have e1 : (I.map enc).all isF = true := by
    rw [List.all_eq_true]
    intro x hx
    obtain ⟨g, hg, rfl⟩ := List.mem_map.1 hx
    exact (isF_iff _).2 ⟨g, (hI g hg).1, rfl, (hI g hg).2.1⟩
  have e2 : (I.map enc).all pl = true := by
    rw [List.all_eq_true]
    intro x hx
    obtain ⟨g, hg, rfl⟩ := List.mem_map.1 hx
    rw [pl_enc]; exact (hI g hg).2.2
  unfold pcode
  rw [e1, e2]; rfl
theorem impl_ClassicalClasses_bad (v : Value) (xss : List (List Nd)) (w : World) (h : Sl2 cN w v xss) (hl : tot xss ≤ 1048576) (hc : pcode xss ≠ 0) :
    Calls Try.prog 39 #[v] w fun e w' => e = .returned (.tuple #[.slice none 0 0, .int .i64 (pcode xss)]) ∧ Below w.heap.size w w' := by
  have H1 := Lib.hid (impl_plainCode v xss w h (by have := (tot_len hl).1; omega) (tot_len hl).2)
  have hc' : (pcode xss != 0) = true := by simpa using hc
  generalize pcode xss = k at *
  clear h hc
  go_enter Try.func39, Try.ntmps39
  go_wp2_with fail
  refine H1.out.mono ?_
  rintro e w1 ⟨rfl, hb⟩
  have HB := Lib.hid hb; clear hb
  go_wp2
  go_ret2
  exact ⟨rfl, HB.out⟩
set_option maxRecDepth 100000 in
theorem impl_ClassicalClasses_ok (v : Value) (O : List Fm) (w : World) (h : Sl2 cN w v (O.map enc)) (hl : tot (O.map enc) ≤ 1048576) (hI : ∀ g ∈ O, g.ok = true ∧ (enc g).length ≤ 40 ∧ g.plain = true) :
    Calls Try.prog 39 #[v] w fun e w' => ∃ u, e = .returned (.tuple #[u, .int .i64 0]) ∧ Ow cI 2 w.heap.size w' u (li (dvd (fun y => (O.map mdl).getD y 0) O.length).1) ∧ Below w.heap.size w w' := by
  obtain ⟨A, c, rfl⟩ := h.opn
  have H1 := Lib.hid (pcode_ok hI ▸ impl_plainCode _ _ w h (by have := (tot_len hl).1; omega) (tot_len hl).2)
  have hlen := (tot_len hl).1
  rw [List.length_map] at hlen
  have H2 := Lib.hid h
  have HK := Lib.hid hI
  have HLM : Hid ((O.map enc).length = O.length) := Lib.hid (List.length_map _)
  have HLT : Hid ((O.map mdl).length = O.length) := Lib.hid (List.length_map _)
  have HDv := Lib.hid (fun (u : Value) W (hu : Sl cU W u (O.map mdl)) => impl_dividedU u (O.map mdl) W hu (fun i => by
    rw [List.getD_eq_getElem?_getD, List.getElem?_map]
    cases O[i]? with
    | none => simp
    | some g => exact mdl_lt g) (by rw [List.length_map]; exact hlen))
  rw [HLM.out] at H1 H2 ⊢
  clear h hI hl
  go_enter Try.func39, Try.ntmps39
  go_wp2_with fail
  refine H1.out.mono ?_
  rintro e w1 ⟨rfl, hb⟩
  have HB1 := Lib.hid hb; clear hb
  go_wp2
  go_loopw [5, 15] (fun q i wr => ∃ j : Nat, j ≤ O.length ∧ i = .int .i64 j ∧ Ow cU 128 w.heap.size wr q ((O.map mdl).take j) ∧ Below w.heap.size w wr) (fun _ i _ => O.length - (intOf i).toNat)
  case atStart => exact ⟨0, Nat.zero_le _, rfl, by simpa using Ow.nil _ _, HB1.out⟩
  case round =>
    obtain ⟨j, hj, rfl, ho, hb⟩ := hrel
    by_cases hlt : j < O.length
    · have hlt' : j < (O.map enc).length := by rw [HLM.out]; exact hlt
      obtain ⟨b, o, A2, c2, rfl, hbl, hc0, hs2⟩ := ((show Sl2 cN w (.slice A O.length c) (O.map enc) from H2.out).below hb).atM hlt'
      have he : (O.map enc)[j]'hlt' = enc (O[j]'hlt) := List.getElem_map _
      rw [he] at hc0 hs2
      have hgg := HK.out _ (List.getElem_mem hlt)
      have HT := Lib.hid (md_all (O[j]'hlt) _ _ hs2 (by omega) hgg.1 hgg.2.2)
      have HX : Hid ((O.map mdl).take (j + 1) = (O.map mdl).take j ++ [mdl (O[j]'hlt)]) := Lib.hid (by rw [List.take_succ_eq_append_getElem (by rw [HLT.out]; exact hlt), List.getElem_map])
      have HL : Hid (((O.map mdl).take j).length = j) := Lib.hid (by rw [List.length_take, HLT.out]; omega)
      have HO := Lib.hid ho
      have HB := Lib.hid hb
      obtain ⟨m, hm⟩ : ∃ m, (enc (O[j]'hlt)).length = m := ⟨_, rfl⟩
      obtain ⟨z, hz⟩ : ∃ z, mdl (O[j]'hlt) = z := ⟨_, rfl⟩
      obtain ⟨ys, hys⟩ : ∃ ys, (O.map mdl).take j = ys := ⟨_, rfl⟩
      rw [hm] at hc0 HT
      rw [hz] at HT HX
      rw [hys] at HO HX HL
      clear hs2 ho hb hm hz hys he hgg
      go_wp2_with fail
      refine HT.out.mono ?_
      rintro e w2 ⟨rfl, rfl⟩
      clear hc0
      go_wp2_with (at_builtin; refine stopHere ?_)
      refine goHere ?_
      refine ap_one (K := cU) _ ty_rows rfl _ _ rfl (xs := ys) rfl HO.out z rfl rfl (by have := HL.out; omega) HB.out.size ?_
      intro v1 w3 ho1 hg1 hb1 hat1
      have HO1 : Hid (Ow cU 128 w.heap.size w3 v1 ((O.map mdl).take (j + 1))) := Lib.hid (by rw [HX.out]; exact ho1)
      have HB5 : Hid (Below w.heap.size w w3) := Lib.hid (HB.out.trans hb1)
      clear ho1 hg1 hb1 hat1
      go_wp2
      go_roundw
      case rel => exact ⟨j + 1, by omega, by go_num, HO1.out, HB5.out⟩
      case measure => simp [intOf]; omega
    · obtain rfl : j = O.length := by omega
      rw [show (O.map mdl).take O.length = O.map mdl by rw [← HLT.out, List.take_length]] at ho
      have HD := Lib.hid (HDv.out _ _ ho.sl)
      rw [HLT.out] at HD
      have HB := Lib.hid hb
      clear ho hb
      go_wp2_with fail
      refine HD.out.mono ?_
      rintro e w3 ⟨u3, rfl, ho3, hb3⟩
      have HO := Lib.hid (ho3.mono HB.out.size)
      have HB3 := Lib.hid (bthen HB.out hb3)
      clear ho3 hb3
      go_wp2
      go_ret2
      exact ⟨_, rfl, HO.out, HB3.out⟩
end Go.Proofs.Ytgdmfihnbbgcoaa
