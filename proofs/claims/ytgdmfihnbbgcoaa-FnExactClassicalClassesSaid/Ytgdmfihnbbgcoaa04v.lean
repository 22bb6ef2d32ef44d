/- Contracts of chapter 4, of the reference: codes, values and tables of plain formulas. -/
import Derived.Test.YtgdmfihnbbgcoaaM04p
import Derived.Test.Ytgdmfihnbbgcoaa33R
import Derived.Test.Ytgdmfihnbbgcoaa05e
import Derived.Test.Ytgdmfihnbbgcoaa33t
namespace Go.Proofs.Ytgdmfihnbbgcoaa
open Go.RowKit
set_option linter.unusedVariables false
set_option linter.unusedSimpArgs false
set_option maxRecDepth 100000 in
theorem spec_l02Plain (v : Value) (xs : List Nd) (w : World) (h : Sl cN w v xs) (hl : xs.length ≤ 1048576) :
    Calls Try.prog 160 #[v] w fun e w' => e = .returned (.bool (pl xs)) ∧ w = w' := by
  obtain ⟨A, c, rfl⟩ := h.opn
  have HS : Hid (∀ j (h : j < xs.length), plN (xs[j]'h) = true → pl xs = false) := Lib.hid fun j hj e => by
    unfold pl; rw [Bool.not_eq_false', List.any_eq_true]; exact ⟨_, List.getElem_mem hj, e⟩
  have HE : Hid ((∀ j (h : j < xs.length), plN (xs[j]'h) = false) → pl xs = true) := Lib.hid fun e => by
    unfold pl; rw [Bool.not_eq_true', List.any_eq_false]
    intro x hx
    obtain ⟨j, hj, rfl⟩ := List.getElem_of_mem hx
    rw [e j hj]; decide
  go_enter Try.func160, Try.ntmps160
  go_wp2
  go_loop [3] (fun i => ∃ j : Nat, j ≤ xs.length ∧ i = .int .i64 j ∧ ∀ k (hk : k < xs.length), k < j → plN (xs[k]'hk) = false) (fun i => xs.length - (intOf i).toNat)
  case atStart => exact ⟨0, Nat.zero_le _, rfl, fun k hk h => by omega⟩
  case round =>
    obtain ⟨j, hj, rfl, hh⟩ := hrel
    by_cases hlt : j < xs.length
    · obtain ⟨b, o, rfl, hbl, hc0, hc1⟩ := h.atN hlt
      have HH := Lib.hid hh
      have HSj := Lib.hid (HS.out j hlt)
      have hpn : plN (xs[j]'hlt) = ((xs[j]'hlt).1 == 5 || (xs[j]'hlt).1 == 6) := rfl
      have HPn := Lib.hid hpn
      obtain ⟨z, hz⟩ : ∃ z, (xs[j]'hlt).1 = z := ⟨_, rfl⟩
      rw [hz] at hc0 HPn
      clear hh hpn hz hc1
      by_cases h5 : z = 5
      · subst h5
        go_wp2
        go_ret
        exact ⟨by rw [HSj.out (by rw [HPn.out]; rfl)]; rfl, rfl⟩
      · by_cases h6 : z = 6
        · subst h6
          go_wp2
          go_ret
          exact ⟨by rw [HSj.out (by rw [HPn.out]; rfl)]; rfl, rfl⟩
        · have e5 : (z == 5) = false := by rw [beq_eq_false_iff_ne]; exact h5
          have e6 : (z == 6) = false := by rw [beq_eq_false_iff_ne]; exact h6
          have HQ : Hid (plN (xs[j]'hlt) = false) := Lib.hid (by rw [HPn.out, e5, e6]; rfl)
          clear h5 h6
          go_wp2
          go_round
          case rel => exact ⟨j + 1, by omega, by go_num, fun k hk hkj => by
            by_cases e : k = j
            · subst e; exact HQ.out
            · exact HH.out k hk (by omega)⟩
          case measure => simp [intOf]; omega
    · obtain rfl : j = xs.length := by omega
      have HR := Lib.hid (HE.out fun k hk => hh k hk hk)
      clear hh h
      go_wp2
      go_ret
      exact ⟨by rw [HR.out]; rfl, rfl⟩
set_option maxRecDepth 100000 in
theorem spec_l04Code (v : Value) (xss : List (List Nd)) (w : World) (h : Sl2 cN w v xss) (hl : xss.length ≤ 1073741824) (hls : ∀ xs ∈ xss, xs.length ≤ 1048576) :
    Calls Try.prog 90 #[v] w fun e w' => e = .returned (.int .i64 (pcode xss)) ∧ w = w' := by
  obtain ⟨A, c, rfl⟩ := h.opn
  have H2 := Lib.hid h
  have HY := Lib.hid hls
  have HP1 : Hid (∀ j (h : j < xss.length), isF (xss[j]'h) = false → pcode xss = 1) := Lib.hid fun j hj e => by
    unfold pcode; rw [if_neg]; intro h; rw [List.all_eq_true.1 h _ (List.getElem_mem hj)] at e; cases e
  have HP2 : Hid ((∀ k (hk : k < xss.length), isF (xss[k]'hk) = true) → ∀ j (h : j < xss.length), pl (xss[j]'h) = false → pcode xss = 5) := Lib.hid fun e j hj e2 => by
    unfold pcode
    rw [if_pos (List.all_eq_true.2 fun x hx => by obtain ⟨k, hk, rfl⟩ := List.getElem_of_mem hx; exact e k hk), if_neg]
    intro h; rw [List.all_eq_true.1 h _ (List.getElem_mem hj)] at e2; cases e2
  have HP3 : Hid ((∀ k (hk : k < xss.length), isF (xss[k]'hk) = true) → (∀ k (hk : k < xss.length), pl (xss[k]'hk) = true) → pcode xss = 0) := Lib.hid fun e e2 => by
    unfold pcode
    rw [if_pos (List.all_eq_true.2 fun x hx => by obtain ⟨k, hk, rfl⟩ := List.getElem_of_mem hx; exact e k hk), if_pos (List.all_eq_true.2 fun x hx => by obtain ⟨k, hk, rfl⟩ := List.getElem_of_mem hx; exact e2 k hk)]
  clear h hls
  go_enter Try.func90, Try.ntmps90
  go_wp2
  go_loop [3] (fun i => ∃ j : Nat, j ≤ xss.length ∧ i = .int .i64 j ∧ ∀ k (hk : k < xss.length), k < j → isF (xss[k]'hk) = true) (fun i => xss.length - (intOf i).toNat)
  case atStart => exact ⟨0, Nat.zero_le _, rfl, fun k hk h => by omega⟩
  case round =>
    obtain ⟨j, hj, rfl, hh⟩ := hrel
    by_cases hlt : j < xss.length
    · obtain ⟨b, o, Ai, ci, rfl, hbl, hc0, hs⟩ := H2.out.atM hlt
      have HI := Lib.hid (spec_l02Is _ _ _ hs (by have := HY.out _ (List.getElem_mem hlt); omega))
      have HH := Lib.hid hh
      have HPj := Lib.hid (HP1.out j hlt)
      obtain ⟨m, hm⟩ : ∃ m, (xss[j]'hlt).length = m := ⟨_, rfl⟩
      obtain ⟨z, hz⟩ : ∃ z, isF (xss[j]'hlt) = z := ⟨_, rfl⟩
      have HZ := Lib.hid hz
      rw [hz] at HI HPj
      rw [hm] at HI hc0
      clear hs hm hz hh
      cases z
      · go_wp2_with fail
        refine HI.out.mono ?_
        rintro e w2 ⟨rfl, rfl⟩
        go_wp2
        go_ret
        exact ⟨by rw [HPj.out (by trivial)]; rfl, rfl⟩
      · go_wp2_with fail
        refine HI.out.mono ?_
        rintro e w2 ⟨rfl, rfl⟩
        go_wp2
        go_round
        case rel => exact ⟨j + 1, by omega, by go_num, fun k hk hkj => by
            by_cases e : k = j
            · subst e; exact HZ.out
            · exact HH.out k hk (by omega)⟩
        case measure => simp [intOf]; omega
    · obtain rfl : j = xss.length := by omega
      have HAll : Hid (∀ k (hk : k < xss.length), isF (xss[k]'hk) = true) := Lib.hid fun k hk => hh k hk hk
      clear hh
      go_wp2
      go_loop [4] (fun i => ∃ j : Nat, j ≤ xss.length ∧ i = .int .i64 j ∧ ∀ k (hk : k < xss.length), k < j → pl (xss[k]'hk) = true) (fun i => xss.length - (intOf i).toNat)
      case atStart => exact ⟨0, Nat.zero_le _, rfl, fun k hk h => by omega⟩
      case round =>
        obtain ⟨j, hj, rfl, hh⟩ := hrel
        by_cases hlt : j < xss.length
        · obtain ⟨b, o, Ai, ci, rfl, hbl, hc0, hs⟩ := H2.out.atM hlt
          have HI := Lib.hid (spec_l02Plain _ _ _ hs (by have := HY.out _ (List.getElem_mem hlt); omega))
          have HH := Lib.hid hh
          have HPj := Lib.hid (HP2.out HAll.out j hlt)
          obtain ⟨m, hm⟩ : ∃ m, (xss[j]'hlt).length = m := ⟨_, rfl⟩
          obtain ⟨z, hz⟩ : ∃ z, pl (xss[j]'hlt) = z := ⟨_, rfl⟩
          have HZ := Lib.hid hz
          rw [hz] at HI HPj
          rw [hm] at HI hc0
          clear hs hm hz hh
          cases z
          · go_wp2_with fail
            refine HI.out.mono ?_
            rintro e w2 ⟨rfl, rfl⟩
            go_wp2
            go_ret
            exact ⟨by rw [HPj.out (by trivial)]; rfl, rfl⟩
          · go_wp2_with fail
            refine HI.out.mono ?_
            rintro e w2 ⟨rfl, rfl⟩
            go_wp2
            go_round
            case rel => exact ⟨j + 1, by omega, by go_num, fun k hk hkj => by
                by_cases e : k = j
                · subst e; exact HZ.out
                · exact HH.out k hk (by omega)⟩
            case measure => simp [intOf]; omega
        · obtain rfl : j = xss.length := by omega
          have HR := Lib.hid (HP3.out HAll.out fun k hk => hh k hk hk)
          clear hh
          go_wp2
          go_ret
          exact ⟨by rw [HR.out]; rfl, rfl⟩
/-- the value of a formula in a row, of the reference -/
def VlOK (f : Fm) : Prop := ∀ (v : Value) (r : Nat) (w : World), Sl cN w v (enc f) → (enc f).length ≤ 1048576 → f.ok = true → f.plain = true → r < 64 →
  Calls Try.prog 161 #[v, .int .i64 r] w fun e w' => e = .returned (.bool (ev f r)) ∧ w = w'
theorem vl_fls : VlOK .fls := by
  intro v r w h hl hok hpl hr
  obtain ⟨A, c, rfl⟩ := h.opn
  obtain ⟨b', o, y, rfl, hb, h0, h1⟩ := kd_cell h
  have h00 : w.cell? ⟨b', o, none⟩ = some (.int .i64 1) := h0
  clear h h0 h1
  simp only [enc, List.length_cons, List.length_nil] at *
  go_enter Try.func161, Try.ntmps161
  go_wp2
  go_ret
  exact ⟨rfl, rfl⟩
theorem vl_var (s : Nat) : VlOK (.var s) := by
  intro v r w h hl hok hpl hr
  have hs : s ≤ 5 := by have := hok; simp only [Fm.ok, decide_eq_true_eq] at this; omega
  have HV := Lib.hid (spec_l01Bit r s w (by omega) (by omega))
  obtain ⟨A, c, rfl⟩ := h.opn
  obtain ⟨b', o, rfl, hb, h00, h01⟩ := (show Sl cN w (.slice A (enc (.var s)).length c) [(0, (s : Int))] from h).atN0
  clear h
  simp only [enc, List.length_cons, List.length_nil] at *
  go_enter Try.func161, Try.ntmps161
  go_wp2_with fail
  refine HV.out.mono ?_
  rintro e w1 ⟨rfl, rfl⟩
  go_wp2
  go_ret
  exact ⟨rfl, rfl⟩
set_option maxRecDepth 100000 in
theorem vl_and (a b : Fm) (iha : VlOK a) (ihb : VlOK b) : VlOK (.bin .and a b) := by
  intro v r w h hl hok hpl hr
  obtain ⟨A, c, rfl⟩ := h.opn
  obtain ⟨b', o, y, rfl, hb, h0, h1⟩ := kd_cell h
  have h00 : w.cell? ⟨b', o, none⟩ = some (.int .i64 2) := h0
  have hp := enc_pos (.bin .and a b)
  have hlen : (enc (.bin .and a b)).length = 1 + ((enc a).length + (enc b).length) := by simp [enc]; omega
  have hF1 : Sl cN w (.slice (some ⟨b', o, none⟩) (enc (.bin .and a b)).length c) ((2, 0) :: (enc a ++ enc b)) := h
  have H1 := Lib.hid (left_g _ (2, 0) a (enc b) w hF1 (by simp; omega))
  have H2 := Lib.hid (right_g _ (2, 0) a b w hF1 (by simp; omega))
  simp only [Fm.ok, Fm.plain, Bool.and_eq_true] at hok hpl
  have HA := Lib.hid (fun u (hu : Sl cN w u (enc a)) => iha u r w hu (by omega) hok.1 hpl.1 hr)
  have HB := Lib.hid (fun u (hu : Sl cN w u (enc b)) => ihb u r w hu (by omega) hok.2 hpl.2 hr)
  have G1 := Lib.hid hF1
  have HM : Hid (ev (.bin .and a b) r = (ev a r && ev b r)) := Lib.hid rfl
  clear h h0 h1 hF1 hl hlen hok hpl
  obtain ⟨m, hm⟩ : ∃ m, (enc (.bin .and a b)).length = m := ⟨_, rfl⟩
  rw [hm] at hp H1 H2 G1 ⊢
  clear hm
  generalize ev b r = vb at *
  obtain ⟨va, hva⟩ : ∃ va, ev a r = va := ⟨_, rfl⟩
  rw [hva] at HA HM
  clear hva
  cases va
  all_goals
    go_enter Try.func161, Try.ntmps161
    go_wp2_with fail
    refine H1.out.mono ?_
    rintro e w1 ⟨u1, rfl, hu1, rfl⟩
    have HU1 := Lib.hid (HA.out u1 (hu1 w G1.out))
    clear hu1
    go_wp2_with fail
    refine HU1.out.mono ?_
    rintro e w1 ⟨rfl, rfl⟩
    first
    | (go_wp2; go_ret; exact ⟨by rw [HM.out]; rfl, rfl⟩)
    | (go_wp2_with fail
       refine H2.out.mono ?_
       rintro e w1 ⟨u2, rfl, hu2, rfl⟩
       have HU2 := Lib.hid (HB.out u2 (hu2 _ G1.out))
       clear hu2
       go_wp2_with fail
       refine HU2.out.mono ?_
       rintro e w1 ⟨rfl, rfl⟩
       go_wp2
       go_ret
       exact ⟨by rw [HM.out]; simp, rfl⟩)
set_option maxRecDepth 100000 in
theorem vl_or (a b : Fm) (iha : VlOK a) (ihb : VlOK b) : VlOK (.bin .or a b) := by
  intro v r w h hl hok hpl hr
  obtain ⟨A, c, rfl⟩ := h.opn
  obtain ⟨b', o, y, rfl, hb, h0, h1⟩ := kd_cell h
  have h00 : w.cell? ⟨b', o, none⟩ = some (.int .i64 3) := h0
  have hp := enc_pos (.bin .or a b)
  have hlen : (enc (.bin .or a b)).length = 1 + ((enc a).length + (enc b).length) := by simp [enc]; omega
  have hF1 : Sl cN w (.slice (some ⟨b', o, none⟩) (enc (.bin .or a b)).length c) ((3, 0) :: (enc a ++ enc b)) := h
  have H1 := Lib.hid (left_g _ (3, 0) a (enc b) w hF1 (by simp; omega))
  have H2 := Lib.hid (right_g _ (3, 0) a b w hF1 (by simp; omega))
  simp only [Fm.ok, Fm.plain, Bool.and_eq_true] at hok hpl
  have HA := Lib.hid (fun u (hu : Sl cN w u (enc a)) => iha u r w hu (by omega) hok.1 hpl.1 hr)
  have HB := Lib.hid (fun u (hu : Sl cN w u (enc b)) => ihb u r w hu (by omega) hok.2 hpl.2 hr)
  have G1 := Lib.hid hF1
  have HM : Hid (ev (.bin .or a b) r = (ev a r || ev b r)) := Lib.hid rfl
  clear h h0 h1 hF1 hl hlen hok hpl
  obtain ⟨m, hm⟩ : ∃ m, (enc (.bin .or a b)).length = m := ⟨_, rfl⟩
  rw [hm] at hp H1 H2 G1 ⊢
  clear hm
  generalize ev b r = vb at *
  obtain ⟨va, hva⟩ : ∃ va, ev a r = va := ⟨_, rfl⟩
  rw [hva] at HA HM
  clear hva
  cases va
  all_goals
    go_enter Try.func161, Try.ntmps161
    go_wp2_with fail
    refine H1.out.mono ?_
    rintro e w1 ⟨u1, rfl, hu1, rfl⟩
    have HU1 := Lib.hid (HA.out u1 (hu1 w G1.out))
    clear hu1
    go_wp2_with fail
    refine HU1.out.mono ?_
    rintro e w1 ⟨rfl, rfl⟩
    first
    | (go_wp2; go_ret; exact ⟨by rw [HM.out]; rfl, rfl⟩)
    | (go_wp2_with fail
       refine H2.out.mono ?_
       rintro e w1 ⟨u2, rfl, hu2, rfl⟩
       have HU2 := Lib.hid (HB.out u2 (hu2 _ G1.out))
       clear hu2
       go_wp2_with fail
       refine HU2.out.mono ?_
       rintro e w1 ⟨rfl, rfl⟩
       go_wp2
       go_ret
       exact ⟨by rw [HM.out]; simp, rfl⟩)
set_option maxRecDepth 100000 in
theorem vl_imp (a b : Fm) (iha : VlOK a) (ihb : VlOK b) : VlOK (.bin .imp a b) := by
  intro v r w h hl hok hpl hr
  obtain ⟨A, c, rfl⟩ := h.opn
  obtain ⟨b', o, y, rfl, hb, h0, h1⟩ := kd_cell h
  have h00 : w.cell? ⟨b', o, none⟩ = some (.int .i64 4) := h0
  have hp := enc_pos (.bin .imp a b)
  have hlen : (enc (.bin .imp a b)).length = 1 + ((enc a).length + (enc b).length) := by simp [enc]; omega
  have hF1 : Sl cN w (.slice (some ⟨b', o, none⟩) (enc (.bin .imp a b)).length c) ((4, 0) :: (enc a ++ enc b)) := h
  have H1 := Lib.hid (left_g _ (4, 0) a (enc b) w hF1 (by simp; omega))
  have H2 := Lib.hid (right_g _ (4, 0) a b w hF1 (by simp; omega))
  simp only [Fm.ok, Fm.plain, Bool.and_eq_true] at hok hpl
  have HA := Lib.hid (fun u (hu : Sl cN w u (enc a)) => iha u r w hu (by omega) hok.1 hpl.1 hr)
  have HB := Lib.hid (fun u (hu : Sl cN w u (enc b)) => ihb u r w hu (by omega) hok.2 hpl.2 hr)
  have G1 := Lib.hid hF1
  have HM : Hid (ev (.bin .imp a b) r = (!ev a r || ev b r)) := Lib.hid rfl
  clear h h0 h1 hF1 hl hlen hok hpl
  obtain ⟨m, hm⟩ : ∃ m, (enc (.bin .imp a b)).length = m := ⟨_, rfl⟩
  rw [hm] at hp H1 H2 G1 ⊢
  clear hm
  generalize ev b r = vb at *
  obtain ⟨va, hva⟩ : ∃ va, ev a r = va := ⟨_, rfl⟩
  rw [hva] at HA HM
  clear hva
  cases va
  all_goals
    go_enter Try.func161, Try.ntmps161
    go_wp2_with fail
    refine H1.out.mono ?_
    rintro e w1 ⟨u1, rfl, hu1, rfl⟩
    have HU1 := Lib.hid (HA.out u1 (hu1 w G1.out))
    clear hu1
    go_wp2_with fail
    refine HU1.out.mono ?_
    rintro e w1 ⟨rfl, rfl⟩
    first
    | (go_wp2; go_ret; exact ⟨by rw [HM.out]; rfl, rfl⟩)
    | (go_wp2_with fail
       refine H2.out.mono ?_
       rintro e w1 ⟨u2, rfl, hu2, rfl⟩
       have HU2 := Lib.hid (HB.out u2 (hu2 _ G1.out))
       clear hu2
       go_wp2_with fail
       refine HU2.out.mono ?_
       rintro e w1 ⟨rfl, rfl⟩
       go_wp2
       go_ret
       exact ⟨by rw [HM.out]; simp, rfl⟩)
theorem vl_all (f : Fm) : VlOK f := by
  induction f with
  | var s => exact vl_var s
  | fls => exact vl_fls
  | un k a ih => intro v r w h hl hok hpl; simp [Fm.plain] at hpl
  | bin k a b iha ihb =>
    cases k
    · exact vl_and a b iha ihb
    · exact vl_or a b iha ihb
    · exact vl_imp a b iha ihb
theorem ty_bools4 : Ty Try.prog 122 4 (.bool false) 1 1 := Ty.mk' Try.underlying122 (by kernel_rfl) rfl (by decide)
set_option maxRecDepth 100000 in
theorem spec_l04Table (f : Fm) (v : Value) (w : World) (h : Sl cN w v (enc f)) (hl : (enc f).length ≤ 1048576) (hok : f.ok = true) (hpl : f.plain = true) :
    Calls Try.prog 91 #[v] w fun e w' => ∃ u, e = .returned u ∧ Ow cB 4 w.heap.size w' u ((List.range 64).map (ev f)) ∧ Below w.heap.size w w' := by
  have HV := Lib.hid (fun r (hr : r < 64) W (hW : Below w.heap.size w W) => vl_all f v r W (h.below hW) hl hok hpl hr)
  have HX : Hid (∀ j, (List.range (j + 1)).map (ev f) = (List.range j).map (ev f) ++ [ev f j]) := Lib.hid fun j => by rw [List.range_succ, List.map_append]; rfl
  have HL : Hid (∀ j, ((List.range j).map (ev f)).length = j) := Lib.hid fun j => by simp
  clear h
  generalize ev f = p at *
  go_enter Try.func91, Try.ntmps91
  go_wp2
  go_loopw [3, 4] (fun q i wr => ∃ j : Nat, j ≤ 64 ∧ i = .int .i64 j ∧ Ow cB 4 w.heap.size wr q ((List.range j).map p) ∧ Below w.heap.size w wr) (fun _ i _ => 64 - (intOf i).toNat)
  case atStart => exact ⟨0, Nat.zero_le _, rfl, Ow.lit [] rfl rfl (Nat.le_refl _), below_alloc' _ _⟩
  case round =>
    obtain ⟨j, hj, rfl, ho, hb⟩ := hrel
    by_cases hlt : j < 64
    · have HT := Lib.hid (HV.out j hlt _ hb)
      have HXj := Lib.hid (HX.out j)
      have HLj := Lib.hid (HL.out j)
      have HO := Lib.hid ho
      have HB := Lib.hid hb
      obtain ⟨ys, hys⟩ : ∃ ys, (List.range j).map p = ys := ⟨_, rfl⟩
      rw [hys] at HO HXj HLj
      clear ho hb hys
      go_wp2_with fail
      refine HT.out.mono ?_
      rintro e w2 ⟨rfl, rfl⟩
      go_wp2_with (at_builtin; refine stopHere ?_)
      refine goHere ?_
      refine ap_one (K := cB) _ ty_bools4 rfl _ _ rfl (xs := ys) rfl HO.out (p j) rfl rfl (by have := HLj.out; omega) HB.out.size ?_
      intro v1 w3 ho1 hg1 hb1 hat1
      have HO1 : Hid (Ow cB 4 w.heap.size w3 v1 ((List.range (j + 1)).map p)) := Lib.hid (by rw [HXj.out]; exact ho1)
      have HB5 : Hid (Below w.heap.size w w3) := Lib.hid (HB.out.trans hb1)
      clear ho1 hg1 hb1 hat1
      go_wp2
      go_roundw
      case rel => exact ⟨j + 1, by omega, by go_num, HO1.out, HB5.out⟩
      case measure => simp [intOf]; omega
    · obtain rfl : j = 64 := by omega
      have HO := Lib.hid ho
      have HB := Lib.hid hb
      clear ho hb
      go_wp2
      go_ret
      exact ⟨_, rfl, HO.out, HB.out⟩
theorem spec_l04Alike' (v u : Value) (xs ys : List Bool) (w : World) (hx : Sl cB w v xs) (hy : Sl cB w u ys) (hl : xs.length = ys.length) (hn : xs.length ≤ 1073741824) :
    Calls Try.prog 92 #[v, u] w fun e w' => e = .returned (.bool (decide (xs = ys))) ∧ ∃ q, w' = w.drewN q := by
  obtain ⟨A, c, rfl⟩ := hx.opn
  obtain ⟨B, d, rfl⟩ := hy.opn
  have HL := Lib.hid hl
  clear hl
  go_enter Try.func92, Try.ntmps92
  go_wp2
  go_loopw [5] (fun i wr => ∃ j : Nat, j ≤ xs.length ∧ i = .int .i64 j ∧ (∃ q, wr = w.drewN q) ∧ xs.take j = ys.take j) (fun i _ => xs.length - (intOf i).toNat)
  case atStart => exact ⟨0, Nat.zero_le _, rfl, ⟨0, rfl⟩, by simp⟩
  case round =>
    obtain ⟨j, hj, rfl, ⟨q, rfl⟩, hh⟩ := hrel
    have Hh := Lib.hid hh; clear hh
    by_cases hlt : j < xs.length
    · obtain ⟨b, o, rfl, hb, hcell⟩ := hx.atB hlt
      have hlt2 : j < ys.length := by have := HL.out; omega
      obtain ⟨b', o', rfl, hb', hcell'⟩ := hy.atB hlt2
      by_cases he : xs[j] = ys[j]
      · have he' : (xs[j] != ys[j]) = false := by simpa using he
        have he2 : (!xs[j] == ys[j]) = false := by rw [he]; cases ys[j] <;> rfl
        have He := Lib.hid he; clear he
        go_wp2
        go_quiet (fail)
        go_wp2
        go_roundw
        case rel => exact ⟨j + 1, by omega, by go_num, by first | exact ⟨_, rfl⟩ | exact ⟨_, World.drewN_drewN _ _ _⟩, by rw [List.take_succ_eq_append_getElem hlt, List.take_succ_eq_append_getElem hlt2, Hh.out, He.out]⟩
        case measure => simp [intOf]; omega
      · have he' : (xs[j] != ys[j]) = true := by simpa using he
        have he2 : (!xs[j] == ys[j]) = true := by revert he; cases xs[j] <;> cases ys[j] <;> simp
        have He := Lib.hid he; clear he
        go_wp2
        go_quiet (fail)
        go_wp2
        go_ret
        exact ⟨by rw [decide_eq_false (fun e : xs = ys => He.out (by subst e; rfl))]; rfl, by first | exact ⟨_, rfl⟩ | exact ⟨_, World.drewN_drewN _ _ _⟩⟩
    · obtain rfl : j = xs.length := by omega
      go_wp2
      go_ret
      exact ⟨by rw [decide_eq_true (show xs = ys from by have := Hh.out; rw [List.take_length, HL.out, List.take_length] at this; exact this)]; rfl, _, rfl⟩
/-- a list of numbers and a list of tables, both of the call's own and growing -/
structure TB (g : Nat) (w : World) (vo : Value) (out : List Int) (vt : Value) (ts : List (List Bool)) : Prop where
  oo : Ow cI 2 g w vo out
  tt : ∃ hs : List Hd, Ow cH 122 g w vt hs ∧ hs.length = ts.length ∧ ∀ i (a : i < hs.length) (b : i < ts.length), Sl cB w hs[i].val ts[i] ∧
    ∀ k, hs[i].val.ownBlock = some k → k < w.heap.size ∧ vo.ownBlock ≠ some k ∧ vt.ownBlock ≠ some k
  ne : ∀ k, vo.ownBlock = some k → vt.ownBlock ≠ some k
section
variable {g : Nat} {w w' : World} {vo vt : Value} {out : List Int} {ts : List (List Bool)}
theorem TB.below (h : TB g w vo out vt ts) (hb : Below w.heap.size w w') : TB g w' vo out vt ts := by
  obtain ⟨hs, h1, h2, h3⟩ := h.tt
  exact ⟨h.oo.below hb, ⟨hs, h1.below hb, h2, fun i a b => ⟨(h3 i a b).1.below hb, fun k hk => ⟨Nat.lt_of_lt_of_le ((h3 i a b).2 k hk).1 hb.size, ((h3 i a b).2 k hk).2⟩⟩⟩, h.ne⟩
theorem TB.sl2 (h : TB g w vo out vt ts) : Sl2 cB w vt ts := by
  obtain ⟨hs, h1, h2, h3⟩ := h.tt
  exact ⟨hs, h1.sl, h2, fun i a b => (h3 i a b).1⟩
/-- a number is put behind the numbers -/
theorem TB.num (h : TB g w vo out vt ts) {vo' : Value} {out' : List Int} {W : World} (hw : w.grownBy W none) (hWz : W.heap.size = w.heap.size + 1) (ho : Ow cI 2 g w' vo' out') (hg : W.grownBy w' vo.ownBlock) (hat : vo'.ownBlock = vo.ownBlock ∨ vo'.ownBlock = some (w.heap.size + 1)) :
    TB g w' vo' out' vt ts := by
  obtain ⟨hs, h1, h2, h3⟩ := h.tt
  have hsz : w.heap.size < w'.heap.size := by have := hg.size; omega
  have hvt : ∀ k, vt.ownBlock = some k → k < w.heap.size := fun k hk => (h1.block k hk).2
  refine ⟨ho, ⟨hs, (h1.kept hw (by cases hq : vt.ownBlock; exact .inl rfl; exact .inr (by simp))).kept hg ?_, h2, fun i a b => ⟨?_, fun k hk => ?_⟩⟩, fun k hk e => ?_⟩
  · cases hq : vt.ownBlock with
    | none => exact .inl rfl
    | some k => exact .inr fun e => h.ne k e.symm hq
  · refine ((h3 i a b).1.grown hw ?_).grown hg ?_
    · cases hq : hs[i].val.ownBlock with
      | none => exact .inl rfl
      | some k => exact .inr (by simp)
    · cases hq : hs[i].val.ownBlock with
      | none => exact .inl rfl
      | some k => exact .inr fun e => ((h3 i a b).2 k hq).2.1 e.symm
  · have h4 := (h3 i a b).2 k hk
    refine ⟨by omega, fun e => ?_, h4.2.2⟩
    rcases hat with e2 | e2
    · exact h4.2.1 (e2 ▸ e)
    · rw [e2] at e; injection e with e; omega
  · rcases hat with e2 | e2
    · exact h.ne k (e2 ▸ hk) e
    · rw [e2] at hk; injection hk with hk
      have := hvt k e
      omega
/-- a table is put behind the tables -/
theorem TB.tab (h : TB g w vo out vt ts) {A : Option Addr} {n c B2 : Nat} {row : List Bool} (hu : Ow cB 4 B2 w (.slice A n c) row) (hB : ∀ k, vo.ownBlock = some k → k < B2) (hB' : ∀ k, vt.ownBlock = some k → k < B2) :
    ∃ hs : List Hd, Ow cH 122 g w vt hs ∧ hs.length = ts.length ∧ ∀ w' vt' W, w.grownBy W none → W.heap.size = w.heap.size + 1 → Ow cH 122 g w' vt' (hs ++ [⟨A, n, c⟩]) → W.grownBy w' vt.ownBlock →
      (vt'.ownBlock = vt.ownBlock ∨ vt'.ownBlock = some (w.heap.size + 1)) → TB g w' vo out vt' (ts ++ [row]) := by
  obtain ⟨hs, h1, h2, h3⟩ := h.tt
  refine ⟨hs, h1, h2, fun w' vt' W hw hWz ho hg hat => ?_⟩
  have hsz : w.heap.size < w'.heap.size := by have := hg.size; omega
  have hvo : ∀ k, vo.ownBlock = some k → k < w.heap.size := fun k hk => (h.oo.block k hk).2
  have hub : ∀ k, (Value.slice A n c).ownBlock = some k → B2 ≤ k ∧ k < w.heap.size := hu.block
  have key : ∀ (u : Value) (ys : List Bool), Sl cB w u ys → (∀ k, u.ownBlock = some k → k < w.heap.size ∧ vo.ownBlock ≠ some k ∧ vt.ownBlock ≠ some k) →
      Sl cB w' u ys ∧ ∀ k, u.ownBlock = some k → k < w'.heap.size ∧ vo.ownBlock ≠ some k ∧ vt'.ownBlock ≠ some k := by
    intro u ys hu hk
    refine ⟨(hu.grown hw ?_).grown hg ?_, fun k e => ⟨by have := (hk k e).1; omega, (hk k e).2.1, fun e3 => ?_⟩⟩
    · cases hq : u.ownBlock with
      | none => exact .inl rfl
      | some k => exact .inr (by simp)
    · cases hq : u.ownBlock with
      | none => exact .inl rfl
      | some k => exact .inr fun e => (hk k hq).2.2 e.symm
    · rcases hat with e2 | e2
      · exact (hk k e).2.2 (e2 ▸ e3)
      · rw [e2] at e3; injection e3 with e3; have := (hk k e).1; omega
  refine ⟨(h.oo.kept hw (by cases hq : vo.ownBlock; exact .inl rfl; exact .inr (by simp))).kept hg ?_, ⟨_, ho, by simp [h2], fun i a b => ?_⟩, fun k hk e => ?_⟩
  · cases hq : vo.ownBlock with
    | none => exact .inl rfl
    | some k => exact .inr fun e => h.ne k hq e.symm
  · by_cases hi : i < hs.length
    · rw [List.getElem_append_left hi, List.getElem_append_left (by omega)]
      exact key _ _ (h3 i hi (by omega)).1 (h3 i hi (by omega)).2
    · have e : i = hs.length := by simp at a; omega
      subst e
      have e2 : (ts ++ [row])[hs.length] = row := by
        rw [List.getElem_append_right (by omega)]; simp [h2]
      have e3 : (hs ++ [(⟨A, n, c⟩ : Hd)])[hs.length] = ⟨A, n, c⟩ := by simp
      rw [e2, e3]
      refine key (.slice A n c) _ hu.sl fun k hk => ⟨(hub k hk).2, fun e => ?_, fun e => ?_⟩
      · have := hB k e; have := (hub k hk).1; omega
      · have := hB' k e; have := (hub k hk).1; omega
  · rcases hat with e2 | e2
    · exact h.ne k hk (e2 ▸ e)
    · rw [e2] at e; injection e with e; have := hvo k hk; omega
end
end Go.Proofs.Ytgdmfihnbbgcoaa
