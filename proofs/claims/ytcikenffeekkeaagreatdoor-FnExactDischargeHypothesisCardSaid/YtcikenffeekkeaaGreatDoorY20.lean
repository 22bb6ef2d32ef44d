/- Contracts of chapter 2: the text of a formula, of the reference (written by gen33w.py). -/
import Derived.Test.YtcikenffeekkeaaGreatDoorY19
import Derived.Test.YtcikenffeekkeaaGreatDoorY09
namespace Go.Proofs.YtcikenffeekkeaaGreatDoor
open Go.RowKit
set_option linter.unusedVariables false
set_option linter.unusedSimpArgs false
theorem left_gQ (v : Value) (n : Nd) (f : Fm) (rest : List Nd) (w : World) (h : Sl cN w v (n :: (enc f ++ rest))) (hl : (n :: (enc f ++ rest)).length ≤ 1048576) :
    Calls Tryz.prog 137 #[v] w fun e w' => ∃ u, e = .returned u ∧ (∀ W0, Sl cN W0 v (n :: (enc f ++ rest)) → Sl cN W0 u (enc f)) ∧ w = w' := by
  obtain ⟨A, c, rfl⟩ := h.opn
  obtain ⟨-, hc, hm⟩ := h.cap
  have hpos := enc_pos f
  have hlen : (n :: (enc f ++ rest)).length = 1 + (enc f).length + rest.length := by simp; omega
  have h2 := fun A' n' hn hA W0 (h0 : Sl cN W0 (.slice A (n :: (enc f ++ rest)).length c) (n :: (enc f ++ rest))) => h0.cutAt (A' := A') (n' := n') (i := 1) (j := 1 + (enc f).length) (c' := c - 1) (by omega) (by omega) hn hA (by omega) (by omega)
  rw [Nat.add_sub_cancel_left, take_enc] at h2
  have H2 := Lib.hid h2; clear h2
  have h1 := spec_l02Part _ _ 1 w h (by omega) (by omega)
  rw [show ((1 : Nat) : Int) = 1 from rfl, pe_first n f rest] at h1
  have H1 := Lib.hid h1; clear h1
  clear h
  generalize (n :: (enc f ++ rest)).length = L at *
  generalize hm' : (enc f).length = m at *
  have HM := Lib.hid hm'; clear hm'
  have HL := Lib.hid hlen
  have hL : 1 + m ≤ L := by omega
  clear hlen
  go_enter Tryz.func137, Tryz.ntmps137
  go_wp2_with fail
  refine H1.out.mono ?_
  rintro e w1 ⟨rfl, rfl⟩
  go_wp2
  go_ret
  exact ⟨_, rfl, H2.out _ _ (by omega) (fun b o hA => by subst hA; rfl), rfl⟩
theorem right_gQ (v : Value) (n : Nd) (f g : Fm) (w : World) (h : Sl cN w v (n :: (enc f ++ enc g))) (hl : (n :: (enc f ++ enc g)).length ≤ 1048576) :
    Calls Tryz.prog 138 #[v] w fun e w' => ∃ u, e = .returned u ∧ (∀ W0, Sl cN W0 v (n :: (enc f ++ enc g)) → Sl cN W0 u (enc g)) ∧ w = w' := by
  obtain ⟨A, c, rfl⟩ := h.opn
  obtain ⟨-, hc, hm⟩ := h.cap
  have hpos := enc_pos f
  have hpos2 := enc_pos g
  have hlen : (n :: (enc f ++ enc g)).length = 1 + (enc f).length + (enc g).length := by simp; omega
  have h2 := fun A' n' hn hA W0 (h0 : Sl cN W0 (.slice A (n :: (enc f ++ enc g)).length c) (n :: (enc f ++ enc g))) => h0.cutAt (A' := A') (n' := n') (i := 1 + (enc f).length) (j := 1 + (enc f).length + (enc g).length) (c' := c - (1 + (enc f).length)) (by omega) (by omega) hn hA (by omega) (by omega)
  have e2 := take_enc2 n f g []
  rw [List.append_nil] at e2
  rw [Nat.add_sub_cancel_left, Nat.add_comm 1 (enc f).length, e2] at h2
  have H2 := Lib.hid h2; clear h2 e2
  have h1 := spec_l02Part _ _ 1 w h (by omega) (by omega)
  rw [show ((1 : Nat) : Int) = 1 from rfl, pe_first n f (enc g), Nat.add_comm 1] at h1
  have H1 := Lib.hid h1; clear h1
  clear h
  generalize (n :: (enc f ++ enc g)).length = L at *
  generalize hm' : (enc f).length = m at *
  generalize hk' : (enc g).length = k at *
  have HM := Lib.hid hm'; clear hm'
  have HK := Lib.hid hk'; clear hk'
  have HL := Lib.hid hlen
  have hL : 1 + m + k ≤ L := by omega
  have hne : ¬ c = m + 1 := by omega
  clear hlen
  go_enter Tryz.func138, Tryz.ntmps138
  go_wp2_with fail
  refine H1.out.mono ?_
  rintro e w1 ⟨rfl, rfl⟩
  go_wp2
  go_ret
  exact ⟨_, rfl, H2.out _ _ (by have := HL.out; omega) (fun b o hA => by subst hA; rfl), rfl⟩
theorem spec_l02EqualQ (v u : Value) (xs ys : List Nd) (w : World) (hx : Sl cN w v xs) (hy : Sl cN w u ys) (hl : xs.length ≤ 1073741824) (hl2 : ys.length ≤ 1073741824) :
    Calls Tryz.prog 75 #[v, u] w fun e w' => e = .returned (.bool (decide (xs = ys))) ∧ Below w.heap.size w w' := by
  obtain ⟨A, c, rfl⟩ := hx.opn
  obtain ⟨B, d, rfl⟩ := hy.opn
  by_cases hne : ys.length = xs.length
  · rw [hne] at hy ⊢
    have HL := Lib.hid hne
    go_enter Tryz.func75, Tryz.ntmps75
    go_wp2
    go_loopw [5] (fun i wr => ∃ j : Nat, j ≤ xs.length ∧ i = .int .i64 j ∧ (∀ k (h1 : k < xs.length) (h2 : k < ys.length), k < j → xs[k] = ys[k]) ∧ Below w.heap.size w wr) (fun i _ => xs.length - (intOf i).toNat)
    case atStart => exact ⟨0, Nat.zero_le _, rfl, fun k _ _ h => by omega, Below.refl _ _⟩
    case round =>
      obtain ⟨j, hj, rfl, hh, hb⟩ := hrel
      have Hh := Lib.hid hh; clear hh
      have HB := Lib.hid hb
      by_cases hlt : j < xs.length
      · have hlt2 : j < ys.length := by rw [HL.out]; exact hlt
        obtain ⟨b, o, rfl, hbl, hc0, hc1⟩ := (hx.below hb).atN hlt
        obtain ⟨b2, o2, rfl, hbl2, hd0, hd1⟩ := (hy.below hb).atN hlt2
        by_cases he : xs[j] = ys[j]
        · have HS : Hid (∀ k (h1 : k < xs.length) (h2 : k < ys.length), k < j + 1 → xs[k] = ys[k]) := Lib.hid fun k h1 h2 h3 => by
            rcases Nat.lt_or_ge k j with h | h
            · exact Hh.out k h1 h2 h
            · obtain rfl : k = j := by omega
              exact he
          have hnq := run_neq_node xs[j].1 xs[j].2 ys[j].1 ys[j].2
          have hd : (!(xs[j].1 == ys[j].1 && xs[j].2 == ys[j].2)) = false := by rw [he]; simp
          have hng := run_eqg_node
          rw [hd] at hnq
          generalize xs[j] = x at *
          generalize ys[j] = y at *
          clear hb hd he
          go_wp2
          go_quiet (fail)
          go_wp2
          go_roundw
          case rel => exact ⟨j + 1, by omega, by go_num, HS.out, below_drewN HB.out _⟩
          case measure => simp [intOf]; omega
        · have HE : Hid (decide (xs = ys) = false) := Lib.hid (decide_eq_false fun h => he (by subst h; rfl))
          have hnq := run_neq_node xs[j].1 xs[j].2 ys[j].1 ys[j].2
          have hd : (!(xs[j].1 == ys[j].1 && xs[j].2 == ys[j].2)) = true := by
            rw [Bool.not_eq_true', Bool.eq_false_iff]
            intro h
            simp only [Bool.and_eq_true, beq_iff_eq] at h
            exact he (Prod.ext h.1 h.2)
          have hng := run_eqg_node
          rw [hd] at hnq
          generalize xs[j] = x at *
          generalize ys[j] = y at *
          clear hb hd he
          go_wp2
          go_quiet (fail)
          go_wp2
          go_ret
          exact ⟨by rw [HE.out]; rfl, below_drewN HB.out _⟩
      · have HE : Hid (decide (xs = ys) = true) := Lib.hid (decide_eq_true (List.ext_getElem HL.out.symm fun k h1 h2 => Hh.out k h1 h2 (by omega)))
        clear hb
        go_wp2
        go_ret
        exact ⟨by rw [HE.out]; rfl, HB.out⟩
  · have HE : Hid (decide (xs = ys) = false) := Lib.hid (decide_eq_false fun h => hne (by rw [h]))
    have hn2 : ¬ ((xs.length : Int) = (ys.length : Int)) := by omega
    have hn3 : ((xs.length : Int) != (ys.length : Int)) = true := by simpa using hn2
    clear hx hy
    go_enter Tryz.func75, Tryz.ntmps75
    go_wp2
    go_ret
    exact ⟨by rw [HE.out]; rfl, Below.refl _ _⟩
def SpT (f : Fm) : Prop := ∀ (l : Nat) (v : Value) (w : World), Sl cN w v (enc f) → (enc f).length ≤ 1048576 → f.ok = true →
  Calls Tryz.prog 133 #[v, .int .i64 l] w fun e w' => e = .returned (.string (wrp (lv f) l (tbx f))) ∧ Below w.heap.size w w'
theorem wrp_yes {a b : Nat} (t : ByteArray) (h : a < b) : wrp a b t = ((⟨#[40]⟩ : ByteArray) ++ t) ++ (⟨#[41]⟩ : ByteArray) := by unfold wrp; rw [if_pos h]
theorem wrp_no {a b : Nat} (t : ByteArray) (h : ¬ a < b) : wrp a b t = t := by unfold wrp; rw [if_neg h]
theorem eq_true_imp (a b : Fm) : decide (enc (.bin .imp a b) = [(4, 0), (1, 0), (1, 0)]) = (isfl a && isfl b) := by
  cases a with
  | fls =>
    cases b with
    | fls => rfl
    | var s => simp [enc, isfl]
    | un k x => cases k <;> simp [enc, isfl, UK.i]
    | bin k x y => cases k <;> simp [enc, isfl, BK.i]
  | var s => simp [enc, isfl]
  | un k x => cases k <;> simp [enc, isfl, UK.i]
  | bin k x y => cases k <;> simp [enc, isfl, BK.i]
set_option maxRecDepth 100000 in
theorem sp_fls : SpT (.fls) := by
  intro l v w h hl hok
  have HT : Hid (tbx .fls = ⟨#[70]⟩) := Lib.hid rfl
  have HV : Hid (lv .fls = 3) := Lib.hid rfl
  obtain ⟨A, c, rfl⟩ := h.opn
  obtain ⟨b', o, rfl, hb, h00, h01⟩ := (show Sl cN w (.slice A (enc .fls).length c) [(1, 0)] from h).atN0
  clear h
  have el : (enc .fls).length = 1 := rfl
  rw [el] at *
  have HB0 : Hid (Below w.heap.size w w) := Lib.hid (Below.refl _ _)
  by_cases hlt : 3 < l
  · have HE : Hid (wrp (lv (.fls)) l (tbx (.fls)) = ((⟨#[40]⟩ : ByteArray) ++ ((⟨#[70]⟩ : ByteArray))) ++ (⟨#[41]⟩ : ByteArray)) := Lib.hid (by rw [wrp_yes _ (show lv (.fls) < l by rw [HV.out]; exact hlt), HT.out])
    have i1 : decide ((3 : Int) < (l : Int)) = true := decide_eq_true (by omega)
    have i2 : decide (3 < l) = true := decide_eq_true hlt
    clear hlt
    go_enter Tryz.func133, Tryz.ntmps133
    go_wp2
    go_ret
    exact ⟨by rw [HE.out]; rfl, HB0.out⟩
  · have HE : Hid (wrp (lv (.fls)) l (tbx (.fls)) = (⟨#[70]⟩ : ByteArray)) := Lib.hid (by rw [wrp_no _ (show ¬ lv (.fls) < l by rw [HV.out]; exact hlt), HT.out])
    have i1 : decide ((3 : Int) < (l : Int)) = false := decide_eq_false (by omega)
    have i2 : decide (3 < l) = false := decide_eq_false hlt
    clear hlt
    go_enter Tryz.func133, Tryz.ntmps133
    go_wp2
    go_ret
    exact ⟨by rw [HE.out]; rfl, HB0.out⟩
set_option maxRecDepth 100000 in
theorem sp_var (s : Nat) : SpT (.var s) := by
  intro l v w h hl hok
  have hs : s ≤ 5 := by have := hok; simp only [Fm.ok, decide_eq_true_eq] at this; omega
  have HT : Hid (tbx (.var s) = ltr s) := Lib.hid rfl
  have HV : Hid (lv (.var s) = 3) := Lib.hid rfl
  obtain ⟨A, c, rfl⟩ := h.opn
  obtain ⟨b', o, rfl, hb, h00, h01⟩ := (show Sl cN w (.slice A (enc (.var s)).length c) [(0, (s : Int))] from h).atN0
  clear h
  have el : (enc (.var s)).length = 1 := rfl
  rw [el] at *
  have HB0 : Hid (Below w.heap.size w w) := Lib.hid (Below.refl _ _)
  by_cases hlt : 3 < l
  · have HE : Hid (wrp (lv (.var s)) l (tbx (.var s)) = ((⟨#[40]⟩ : ByteArray) ++ (ltr s)) ++ (⟨#[41]⟩ : ByteArray)) := Lib.hid (by rw [wrp_yes _ (show lv (.var s) < l by rw [HV.out]; exact hlt), HT.out])
    have i1 : decide ((3 : Int) < (l : Int)) = true := decide_eq_true (by omega)
    have i2 : decide (3 < l) = true := decide_eq_true hlt
    clear hlt
    go_enter Tryz.func133, Tryz.ntmps133
    go_wp2
    go_quiet (fail)
    go_wp2
    go_ret
    exact ⟨by rw [HE.out]; rfl, below_drewN (Below.refl _ _) _⟩
  · have HE : Hid (wrp (lv (.var s)) l (tbx (.var s)) = ltr s) := Lib.hid (by rw [wrp_no _ (show ¬ lv (.var s) < l by rw [HV.out]; exact hlt), HT.out])
    have i1 : decide ((3 : Int) < (l : Int)) = false := decide_eq_false (by omega)
    have i2 : decide (3 < l) = false := decide_eq_false hlt
    clear hlt
    go_enter Tryz.func133, Tryz.ntmps133
    go_wp2
    go_quiet (fail)
    go_wp2
    go_ret
    exact ⟨by rw [HE.out]; rfl, below_drewN (Below.refl _ _) _⟩
set_option maxRecDepth 100000 in
theorem sp_box (a : Fm) (iha : SpT a) : SpT (.un .box a) := by
  intro l v w h hl hok
  have hp := enc_pos a
  have sz1 := wtb_size a 3
  obtain ⟨ta, hta⟩ : ∃ ta, wrp (lv a) 3 (tbx a) = ta := ⟨_, rfl⟩
  have HT : Hid (tbx (.un .box a) = (⟨#[91, 93]⟩ : ByteArray) ++ ta) := Lib.hid (by rw [← hta]; rfl)
  have HV : Hid (lv (.un .box a) = 3) := Lib.hid rfl
  have hla : (enc a).length ≤ 1048576 := by simp [enc] at hl; omega
  have HA := Lib.hid (fun u (hu : Sl cN w u (enc a)) => iha 3 u w hu hla hok)
  rw [hta] at HA sz1
  have s1 : ¬ 9223372036854775807 < 2 + ta.size := by omega
  have s2 : ¬ 9223372036854775807 < 1 + (2 + ta.size) := by omega
  have s3 : ¬ 9223372036854775807 < 1 + (2 + ta.size) + 1 := by omega
  have h' : Sl cN w v ((5, 0) :: (enc a ++ [])) := by rw [List.append_nil]; exact h
  obtain ⟨A, c, rfl⟩ := h'.opn
  obtain ⟨-, hcap, hm⟩ := h'.cap
  obtain ⟨b', o, rfl, hb, h00, h01⟩ := h'.atN0
  have hL0 : 1 < (((5 : Int), (0 : Int)) :: (enc a ++ [])).length := by simp; omega
  have hcut := h'.cutAt (A' := some ⟨b', o + 2, none⟩) (n' := (((5 : Int), (0 : Int)) :: (enc a ++ [])).length - 1) (i := 1) (j := (((5 : Int), (0 : Int)) :: (enc a ++ [])).length) (c' := c - 1) (by omega) (by omega) rfl
    (fun b' o' hA => by injection hA with hA; injection hA with h1 h2 _; subst h1; subst h2; rfl) (by omega) (by omega)
  have e1 : List.take ((((5 : Int), (0 : Int)) :: (enc a ++ [])).length - 1) (List.drop 1 (((5 : Int), (0 : Int)) :: (enc a ++ []))) = enc a := by simp
  rw [e1] at hcut
  have HC := Lib.hid (HA.out _ hcut)
  clear h h' sz1 hta e1 hcut hl
  generalize (((5 : Int), (0 : Int)) :: (enc a ++ [])).length = L at *
  have j1 : (1 : Int) ≤ (L : Int) := by omega
  have j2 : (0 : Int) < (L : Int) := by omega
  have j3 : 0 < L := by omega
  have j4 : ¬ c = 1 := by omega
  have HB0 : Hid (Below w.heap.size w w) := Lib.hid (Below.refl _ _)
  by_cases hlt : 3 < l
  · have HE : Hid (wrp (lv (.un .box a)) l (tbx (.un .box a)) = ((⟨#[40]⟩ : ByteArray) ++ ((⟨#[91, 93]⟩ : ByteArray) ++ ta)) ++ (⟨#[41]⟩ : ByteArray)) := Lib.hid (by rw [wrp_yes _ (show lv (.un .box a) < l by rw [HV.out]; exact hlt), HT.out])
    have i1 : decide ((3 : Int) < (l : Int)) = true := decide_eq_true (by omega)
    have i2 : decide (3 < l) = true := decide_eq_true hlt
    clear hlt
    go_enter Tryz.func133, Tryz.ntmps133
    go_wp2_with fail
    refine HC.out.mono ?_
    rintro e w1 ⟨rfl, hb1⟩
    have HB1 := Lib.hid hb1
    clear hb1
    go_wp2
    go_ret
    exact ⟨by rw [HE.out]; rfl, HB1.out⟩
  · have HE : Hid (wrp (lv (.un .box a)) l (tbx (.un .box a)) = (⟨#[91, 93]⟩ : ByteArray) ++ ta) := Lib.hid (by rw [wrp_no _ (show ¬ lv (.un .box a) < l by rw [HV.out]; exact hlt), HT.out])
    have i1 : decide ((3 : Int) < (l : Int)) = false := decide_eq_false (by omega)
    have i2 : decide (3 < l) = false := decide_eq_false hlt
    clear hlt
    go_enter Tryz.func133, Tryz.ntmps133
    go_wp2_with fail
    refine HC.out.mono ?_
    rintro e w1 ⟨rfl, hb1⟩
    have HB1 := Lib.hid hb1
    clear hb1
    go_wp2
    go_ret
    exact ⟨by rw [HE.out]; rfl, HB1.out⟩
set_option maxRecDepth 100000 in
theorem sp_dia (a : Fm) (iha : SpT a) : SpT (.un .dia a) := by
  intro l v w h hl hok
  have hp := enc_pos a
  have sz1 := wtb_size a 3
  obtain ⟨ta, hta⟩ : ∃ ta, wrp (lv a) 3 (tbx a) = ta := ⟨_, rfl⟩
  have HT : Hid (tbx (.un .dia a) = (⟨#[60, 62]⟩ : ByteArray) ++ ta) := Lib.hid (by rw [← hta]; rfl)
  have HV : Hid (lv (.un .dia a) = 3) := Lib.hid rfl
  have hla : (enc a).length ≤ 1048576 := by simp [enc] at hl; omega
  have HA := Lib.hid (fun u (hu : Sl cN w u (enc a)) => iha 3 u w hu hla hok)
  rw [hta] at HA sz1
  have s1 : ¬ 9223372036854775807 < 2 + ta.size := by omega
  have s2 : ¬ 9223372036854775807 < 1 + (2 + ta.size) := by omega
  have s3 : ¬ 9223372036854775807 < 1 + (2 + ta.size) + 1 := by omega
  have h' : Sl cN w v ((6, 0) :: (enc a ++ [])) := by rw [List.append_nil]; exact h
  obtain ⟨A, c, rfl⟩ := h'.opn
  obtain ⟨-, hcap, hm⟩ := h'.cap
  obtain ⟨b', o, rfl, hb, h00, h01⟩ := h'.atN0
  have hL0 : 1 < (((6 : Int), (0 : Int)) :: (enc a ++ [])).length := by simp; omega
  have hcut := h'.cutAt (A' := some ⟨b', o + 2, none⟩) (n' := (((6 : Int), (0 : Int)) :: (enc a ++ [])).length - 1) (i := 1) (j := (((6 : Int), (0 : Int)) :: (enc a ++ [])).length) (c' := c - 1) (by omega) (by omega) rfl
    (fun b' o' hA => by injection hA with hA; injection hA with h1 h2 _; subst h1; subst h2; rfl) (by omega) (by omega)
  have e1 : List.take ((((6 : Int), (0 : Int)) :: (enc a ++ [])).length - 1) (List.drop 1 (((6 : Int), (0 : Int)) :: (enc a ++ []))) = enc a := by simp
  rw [e1] at hcut
  have HC := Lib.hid (HA.out _ hcut)
  clear h h' sz1 hta e1 hcut hl
  generalize (((6 : Int), (0 : Int)) :: (enc a ++ [])).length = L at *
  have j1 : (1 : Int) ≤ (L : Int) := by omega
  have j2 : (0 : Int) < (L : Int) := by omega
  have j3 : 0 < L := by omega
  have j4 : ¬ c = 1 := by omega
  have HB0 : Hid (Below w.heap.size w w) := Lib.hid (Below.refl _ _)
  by_cases hlt : 3 < l
  · have HE : Hid (wrp (lv (.un .dia a)) l (tbx (.un .dia a)) = ((⟨#[40]⟩ : ByteArray) ++ ((⟨#[60, 62]⟩ : ByteArray) ++ ta)) ++ (⟨#[41]⟩ : ByteArray)) := Lib.hid (by rw [wrp_yes _ (show lv (.un .dia a) < l by rw [HV.out]; exact hlt), HT.out])
    have i1 : decide ((3 : Int) < (l : Int)) = true := decide_eq_true (by omega)
    have i2 : decide (3 < l) = true := decide_eq_true hlt
    clear hlt
    go_enter Tryz.func133, Tryz.ntmps133
    go_wp2_with fail
    refine HC.out.mono ?_
    rintro e w1 ⟨rfl, hb1⟩
    have HB1 := Lib.hid hb1
    clear hb1
    go_wp2
    go_ret
    exact ⟨by rw [HE.out]; rfl, HB1.out⟩
  · have HE : Hid (wrp (lv (.un .dia a)) l (tbx (.un .dia a)) = (⟨#[60, 62]⟩ : ByteArray) ++ ta) := Lib.hid (by rw [wrp_no _ (show ¬ lv (.un .dia a) < l by rw [HV.out]; exact hlt), HT.out])
    have i1 : decide ((3 : Int) < (l : Int)) = false := decide_eq_false (by omega)
    have i2 : decide (3 < l) = false := decide_eq_false hlt
    clear hlt
    go_enter Tryz.func133, Tryz.ntmps133
    go_wp2_with fail
    refine HC.out.mono ?_
    rintro e w1 ⟨rfl, hb1⟩
    have HB1 := Lib.hid hb1
    clear hb1
    go_wp2
    go_ret
    exact ⟨by rw [HE.out]; rfl, HB1.out⟩
set_option maxRecDepth 100000 in
theorem sp_and (a b : Fm) (iha : SpT a) (ihb : SpT b) : SpT (.bin .and a b) := by
  intro l v w h hl hok
  have hok1 : a.ok = true := by have := hok; simp [Fm.ok] at this; exact this.1
  have hok2 : b.ok = true := by have := hok; simp [Fm.ok] at this; exact this.2
  have hla : (enc a).length ≤ 1048576 := by simp [enc] at hl; omega
  have hlb : (enc b).length ≤ 1048576 := by simp [enc] at hl; omega
  have sz1 := wtb_size a 2
  have sz2 := wtb_size b 3
  obtain ⟨ta, hta⟩ : ∃ ta, wrp (lv a) 2 (tbx a) = ta := ⟨_, rfl⟩
  obtain ⟨tc, htc⟩ : ∃ tc, wrp (lv b) 3 (tbx b) = tc := ⟨_, rfl⟩
  have HT : Hid (tbx (.bin .and a b) = (ta ++ (⟨#[38]⟩ : ByteArray)) ++ tc) := Lib.hid (by rw [← hta, ← htc]; rfl)
  have HV : Hid (lv (.bin .and a b) = 2) := Lib.hid (rfl)
  have h' : Sl cN w v ((2, 0) :: (enc a ++ enc b)) := h
  have HS := Lib.hid h'
  have H1 := Lib.hid (fun W (hW : Below w.heap.size w W) => left_gQ v (2, 0) a (enc b) W (h'.below hW) hl)
  have H2 := Lib.hid (fun W (hW : Below w.heap.size w W) => right_gQ v (2, 0) a b W (h'.below hW) hl)
  have HA := Lib.hid (fun W u (hu : Sl cN W u (enc a)) => iha 2 u W hu hla hok1)
  have HB := Lib.hid (fun W u (hu : Sl cN W u (enc b)) => ihb 3 u W hu hlb hok2)
  rw [hta] at HA sz1
  rw [htc] at HB sz2
  have s1 : ¬ 9223372036854775807 < ta.size + 1 := by omega
  have s2 : ¬ 9223372036854775807 < ta.size + 1 + tc.size := by omega
  have s3 : ¬ 9223372036854775807 < 1 + (ta.size + 1 + tc.size) := by omega
  have s4 : ¬ 9223372036854775807 < 1 + (ta.size + 1 + tc.size) + 1 := by omega
  obtain ⟨A, c, rfl⟩ := h.opn
  obtain ⟨b', o, rfl, hb, h00, h01⟩ := (show Sl cN w (.slice A (enc (.bin .and a b)).length c) ((2, 0) :: (enc a ++ enc b)) from h).atN0
  have hp := enc_pos (.bin .and a b)
  clear h h' sz1 sz2 hta htc hl
  generalize (enc (.bin .and a b)).length = m at *
  have HB0 : Hid (Below w.heap.size w w) := Lib.hid (Below.refl _ _)
  by_cases hlt : 2 < l
  · have HE : Hid (wrp (lv (.bin .and a b)) l (tbx (.bin .and a b)) = ((⟨#[40]⟩ : ByteArray) ++ ((ta ++ (⟨#[38]⟩ : ByteArray)) ++ tc)) ++ (⟨#[41]⟩ : ByteArray)) := Lib.hid (by rw [wrp_yes _ (show lv (.bin .and a b) < l by rw [HV.out]; exact hlt), HT.out])
    have i1 : decide ((2 : Int) < (l : Int)) = true := decide_eq_true (by omega)
    have i2 : decide (2 < l) = true := decide_eq_true hlt
    clear hlt
    go_enter Tryz.func133, Tryz.ntmps133
    have HX0 := HB0
    go_wp2_with fail
    refine (H1.out _ HX0.out).mono ?_
    rintro e w1 ⟨u1, rfl, hu1, rfl⟩
    have HU1 := Lib.hid (HA.out _ u1 (hu1 _ (HS.out.below HX0.out)))
    clear hu1
    go_wp2_with fail
    refine HU1.out.mono ?_
    rintro e w2 ⟨rfl, hb2⟩
    have HX2 := Lib.hid (bthen HX0.out hb2)
    clear hb2
    go_wp2_with fail
    refine (H2.out _ HX2.out).mono ?_
    rintro e w3 ⟨u2, rfl, hu2, rfl⟩
    have HU2 := Lib.hid (HB.out _ u2 (hu2 _ (HS.out.below HX2.out)))
    clear hu2
    go_wp2_with fail
    refine HU2.out.mono ?_
    rintro e w4 ⟨rfl, hb4⟩
    have HX4 := Lib.hid (bthen HX2.out hb4)
    clear hb4
    go_wp2
    go_ret
    exact ⟨by rw [HE.out]; rfl, HX4.out⟩
  · have HE : Hid (wrp (lv (.bin .and a b)) l (tbx (.bin .and a b)) = (ta ++ (⟨#[38]⟩ : ByteArray)) ++ tc) := Lib.hid (by rw [wrp_no _ (show ¬ lv (.bin .and a b) < l by rw [HV.out]; exact hlt), HT.out])
    have i1 : decide ((2 : Int) < (l : Int)) = false := decide_eq_false (by omega)
    have i2 : decide (2 < l) = false := decide_eq_false hlt
    clear hlt
    go_enter Tryz.func133, Tryz.ntmps133
    have HX0 := HB0
    go_wp2_with fail
    refine (H1.out _ HX0.out).mono ?_
    rintro e w1 ⟨u1, rfl, hu1, rfl⟩
    have HU1 := Lib.hid (HA.out _ u1 (hu1 _ (HS.out.below HX0.out)))
    clear hu1
    go_wp2_with fail
    refine HU1.out.mono ?_
    rintro e w2 ⟨rfl, hb2⟩
    have HX2 := Lib.hid (bthen HX0.out hb2)
    clear hb2
    go_wp2_with fail
    refine (H2.out _ HX2.out).mono ?_
    rintro e w3 ⟨u2, rfl, hu2, rfl⟩
    have HU2 := Lib.hid (HB.out _ u2 (hu2 _ (HS.out.below HX2.out)))
    clear hu2
    go_wp2_with fail
    refine HU2.out.mono ?_
    rintro e w4 ⟨rfl, hb4⟩
    have HX4 := Lib.hid (bthen HX2.out hb4)
    clear hb4
    go_wp2
    go_ret
    exact ⟨by rw [HE.out]; rfl, HX4.out⟩
set_option maxRecDepth 100000 in
theorem sp_or (a b : Fm) (iha : SpT a) (ihb : SpT b) : SpT (.bin .or a b) := by
  intro l v w h hl hok
  have hok1 : a.ok = true := by have := hok; simp [Fm.ok] at this; exact this.1
  have hok2 : b.ok = true := by have := hok; simp [Fm.ok] at this; exact this.2
  have hla : (enc a).length ≤ 1048576 := by simp [enc] at hl; omega
  have hlb : (enc b).length ≤ 1048576 := by simp [enc] at hl; omega
  have sz1 := wtb_size a 1
  have sz2 := wtb_size b 2
  obtain ⟨ta, hta⟩ : ∃ ta, wrp (lv a) 1 (tbx a) = ta := ⟨_, rfl⟩
  obtain ⟨tc, htc⟩ : ∃ tc, wrp (lv b) 2 (tbx b) = tc := ⟨_, rfl⟩
  have HT : Hid (tbx (.bin .or a b) = (ta ++ (⟨#[124]⟩ : ByteArray)) ++ tc) := Lib.hid (by rw [← hta, ← htc]; rfl)
  have HV : Hid (lv (.bin .or a b) = 1) := Lib.hid (rfl)
  have h' : Sl cN w v ((3, 0) :: (enc a ++ enc b)) := h
  have HS := Lib.hid h'
  have H1 := Lib.hid (fun W (hW : Below w.heap.size w W) => left_gQ v (3, 0) a (enc b) W (h'.below hW) hl)
  have H2 := Lib.hid (fun W (hW : Below w.heap.size w W) => right_gQ v (3, 0) a b W (h'.below hW) hl)
  have HA := Lib.hid (fun W u (hu : Sl cN W u (enc a)) => iha 1 u W hu hla hok1)
  have HB := Lib.hid (fun W u (hu : Sl cN W u (enc b)) => ihb 2 u W hu hlb hok2)
  rw [hta] at HA sz1
  rw [htc] at HB sz2
  have s1 : ¬ 9223372036854775807 < ta.size + 1 := by omega
  have s2 : ¬ 9223372036854775807 < ta.size + 1 + tc.size := by omega
  have s3 : ¬ 9223372036854775807 < 1 + (ta.size + 1 + tc.size) := by omega
  have s4 : ¬ 9223372036854775807 < 1 + (ta.size + 1 + tc.size) + 1 := by omega
  obtain ⟨A, c, rfl⟩ := h.opn
  obtain ⟨b', o, rfl, hb, h00, h01⟩ := (show Sl cN w (.slice A (enc (.bin .or a b)).length c) ((3, 0) :: (enc a ++ enc b)) from h).atN0
  have hp := enc_pos (.bin .or a b)
  clear h h' sz1 sz2 hta htc hl
  generalize (enc (.bin .or a b)).length = m at *
  have HB0 : Hid (Below w.heap.size w w) := Lib.hid (Below.refl _ _)
  by_cases hlt : 1 < l
  · have HE : Hid (wrp (lv (.bin .or a b)) l (tbx (.bin .or a b)) = ((⟨#[40]⟩ : ByteArray) ++ ((ta ++ (⟨#[124]⟩ : ByteArray)) ++ tc)) ++ (⟨#[41]⟩ : ByteArray)) := Lib.hid (by rw [wrp_yes _ (show lv (.bin .or a b) < l by rw [HV.out]; exact hlt), HT.out])
    have i1 : decide ((1 : Int) < (l : Int)) = true := decide_eq_true (by omega)
    have i2 : decide (1 < l) = true := decide_eq_true hlt
    clear hlt
    go_enter Tryz.func133, Tryz.ntmps133
    have HX0 := HB0
    go_wp2_with fail
    refine (H1.out _ HX0.out).mono ?_
    rintro e w1 ⟨u1, rfl, hu1, rfl⟩
    have HU1 := Lib.hid (HA.out _ u1 (hu1 _ (HS.out.below HX0.out)))
    clear hu1
    go_wp2_with fail
    refine HU1.out.mono ?_
    rintro e w2 ⟨rfl, hb2⟩
    have HX2 := Lib.hid (bthen HX0.out hb2)
    clear hb2
    go_wp2_with fail
    refine (H2.out _ HX2.out).mono ?_
    rintro e w3 ⟨u2, rfl, hu2, rfl⟩
    have HU2 := Lib.hid (HB.out _ u2 (hu2 _ (HS.out.below HX2.out)))
    clear hu2
    go_wp2_with fail
    refine HU2.out.mono ?_
    rintro e w4 ⟨rfl, hb4⟩
    have HX4 := Lib.hid (bthen HX2.out hb4)
    clear hb4
    go_wp2
    go_ret
    exact ⟨by rw [HE.out]; rfl, HX4.out⟩
  · have HE : Hid (wrp (lv (.bin .or a b)) l (tbx (.bin .or a b)) = (ta ++ (⟨#[124]⟩ : ByteArray)) ++ tc) := Lib.hid (by rw [wrp_no _ (show ¬ lv (.bin .or a b) < l by rw [HV.out]; exact hlt), HT.out])
    have i1 : decide ((1 : Int) < (l : Int)) = false := decide_eq_false (by omega)
    have i2 : decide (1 < l) = false := decide_eq_false hlt
    clear hlt
    go_enter Tryz.func133, Tryz.ntmps133
    have HX0 := HB0
    go_wp2_with fail
    refine (H1.out _ HX0.out).mono ?_
    rintro e w1 ⟨u1, rfl, hu1, rfl⟩
    have HU1 := Lib.hid (HA.out _ u1 (hu1 _ (HS.out.below HX0.out)))
    clear hu1
    go_wp2_with fail
    refine HU1.out.mono ?_
    rintro e w2 ⟨rfl, hb2⟩
    have HX2 := Lib.hid (bthen HX0.out hb2)
    clear hb2
    go_wp2_with fail
    refine (H2.out _ HX2.out).mono ?_
    rintro e w3 ⟨u2, rfl, hu2, rfl⟩
    have HU2 := Lib.hid (HB.out _ u2 (hu2 _ (HS.out.below HX2.out)))
    clear hu2
    go_wp2_with fail
    refine HU2.out.mono ?_
    rintro e w4 ⟨rfl, hb4⟩
    have HX4 := Lib.hid (bthen HX2.out hb4)
    clear hb4
    go_wp2
    go_ret
    exact ⟨by rw [HE.out]; rfl, HX4.out⟩
set_option maxRecDepth 100000 in
theorem sp_imp (a b : Fm) (iha : SpT a) (ihb : SpT b) (hf : isfl b = false) : SpT (.bin .imp a b) := by
  intro l v w h hl hok
  have hok1 : a.ok = true := by have := hok; simp [Fm.ok] at this; exact this.1
  have hok2 : b.ok = true := by have := hok; simp [Fm.ok] at this; exact this.2
  have hla : (enc a).length ≤ 1048576 := by simp [enc] at hl; omega
  have hlb : (enc b).length ≤ 1048576 := by simp [enc] at hl; omega
  have sz1 := wtb_size a 1
  have sz2 := wtb_size b 0
  obtain ⟨ta, hta⟩ : ∃ ta, wrp (lv a) 1 (tbx a) = ta := ⟨_, rfl⟩
  obtain ⟨tc, htc⟩ : ∃ tc, wrp (lv b) 0 (tbx b) = tc := ⟨_, rfl⟩
  have HT : Hid (tbx (.bin .imp a b) = (ta ++ (⟨#[62]⟩ : ByteArray)) ++ tc) := Lib.hid (by rw [← hta, ← htc]; simp only [tbx, hf]; rfl)
  have HV : Hid (lv (.bin .imp a b) = 0) := Lib.hid (by simp only [lv, hf]; rfl)
  have h' : Sl cN w v ((4, 0) :: (enc a ++ enc b)) := h
  have HS := Lib.hid h'
  have H1 := Lib.hid (fun W (hW : Below w.heap.size w W) => left_gQ v (4, 0) a (enc b) W (h'.below hW) hl)
  have H2 := Lib.hid (fun W (hW : Below w.heap.size w W) => right_gQ v (4, 0) a b W (h'.below hW) hl)
  have HA := Lib.hid (fun W u (hu : Sl cN W u (enc a)) => iha 1 u W hu hla hok1)
  have HB := Lib.hid (fun W u (hu : Sl cN W u (enc b)) => ihb 0 u W hu hlb hok2)
  rw [hta] at HA sz1
  rw [htc] at HB sz2
  have s1 : ¬ 9223372036854775807 < ta.size + 1 := by omega
  have s2 : ¬ 9223372036854775807 < ta.size + 1 + tc.size := by omega
  have s3 : ¬ 9223372036854775807 < 1 + (ta.size + 1 + tc.size) := by omega
  have s4 : ¬ 9223372036854775807 < 1 + (ta.size + 1 + tc.size) + 1 := by omega
  have HQ := Lib.hid (fun W (hW : Below w.heap.size w W) u (hu : Sl cN W u [(4, 0), (1, 0), (1, 0)]) => spec_l02EqualQ v u (enc (.bin .imp a b)) _ W (h.below hW) hu (by omega) (by simp))
  rw [eq_true_imp, hf, Bool.and_false] at HQ
  have hk1 : (kd b == 1) = false := by
    cases b with
    | fls => simp [isfl] at hf
    | var s => rfl
    | un k x => cases k <;> rfl
    | bin k x y => cases k <;> rfl
  obtain ⟨kb, hkb⟩ : ∃ kb, kd b = kb := ⟨_, rfl⟩
  have HKB := Lib.hid hkb
  rw [hkb] at hk1
  clear hkb
  obtain ⟨A, c, rfl⟩ := h.opn
  obtain ⟨b', o, rfl, hb, h00, h01⟩ := (show Sl cN w (.slice A (enc (.bin .imp a b)).length c) ((4, 0) :: (enc a ++ enc b)) from h).atN0
  have hp := enc_pos (.bin .imp a b)
  clear h h' sz1 sz2 hta htc hl
  generalize (enc (.bin .imp a b)).length = m at *
  have HB0 : Hid (Below w.heap.size w w) := Lib.hid (Below.refl _ _)
  by_cases hlt : 0 < l
  · have HE : Hid (wrp (lv (.bin .imp a b)) l (tbx (.bin .imp a b)) = ((⟨#[40]⟩ : ByteArray) ++ ((ta ++ (⟨#[62]⟩ : ByteArray)) ++ tc)) ++ (⟨#[41]⟩ : ByteArray)) := Lib.hid (by rw [wrp_yes _ (show lv (.bin .imp a b) < l by rw [HV.out]; exact hlt), HT.out])
    have i1 : decide ((0 : Int) < (l : Int)) = true := decide_eq_true (by omega)
    have i2 : decide (0 < l) = true := decide_eq_true hlt
    clear hlt
    go_enter Tryz.func133, Tryz.ntmps133
    have HX0 := HB0
    go_wp2_with fail
    refine (spec_l02True _).mono ?_
    rintro e w5 ⟨u5, rfl, hu5, hb5⟩
    have HX5 := Lib.hid (bthen HX0.out hb5)
    have HE5 := Lib.hid (HQ.out _ HX5.out u5 hu5.sl)
    clear hu5 hb5
    go_wp2_with fail
    refine HE5.out.mono ?_
    rintro e w6 ⟨rfl, hb6⟩
    have HX6 := Lib.hid (bthen HX5.out hb6)
    clear hb6
    clear HX0
    go_wp2_with fail
    refine (H2.out _ HX6.out).mono ?_
    rintro e w7 ⟨u7, rfl, hu7, rfl⟩
    have hk7 := hu7 _ (HS.out.below HX6.out)
    obtain ⟨A7, c7, rfl⟩ := hk7.opn
    obtain ⟨b7, o7, y7, rfl, hb7, g70, g71⟩ := kd_cell hk7
    rw [HKB.out] at g70
    have hp7 := enc_pos b
    have HX0 := HX6
    clear hk7 hu7
    generalize (enc b).length = m7 at *
    go_wp2_with fail
    refine (H1.out _ HX0.out).mono ?_
    rintro e w1 ⟨u1, rfl, hu1, rfl⟩
    have HU1 := Lib.hid (HA.out _ u1 (hu1 _ (HS.out.below HX0.out)))
    clear hu1
    go_wp2_with fail
    refine HU1.out.mono ?_
    rintro e w2 ⟨rfl, hb2⟩
    have HX2 := Lib.hid (bthen HX0.out hb2)
    clear hb2
    go_wp2_with fail
    refine (H2.out _ HX2.out).mono ?_
    rintro e w3 ⟨u2, rfl, hu2, rfl⟩
    have HU2 := Lib.hid (HB.out _ u2 (hu2 _ (HS.out.below HX2.out)))
    clear hu2
    go_wp2_with fail
    refine HU2.out.mono ?_
    rintro e w4 ⟨rfl, hb4⟩
    have HX4 := Lib.hid (bthen HX2.out hb4)
    clear hb4
    go_wp2
    go_ret
    exact ⟨by rw [HE.out]; rfl, HX4.out⟩
  · have HE : Hid (wrp (lv (.bin .imp a b)) l (tbx (.bin .imp a b)) = (ta ++ (⟨#[62]⟩ : ByteArray)) ++ tc) := Lib.hid (by rw [wrp_no _ (show ¬ lv (.bin .imp a b) < l by rw [HV.out]; exact hlt), HT.out])
    have i1 : decide ((0 : Int) < (l : Int)) = false := decide_eq_false (by omega)
    have i2 : decide (0 < l) = false := decide_eq_false hlt
    clear hlt
    go_enter Tryz.func133, Tryz.ntmps133
    have HX0 := HB0
    go_wp2_with fail
    refine (spec_l02True _).mono ?_
    rintro e w5 ⟨u5, rfl, hu5, hb5⟩
    have HX5 := Lib.hid (bthen HX0.out hb5)
    have HE5 := Lib.hid (HQ.out _ HX5.out u5 hu5.sl)
    clear hu5 hb5
    go_wp2_with fail
    refine HE5.out.mono ?_
    rintro e w6 ⟨rfl, hb6⟩
    have HX6 := Lib.hid (bthen HX5.out hb6)
    clear hb6
    clear HX0
    go_wp2_with fail
    refine (H2.out _ HX6.out).mono ?_
    rintro e w7 ⟨u7, rfl, hu7, rfl⟩
    have hk7 := hu7 _ (HS.out.below HX6.out)
    obtain ⟨A7, c7, rfl⟩ := hk7.opn
    obtain ⟨b7, o7, y7, rfl, hb7, g70, g71⟩ := kd_cell hk7
    rw [HKB.out] at g70
    have hp7 := enc_pos b
    have HX0 := HX6
    clear hk7 hu7
    generalize (enc b).length = m7 at *
    go_wp2_with fail
    refine (H1.out _ HX0.out).mono ?_
    rintro e w1 ⟨u1, rfl, hu1, rfl⟩
    have HU1 := Lib.hid (HA.out _ u1 (hu1 _ (HS.out.below HX0.out)))
    clear hu1
    go_wp2_with fail
    refine HU1.out.mono ?_
    rintro e w2 ⟨rfl, hb2⟩
    have HX2 := Lib.hid (bthen HX0.out hb2)
    clear hb2
    go_wp2_with fail
    refine (H2.out _ HX2.out).mono ?_
    rintro e w3 ⟨u2, rfl, hu2, rfl⟩
    have HU2 := Lib.hid (HB.out _ u2 (hu2 _ (HS.out.below HX2.out)))
    clear hu2
    go_wp2_with fail
    refine HU2.out.mono ?_
    rintro e w4 ⟨rfl, hb4⟩
    have HX4 := Lib.hid (bthen HX2.out hb4)
    clear hb4
    go_wp2
    go_ret
    exact ⟨by rw [HE.out]; rfl, HX4.out⟩
set_option maxRecDepth 100000 in
theorem sp_neg (a b : Fm) (iha : SpT a) (hf : isfl b = true) (hfa : isfl a = false) : SpT (.bin .imp a b) := by
  intro l v w h hl hok
  have hok1 : a.ok = true := by have := hok; simp [Fm.ok] at this; exact this.1
  have hla : (enc a).length ≤ 1048576 := by simp [enc] at hl; omega
  have sz1 := wtb_size a 3
  obtain ⟨ta, hta⟩ : ∃ ta, wrp (lv a) 3 (tbx a) = ta := ⟨_, rfl⟩
  have HT : Hid (tbx (.bin .imp a b) = (⟨#[126]⟩ : ByteArray) ++ ta) := Lib.hid (by (try rw [← hta]); simp only [tbx, hf, hfa]; rfl)
  have HV : Hid (lv (.bin .imp a b) = 3) := Lib.hid (by simp only [lv, hf]; rfl)
  have h' : Sl cN w v ((4, 0) :: (enc a ++ enc b)) := h
  have HS := Lib.hid h'
  have H1 := Lib.hid (fun W (hW : Below w.heap.size w W) => left_gQ v (4, 0) a (enc b) W (h'.below hW) hl)
  have H2 := Lib.hid (fun W (hW : Below w.heap.size w W) => right_gQ v (4, 0) a b W (h'.below hW) hl)
  have HA := Lib.hid (fun W u (hu : Sl cN W u (enc a)) => iha 3 u W hu hla hok1)
  rw [hta] at HA sz1
  have s1 : ¬ 9223372036854775807 < 1 + ta.size := by omega
  have s3 : ¬ 9223372036854775807 < 1 + (1 + ta.size) := by omega
  have s4 : ¬ 9223372036854775807 < 1 + (1 + ta.size) + 1 := by omega
  have HQ := Lib.hid (fun W (hW : Below w.heap.size w W) u (hu : Sl cN W u [(4, 0), (1, 0), (1, 0)]) => spec_l02EqualQ v u (enc (.bin .imp a b)) _ W (h.below hW) hu (by omega) (by simp))
  rw [eq_true_imp, hf, hfa] at HQ
  have hbf : b = .fls := (isfl_iff b).1 hf
  have HKB : Hid (kd b = 1) := Lib.hid (by rw [hbf]; rfl)
  obtain ⟨A, c, rfl⟩ := h.opn
  obtain ⟨b', o, rfl, hb, h00, h01⟩ := (show Sl cN w (.slice A (enc (.bin .imp a b)).length c) ((4, 0) :: (enc a ++ enc b)) from h).atN0
  have hp := enc_pos (.bin .imp a b)
  clear h h' sz1 hta hl hf hfa hbf
  generalize (enc (.bin .imp a b)).length = m at *
  have HB0 : Hid (Below w.heap.size w w) := Lib.hid (Below.refl _ _)
  by_cases hlt : 3 < l
  · have HE : Hid (wrp (lv (.bin .imp a b)) l (tbx (.bin .imp a b)) = ((⟨#[40]⟩ : ByteArray) ++ ((⟨#[126]⟩ : ByteArray) ++ ta)) ++ (⟨#[41]⟩ : ByteArray)) := Lib.hid (by rw [wrp_yes _ (show lv (.bin .imp a b) < l by rw [HV.out]; exact hlt), HT.out])
    have i1 : decide ((3 : Int) < (l : Int)) = true := decide_eq_true (by omega)
    have i2 : decide (3 < l) = true := decide_eq_true hlt
    clear hlt
    go_enter Tryz.func133, Tryz.ntmps133
    have HX0 := HB0
    go_wp2_with fail
    refine (spec_l02True _).mono ?_
    rintro e w5 ⟨u5, rfl, hu5, hb5⟩
    have HX5 := Lib.hid (bthen HX0.out hb5)
    have HE5 := Lib.hid (HQ.out _ HX5.out u5 hu5.sl)
    clear hu5 hb5
    go_wp2_with fail
    refine HE5.out.mono ?_
    rintro e w6 ⟨rfl, hb6⟩
    have HX6 := Lib.hid (bthen HX5.out hb6)
    clear hb6
    clear HX0
    go_wp2_with fail
    refine (H2.out _ HX6.out).mono ?_
    rintro e w7 ⟨u7, rfl, hu7, rfl⟩
    have hk7 := hu7 _ (HS.out.below HX6.out)
    obtain ⟨A7, c7, rfl⟩ := hk7.opn
    obtain ⟨b7, o7, y7, rfl, hb7, g70, g71⟩ := kd_cell hk7
    rw [HKB.out] at g70
    have hp7 := enc_pos b
    clear hk7 hu7
    generalize (enc b).length = m7 at *
    go_wp2_with fail
    refine (H1.out _ HX6.out).mono ?_
    rintro e w1 ⟨u1, rfl, hu1, rfl⟩
    have HU1 := Lib.hid (HA.out _ u1 (hu1 _ (HS.out.below HX6.out)))
    clear hu1
    go_wp2_with fail
    refine HU1.out.mono ?_
    rintro e w2 ⟨rfl, hb2⟩
    have HX2 := Lib.hid (bthen HX6.out hb2)
    clear hb2
    go_wp2
    go_ret
    exact ⟨by rw [HE.out]; rfl, HX2.out⟩
  · have HE : Hid (wrp (lv (.bin .imp a b)) l (tbx (.bin .imp a b)) = (⟨#[126]⟩ : ByteArray) ++ ta) := Lib.hid (by rw [wrp_no _ (show ¬ lv (.bin .imp a b) < l by rw [HV.out]; exact hlt), HT.out])
    have i1 : decide ((3 : Int) < (l : Int)) = false := decide_eq_false (by omega)
    have i2 : decide (3 < l) = false := decide_eq_false hlt
    clear hlt
    go_enter Tryz.func133, Tryz.ntmps133
    have HX0 := HB0
    go_wp2_with fail
    refine (spec_l02True _).mono ?_
    rintro e w5 ⟨u5, rfl, hu5, hb5⟩
    have HX5 := Lib.hid (bthen HX0.out hb5)
    have HE5 := Lib.hid (HQ.out _ HX5.out u5 hu5.sl)
    clear hu5 hb5
    go_wp2_with fail
    refine HE5.out.mono ?_
    rintro e w6 ⟨rfl, hb6⟩
    have HX6 := Lib.hid (bthen HX5.out hb6)
    clear hb6
    clear HX0
    go_wp2_with fail
    refine (H2.out _ HX6.out).mono ?_
    rintro e w7 ⟨u7, rfl, hu7, rfl⟩
    have hk7 := hu7 _ (HS.out.below HX6.out)
    obtain ⟨A7, c7, rfl⟩ := hk7.opn
    obtain ⟨b7, o7, y7, rfl, hb7, g70, g71⟩ := kd_cell hk7
    rw [HKB.out] at g70
    have hp7 := enc_pos b
    clear hk7 hu7
    generalize (enc b).length = m7 at *
    go_wp2_with fail
    refine (H1.out _ HX6.out).mono ?_
    rintro e w1 ⟨u1, rfl, hu1, rfl⟩
    have HU1 := Lib.hid (HA.out _ u1 (hu1 _ (HS.out.below HX6.out)))
    clear hu1
    go_wp2_with fail
    refine HU1.out.mono ?_
    rintro e w2 ⟨rfl, hb2⟩
    have HX2 := Lib.hid (bthen HX6.out hb2)
    clear hb2
    go_wp2
    go_ret
    exact ⟨by rw [HE.out]; rfl, HX2.out⟩
set_option maxRecDepth 100000 in
theorem sp_tru (a b : Fm) (iha : SpT a) (hf : isfl b = true) (hfa : isfl a = true) : SpT (.bin .imp a b) := by
  intro l v w h hl hok
  have hok1 : a.ok = true := by have := hok; simp [Fm.ok] at this; exact this.1
  have hla : (enc a).length ≤ 1048576 := by simp [enc] at hl; omega
  have sz1 := wtb_size a 3
  obtain ⟨ta, hta⟩ : ∃ ta, wrp (lv a) 3 (tbx a) = ta := ⟨_, rfl⟩
  have HT : Hid (tbx (.bin .imp a b) = (⟨#[84]⟩ : ByteArray)) := Lib.hid (by (try rw [← hta]); simp only [tbx, hf, hfa]; rfl)
  have HV : Hid (lv (.bin .imp a b) = 3) := Lib.hid (by simp only [lv, hf]; rfl)
  have h' : Sl cN w v ((4, 0) :: (enc a ++ enc b)) := h
  have HS := Lib.hid h'
  have H1 := Lib.hid (fun W (hW : Below w.heap.size w W) => left_gQ v (4, 0) a (enc b) W (h'.below hW) hl)
  have H2 := Lib.hid (fun W (hW : Below w.heap.size w W) => right_gQ v (4, 0) a b W (h'.below hW) hl)
  have HA := Lib.hid (fun W u (hu : Sl cN W u (enc a)) => iha 3 u W hu hla hok1)
  rw [hta] at HA sz1
  have s1 : ¬ 9223372036854775807 < 1 + ta.size := by omega
  have s3 : ¬ 9223372036854775807 < 1 + (1 + ta.size) := by omega
  have s4 : ¬ 9223372036854775807 < 1 + (1 + ta.size) + 1 := by omega
  have HQ := Lib.hid (fun W (hW : Below w.heap.size w W) u (hu : Sl cN W u [(4, 0), (1, 0), (1, 0)]) => spec_l02EqualQ v u (enc (.bin .imp a b)) _ W (h.below hW) hu (by omega) (by simp))
  rw [eq_true_imp, hf, hfa] at HQ
  have hbf : b = .fls := (isfl_iff b).1 hf
  have HKB : Hid (kd b = 1) := Lib.hid (by rw [hbf]; rfl)
  obtain ⟨A, c, rfl⟩ := h.opn
  obtain ⟨b', o, rfl, hb, h00, h01⟩ := (show Sl cN w (.slice A (enc (.bin .imp a b)).length c) ((4, 0) :: (enc a ++ enc b)) from h).atN0
  have hp := enc_pos (.bin .imp a b)
  clear h h' sz1 hta hl hf hfa hbf
  generalize (enc (.bin .imp a b)).length = m at *
  have HB0 : Hid (Below w.heap.size w w) := Lib.hid (Below.refl _ _)
  by_cases hlt : 3 < l
  · have HE : Hid (wrp (lv (.bin .imp a b)) l (tbx (.bin .imp a b)) = ((⟨#[40]⟩ : ByteArray) ++ ((⟨#[84]⟩ : ByteArray))) ++ (⟨#[41]⟩ : ByteArray)) := Lib.hid (by rw [wrp_yes _ (show lv (.bin .imp a b) < l by rw [HV.out]; exact hlt), HT.out])
    have i1 : decide ((3 : Int) < (l : Int)) = true := decide_eq_true (by omega)
    have i2 : decide (3 < l) = true := decide_eq_true hlt
    clear hlt
    go_enter Tryz.func133, Tryz.ntmps133
    have HX0 := HB0
    go_wp2_with fail
    refine (spec_l02True _).mono ?_
    rintro e w5 ⟨u5, rfl, hu5, hb5⟩
    have HX5 := Lib.hid (bthen HX0.out hb5)
    have HE5 := Lib.hid (HQ.out _ HX5.out u5 hu5.sl)
    clear hu5 hb5
    go_wp2_with fail
    refine HE5.out.mono ?_
    rintro e w6 ⟨rfl, hb6⟩
    have HX6 := Lib.hid (bthen HX5.out hb6)
    clear hb6
    clear HX0
    go_wp2
    go_ret
    exact ⟨by rw [HE.out]; rfl, HX6.out⟩
  · have HE : Hid (wrp (lv (.bin .imp a b)) l (tbx (.bin .imp a b)) = (⟨#[84]⟩ : ByteArray)) := Lib.hid (by rw [wrp_no _ (show ¬ lv (.bin .imp a b) < l by rw [HV.out]; exact hlt), HT.out])
    have i1 : decide ((3 : Int) < (l : Int)) = false := decide_eq_false (by omega)
    have i2 : decide (3 < l) = false := decide_eq_false hlt
    clear hlt
    go_enter Tryz.func133, Tryz.ntmps133
    have HX0 := HB0
    go_wp2_with fail
    refine (spec_l02True _).mono ?_
    rintro e w5 ⟨u5, rfl, hu5, hb5⟩
    have HX5 := Lib.hid (bthen HX0.out hb5)
    have HE5 := Lib.hid (HQ.out _ HX5.out u5 hu5.sl)
    clear hu5 hb5
    go_wp2_with fail
    refine HE5.out.mono ?_
    rintro e w6 ⟨rfl, hb6⟩
    have HX6 := Lib.hid (bthen HX5.out hb6)
    clear hb6
    clear HX0
    go_wp2
    go_ret
    exact ⟨by rw [HE.out]; rfl, HX6.out⟩
theorem spec_l02Write (f : Fm) : SpT f := by
  induction f with
  | var s => exact sp_var s
  | fls => exact sp_fls
  | un k a ih => cases k; exact sp_box a ih; exact sp_dia a ih
  | bin k a b iha ihb =>
    cases k
    · exact sp_and a b iha ihb
    · exact sp_or a b iha ihb
    · cases hf : isfl b
      · exact sp_imp a b iha ihb hf
      · cases hfa : isfl a
        · exact sp_neg a b iha hf hfa
        · exact sp_tru a b iha hf hfa
theorem spec_l02Text (f : Fm) (v : Value) (w : World) (h : Sl cN w v (enc f)) (hl : (enc f).length ≤ 1048576) (hok : f.ok = true) :
    Calls Tryz.prog 122 #[v] w fun e w' => e = .returned (.string (txt f)) ∧ Below w.heap.size w w' := by
  have HT := Lib.hid (spec_l02Write f 0 v w h hl hok)
  clear h
  go_enter Tryz.func122, Tryz.ntmps122
  go_wp2_with fail
  refine HT.out.mono ?_
  rintro e w1 ⟨rfl, hb⟩
  have HB := Lib.hid hb
  clear hb
  go_wp2
  go_ret
  exact ⟨rfl, HB.out⟩
end Go.Proofs.YtcikenffeekkeaaGreatDoor
