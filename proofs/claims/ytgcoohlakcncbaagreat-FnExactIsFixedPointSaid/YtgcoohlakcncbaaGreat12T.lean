/- Contracts of chapter 12, of the reference: the value of a formula in a type; what types see; witnesses. -/
import Derived.Test.YtgcoohlakcncbaaGreat12S
import Derived.Test.YtgcoohlakcncbaaGreatJE
import Derived.Test.YtgcoohlakcncbaaGreatHI
namespace Go.Proofs.YtgcoohlakcncbaaGreat
open Go.RowKit
set_option linter.unusedVariables false
set_option linter.unusedSimpArgs false
/-- where a space keeps the texts of the elementary parts -/
def SpP (P : List Fm) (p : Nat) (W : World) : Prop := ∃ A c, p < W.heap.size ∧ W.cell? ⟨p, 1, none⟩ = some (.slice A P.length c) ∧ Sl cS W (.slice A P.length c) (P.map txt)
theorem SpP.below {P : List Fm} {p : Nat} {W W' : World} (h : SpP P p W) (hb : Below W.heap.size W W') : SpP P p W' := by
  obtain ⟨A, c, h1, h2, h3⟩ := h
  exact ⟨A, c, Nat.lt_of_lt_of_le h1 hb.size, (hb.cell (p := ⟨p, 1, none⟩) h1).trans h2, h3.below hb⟩
/-- the mask of what is true below the modalities -/
def trT (P : List Fm) (t : Nat) : Nat := msk (fun i => ism P i && vt P t (inn (P.getD i .fls))) P.length
theorem trT_lt (P : List Fm) (t : Nat) : trT P t < 2 ^ P.length := msk_ltT _ _
theorem trT_bit {P : List Fm} {t i : Nat} (hi : i < P.length) (hm : ism P i = true) : (trT P t).testBit i = vt P t (inn (P.getD i .fls)) := by
  unfold trT
  rw [msk_testBit, decide_eq_true hi, Bool.true_and, hm, Bool.true_and]
def trL (P : List Fm) (N : Nat) : List Int := (List.range N).map fun t => ((trT P t : Nat) : Int)
theorem trL_length (P : List Fm) (N : Nat) : (trL P N).length = N := by simp [trL]
theorem trL_get (P : List Fm) (N t : Nat) (h : t < (trL P N).length) : (trL P N)[t] = ((trT P t : Nat) : Int) := by simp [trL]
/-- a space that is complete but for its living types, at GL -/
def SpR (P : List Fm) (N p : Nat) (W : World) : Prop := ∃ (A1 A2 A4 : Option Addr) (c1 c2 c4 : Nat), p < W.heap.size ∧ W.cell? ⟨p, 0, none⟩ = some (.string ⟨#[71, 76]⟩) ∧ W.cell? ⟨p, 1, none⟩ = some (.slice A1 P.length c1) ∧
  W.cell? ⟨p, 2, none⟩ = some (.slice A2 P.length c2) ∧ W.cell? ⟨p, 4, none⟩ = some (.slice A4 N c4) ∧ Sl cS W (.slice A1 P.length c1) (P.map txt) ∧ Sl cI W (.slice A2 P.length c2) (P.map kdF) ∧ Sl cI W (.slice A4 N c4) (trL P N)
theorem SpR.below {P : List Fm} {N p : Nat} {W W' : World} (h : SpR P N p W) (hb : Below W.heap.size W W') : SpR P N p W' := by
  obtain ⟨A1, A2, A4, c1, c2, c4, h0, h1, h2, h3, h4, h5, h6, h7⟩ := h
  exact ⟨A1, A2, A4, c1, c2, c4, Nat.lt_of_lt_of_le h0 hb.size, (hb.cell (p := ⟨p, 0, none⟩) h0).trans h1, (hb.cell (p := ⟨p, 1, none⟩) h0).trans h2, (hb.cell (p := ⟨p, 2, none⟩) h0).trans h3, (hb.cell (p := ⟨p, 4, none⟩) h0).trans h4, h5.below hb, h6.below hb, h7.below hb⟩
/-- what l12True gives -/
def TrS (P : List Fm) (t p : Nat) (f : Fm) : Prop := f.ok = true → (enc f).length ≤ 40 → inP P f → ∀ (v : Value) (W : World), SpP P p W → Sl cN W v (enc f) →
  Calls Tryz.prog 241 #[.pointer (some ⟨p, 0, none⟩), .int .i64 (t : Int), v] W fun e w' => e = .returned (.bool (vt P t f)) ∧ Below W.heap.size W w'
theorem ixT_low {P : List Fm} {g : Fm} {j : Nat} (hP : ∀ x ∈ P, x.ok = true) (hg : g.ok = true) (hj : j < ixT P g) (hl : j < P.length) : ¬ txt P[j] = txt g := fun e => by
  have e2 := txt_inj (hP _ (List.getElem_mem hl)) hg e
  have := List.not_of_lt_findIdx hj
  rw [e2] at this
  simp at this
set_option maxRecDepth 100000 in
/-- at an elementary formula -/
theorem spec_l12True_el (P : List Fm) (t p : Nat) (f : Fm) (hP : P.length ≤ 20) (ht : t < 4294967296) (he : isel f = true) (hvt : vt P t f = t.testBit (ixT P f)) (hm : f ∈ P) (hPok : ∀ g ∈ P, g.ok = true) (hok : f.ok = true) (hfl : (enc f).length ≤ 40) (v : Value) (W : World) (hp : SpP P p W) (h : Sl cN W v (enc f)) :
    Calls Tryz.prog 241 #[.pointer (some ⟨p, 0, none⟩), .int .i64 (t : Int), v] W fun e w' => e = .returned (.bool (vt P t f)) ∧ Below W.heap.size W w' := by
  obtain ⟨A, c, rfl⟩ := h.opn
  rw [hvt]
  obtain ⟨hix, hixe⟩ := ixT_mem hm
  have HLOW : Hid (∀ j, j < ixT P f → ∀ hl : j < P.length, (( txt P[j]).toList == (txt f).toList) = false) := Lib.hid fun j hj hl => beq_eq_false_iff_ne.2 (ba_ne (ixT_low hPok hok hj hl))
  have HAT : Hid (∀ hl : ixT P f < P.length, txt P[ixT P f] = txt f) := Lib.hid fun hl => by
    rw [List.getD_eq_getElem?_getD, List.getElem?_eq_getElem hl] at hixe
    exact congrArg txt hixe
  have HT := Lib.hid (fun v W a => spec_l02Text f v W a (by omega) hok)
  obtain ⟨b, o, rfl, hbl, hc⟩ := h.cell (k := 0) (enc_pos f)
  have hk0 : W.cell? ⟨b, o, none⟩ = some (.int .i64 (kdF f)) := by
    have := hc 0 (.int .i64 ((enc f)[0]'(enc_pos f)).1) rfl
    rw [kdF_enc] at this
    simpa using this
  have hkd : kdF f = 0 ∨ kdF f = 5 ∨ kdF f = 6 := by
    rw [kdF_el] at he
    simpa using he
  have hpos := enc_pos f
  have H := Lib.hid h
  have HP := Lib.hid hp
  clear h hp he hc hvt hm hPok hixe hok
  generalize ixT P f = ix0 at *
  go_enter Tryz.func241, Tryz.ntmps241
  rcases hkd with hkd | hkd | hkd
  all_goals
    rw [hkd] at hk0
    clear hkd
    go_wp2_with fail
    refine (HT.out _ _ H.out).mono ?_
    rintro e w2 ⟨rfl, hb⟩
    have HB2 := Lib.hid hb
    have HP2 := Lib.hid (HP.out.below hb)
    clear hb hk0 hbl H HP
    obtain ⟨Ap, cp, q1, q2, q3⟩ := HP2.out
    have HQ3 := Lib.hid q3
    clear q3
    go_wp2
    go_loopw [8] (fun i wr => ∃ j : Nat, j ≤ ix0 ∧ i = .int .i64 j ∧ wr = w2) (fun i _ => P.length - (intOf i).toNat)
    case atStart => exact ⟨0, Nat.zero_le _, rfl, rfl⟩
    case round =>
      obtain ⟨j, hj, rfl, rfl⟩ := hrel
      have hjl : j < P.length := by omega
      obtain ⟨b, o, rfl, hbl, hc⟩ := HQ3.out.atS (k := j) (by rw [List.length_map]; exact hjl)
      rw [List.getElem_map] at hc
      have i1 : (j : Int) < (P.length : Int) := by omega
      by_cases hjx : j < ix0
      · have hne := HLOW.out j hjx hjl
        generalize txt P[j] = tj at *
        generalize txt f = tf at *
        go_wp2
        go_roundw
        case rel => exact ⟨j + 1, by omega, by go_num, trivial⟩
        case measure => simp [intOf]; omega
      · obtain rfl : j = ix0 := by omega
        rw [HAT.out hjl] at hc
        have HBt := Lib.hid (spec_l01Bit t j wr (by omega) (by omega))
        generalize txt f = tf at *
        go_wp2_with fail
        refine HBt.out.mono ?_
        rintro e w3 ⟨rfl, rfl⟩
        go_wp2
        go_ret
        exact ⟨rfl, HB2.out⟩
set_option maxRecDepth 100000 in
theorem spec_l12True_fls (P : List Fm) (t p : Nat) : TrS P t p .fls := by
  intro hok hl hin v W hp h
  obtain ⟨A, c, rfl⟩ := h.opn
  obtain ⟨b, o, rfl, hbl, hc⟩ := h.cell (k := 0) (enc_pos _)
  have hk0 : W.cell? ⟨b, o, none⟩ = some (.int .i64 1) := by
    have := hc 0 (.int .i64 1) rfl
    simpa using this
  have hpos : 0 < (enc Fm.fls).length := enc_pos _
  clear hc h hp
  generalize (enc Fm.fls).length = n at *
  go_enter Tryz.func241, Tryz.ntmps241
  go_wp2
  go_ret
  exact ⟨rfl, Below.refl _ _⟩
set_option maxRecDepth 100000 in
set_option maxHeartbeats 1000000 in
theorem spec_l12True_bin (P : List Fm) (t p : Nat) (k : BK) (f g : Fm) (ihf : TrS P t p f) (ihg : TrS P t p g) : TrS P t p (.bin k f g) := by
  intro hok hl hin v W hp h
  obtain ⟨A, c, rfl⟩ := h.opn
  simp only [Fm.ok, Bool.and_eq_true] at hok
  have hlen : (enc (.bin k f g)).length = 1 + (enc f).length + (enc g).length := by simp [enc]; omega
  have HF := Lib.hid (ihf hok.1 (by omega) hin.1)
  have HG := Lib.hid (ihg hok.2 (by omega) hin.2)
  have HV : Hid (vt P t (.bin k f g) = bvl k (vt P t f) (vt P t g)) := Lib.hid (by cases k <;> rfl)
  have HX := Lib.hid h
  have HP := Lib.hid hp
  have H1st := Lib.hid (fun W v (hv : Sl cN W v (enc (.bin k f g))) => spec_l02Left v (k.i, 0) f (enc g) W hv (by show (enc (.bin k f g)).length ≤ _; omega))
  have H2nd := Lib.hid (fun W v (hv : Sl cN W v (enc (.bin k f g))) => spec_l02Right v (k.i, 0) f g W hv (by show (enc (.bin k f g)).length ≤ _; omega))
  obtain ⟨b, o, rfl, hbl, hc⟩ := h.cell (k := 0) (enc_pos _)
  have hk0 : W.cell? ⟨b, o, none⟩ = some (.int .i64 k.i) := by
    have := hc 0 (.int .i64 k.i) rfl
    simpa using this
  have hpos : 0 < (enc (.bin k f g)).length := enc_pos _
  clear h hp hc hlen hok hin
  generalize vt P t f = r1 at *
  generalize vt P t g = r2 at *
  generalize vt P t (.bin k f g) = r at *
  generalize (enc (.bin k f g)).length = n at *
  go_enter Tryz.func241, Tryz.ntmps241
  cases k
  all_goals
    simp only [BK.i] at hk0
    go_wp2_with fail
    refine (H1st.out _ _ HX.out).mono ?_
    rintro e w2 ⟨u2, rfl, hs2, rfl⟩
    have S2 := Lib.hid hs2
    clear hs2 hk0
    go_wp2_with fail
    refine (HF.out _ _ HP.out S2.out).mono ?_
    rintro e w3 ⟨rfl, hb3⟩
    have HX3 := Lib.hid (HX.out.below hb3)
    have HP3 := Lib.hid (HP.out.below hb3)
    have HB3 := Lib.hid hb3
    clear hb3 hbl
    cases r1
  all_goals first
    | (go_wp2
       go_ret
       exact ⟨by rw [HV.out]; rfl, HB3.out⟩)
    | (go_wp2_with fail
       refine (H2nd.out _ _ HX3.out).mono ?_
       rintro e w4 ⟨u4, rfl, hs4, rfl⟩
       have S4 := Lib.hid hs4
       clear hs4
       go_wp2_with fail
       refine (HG.out _ _ HP3.out S4.out).mono ?_
       rintro e w5 ⟨rfl, hb5⟩
       have HB5 := Lib.hid (bthen HB3.out hb5)
       clear hb5
       go_wp2
       go_ret
       exact ⟨by rw [HV.out]; cases r2 <;> rfl, HB5.out⟩)
theorem spec_l12True (P : List Fm) (t p : Nat) (hP : P.length ≤ 20) (ht : t < 4294967296) (hPok : ∀ g ∈ P, g.ok = true) : ∀ f : Fm, TrS P t p f := by
  intro f
  induction f with
  | var s => exact fun hok hl hin v W hp h => spec_l12True_el P t p _ hP ht rfl rfl hin hPok hok hl v W hp h
  | fls => exact spec_l12True_fls P t p
  | bin k a b iha ihb => exact spec_l12True_bin P t p k a b iha ihb
  | un k a ih => exact fun hok hl hin v W hp h => spec_l12True_el P t p _ hP ht rfl rfl hin.1 hPok hok hl v W hp h
end Go.Proofs.YtgcoohlakcncbaaGreat
