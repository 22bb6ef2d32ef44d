/- Contracts of chapter 12, of the reference: logics, sides, the elementary parts of a sequent of two formulas. -/
import Derived.Test.YtgcoohlakcncbaaGreatJD
import Derived.Test.YtgcoohlakcncbaaGreat05e
namespace Go.Proofs.YtgcoohlakcncbaaGreat
open Go.RowKit
set_option linter.unusedVariables false
set_option linter.unusedSimpArgs false
theorem spec_l01Says_yes (v : Value) (xs : List ByteArray) (x : ByteArray) (k : Nat) (w : World) (h : Sl cS w v xs) (hl : xs.length ≤ 1048576) (hk : k < xs.length) (h1 : xs[k]? = some x) (h2 : ∀ j, j < k → ¬ xs[j]? = some x) :
    Calls Tryz.prog 237 #[v, .string x] w fun e w' => e = .returned (.bool true) ∧ w = w' := by
  obtain ⟨A, c, rfl⟩ := h.opn
  have H1 := Lib.hid h1
  have H2 := Lib.hid h2
  clear h1 h2
  go_enter Tryz.func237, Tryz.ntmps237
  go_wp2
  go_loop [5] (fun i => ∃ j : Nat, j ≤ k ∧ i = .int .i64 j) (fun i => xs.length - (intOf i).toNat)
  case atStart => exact ⟨0, Nat.zero_le _, rfl⟩
  case round =>
    obtain ⟨j, hj, rfl⟩ := hrel
    have hlt : j < xs.length := by omega
    obtain ⟨b, o, rfl, hbl, hc0⟩ := h.atS hlt
    by_cases he : xs[j] = x
    · have hjk : j = k := by
        rcases Nat.lt_or_ge j k with h' | h'
        · exact absurd (by rw [List.getElem?_eq_getElem hlt, he]) (H2.out j h')
        · omega
      subst hjk
      rw [he] at hc0
      go_wp2
      go_ret
      exact ⟨rfl, rfl⟩
    · have hjk : j < k := by
        rcases Nat.lt_or_ge j k with h' | h'
        · exact h'
        · obtain rfl : j = k := by omega
          have := H1.out
          rw [List.getElem?_eq_getElem hlt] at this
          exact absurd (Option.some.inj this) he
      have hne : (xs[j].toList == x.toList) = false := beq_eq_false_iff_ne.2 (ba_ne he)
      generalize xs[j] = y at *
      clear he
      go_wp2
      go_round
      case rel => exact ⟨j + 1, by omega, by go_num⟩
      case measure => simp [intOf]; omega
def logR : List ByteArray := [⟨#[75]⟩, ⟨#[68]⟩, ⟨#[84]⟩, ⟨#[75, 52]⟩, ⟨#[83, 52]⟩, ⟨#[71, 76]⟩, ⟨#[83, 53]⟩]
set_option maxRecDepth 100000 in
theorem spec_IsSequentLogic_GL (w : World) :
    Calls Tryz.prog 201 #[.string ⟨#[71, 76]⟩] w fun e w' => e = .returned (.bool true) ∧ Below w.heap.size w w' := by
  have HS : Hid (∀ W, W = w.alloc (.cells #[.string ⟨#[75]⟩, .string ⟨#[68]⟩, .string ⟨#[84]⟩, .string ⟨#[75, 52]⟩, .string ⟨#[83, 52]⟩, .string ⟨#[71, 76]⟩, .string ⟨#[83, 53]⟩] 9) → Calls Tryz.prog 237 #[.slice (some ⟨w.heap.size, 0, none⟩) 7 7, .string ⟨#[71, 76]⟩] W fun e w' => e = .returned (.bool true) ∧ Below w.heap.size w w') := Lib.hid fun W hW => by
    have hs := (Ow.lit (K := cS) (e := 9) (w := w) (B := w.heap.size) (n := 7) logR (hm := by decide) rfl rfl (Nat.le_refl _)).sl
    refine (spec_l01Says_yes _ logR ⟨#[71, 76]⟩ 5 W (by rw [hW]; exact hs) (by decide) (by decide) rfl (by
      intro j hj
      have hjc : j = 0 ∨ j = 1 ∨ j = 2 ∨ j = 3 ∨ j = 4 := by omega
      rcases hjc with rfl | rfl | rfl | rfl | rfl <;> decide)).mono fun e w' ⟨he, hw⟩ => ⟨he, by rw [← hw, hW]; exact below_alloc' _ _⟩
  go_enter Tryz.func201, Tryz.ntmps201
  go_wp2_with fail
  refine (HS.out _ rfl).mono ?_
  rintro e w2 ⟨rfl, hb⟩
  have HB := Lib.hid hb
  clear hb
  go_wp2
  go_ret
  exact ⟨rfl, HB.out⟩
set_option maxRecDepth 100000 in
theorem spec_l12Is_GL (w : World) :
    Calls Tryz.prog 128 #[.string ⟨#[71, 76]⟩] w fun e w' => e = .returned (.bool true) ∧ Below w.heap.size w w' := by
  have HS := Lib.hid (spec_IsSequentLogic_GL w)
  go_enter Tryz.func128, Tryz.ntmps128
  go_wp2_with fail
  refine HS.out.mono ?_
  rintro e w2 ⟨rfl, hb⟩
  have HB := Lib.hid hb
  clear hb
  go_wp2
  go_ret
  exact ⟨rfl, HB.out⟩
theorem spec_l11Copy (v : Value) (xs : List ByteArray) (w : World) (h : Sl cS w v xs) (hl : xs.length ≤ 1000) :
    Calls Tryz.prog 292 #[v] w fun e w' => ∃ u, e = .returned u ∧ Sl cS w' u xs ∧ Below w.heap.size w w' := by
  obtain ⟨A, c, rfl⟩ := h.opn
  have H := Lib.hid h
  clear h
  go_enter Tryz.func292, Tryz.ntmps292
  go_wp2_with (at_builtin; refine stopHere ?_)
  refine goHere ?_
  refine ap_sl (K := cS) _ ty_str rfl _ _ rfl rfl rfl (B := w.heap.size) (xs := []) (news := xs) (Ow.lit [] rfl rfl (Nat.le_refl _)) (H.out.alloc _) (by simp only [List.length_nil]; omega) (by simp) ?_
  intro v1 w1 ho hg hb1 hat
  have hb2 : Below w.heap.size w w1 := ((Below.refl _ _).alloc (Nat.le_refl _) _).trans hb1
  rw [List.nil_append] at ho
  have O := Lib.hid ho
  have B1 := Lib.hid hb2
  clear ho hg hb1 hat hb2
  go_wp2
  go_ret
  exact ⟨_, rfl, O.out.sl, B1.out⟩
def insL (L M : List T8) : List T8 := M.foldl (fun l x => ins8 x l) L
theorem insL_take (L M : List T8) {k : Nat} (hk : k < M.length) : insL L (M.take (k + 1)) = ins8 M[k] (insL L (M.take k)) := by
  unfold insL
  rw [List.take_succ_eq_append_getElem hk, List.foldl_append]
  rfl
theorem insL_len : ∀ (M L : List T8), (insL L M).length ≤ M.length + L.length
  | [], L => by simp [insL]
  | x :: M, L => by
    have h1 := insL_len M (ins8 x L)
    have h2 := ins8_len x L
    show (insL (ins8 x L) M).length ≤ _
    simp only [List.length_cons]
    omega
set_option maxRecDepth 100000 in
theorem spec_l11Union (v u : Value) (L M : List T8) (w : World) (h : Sl cS w v (bs L)) (h' : Sl cS w u (bs M)) (hl : L.length + M.length ≤ 1000) :
    Calls Tryz.prog 266 #[v, u] w fun e w' => ∃ r, e = .returned r ∧ Sl cS w' r (bs (insL L M)) ∧ Below w.heap.size w w' := by
  obtain ⟨A, c, rfl⟩ := h'.opn
  have HC := Lib.hid (spec_l11Copy v (bs L) w h (by rw [bs_length]; omega))
  have H := Lib.hid h'
  rw [bs_length] at H ⊢
  clear h h'
  go_enter Tryz.func266, Tryz.ntmps266
  go_wp2_with fail
  refine HC.out.mono ?_
  rintro e w1 ⟨u1, rfl, hs, hb⟩
  have S1 := Lib.hid hs
  have B1 := Lib.hid hb
  clear hs hb HC
  go_wp2
  go_loopw [5, 6] (fun a i wr => ∃ k : Nat, i = .int .i64 (k : Int) ∧ k ≤ M.length ∧ Sl cS wr a (bs (insL L (M.take k))) ∧ Below w.heap.size w wr) (fun _ i _ => M.length - (intOf i).toNat)
  case atStart => exact ⟨0, rfl, Nat.zero_le _, S1.out, B1.out⟩
  case round =>
    clear B1 S1
    obtain ⟨k, rfl, hk, hS, hb⟩ := hrel
    have S := Lib.hid hS
    have B := Lib.hid hb
    clear hS hb
    obtain ⟨As, cs, rfl⟩ := S.out.opn
    rw [bs_length] at S ⊢
    by_cases hkl : k < M.length
    · obtain ⟨b, o, rfl, hbl, hc⟩ := (H.out.below B.out).atS (k := k) (by rw [bs_length]; exact hkl)
      rw [bs_get] at hc
      have HI := Lib.hid (spec_l02Insert _ (insL L (M.take k)) M[k] wr S.out (by have := insL_len (M.take k) L; rw [List.length_take] at this; omega))
      rw [← insL_take L M hkl] at HI
      go_wp2_with fail
      refine HI.out.mono ?_
      rintro e w2 ⟨u2, rfl, hs2, hb2⟩
      have S2 := Lib.hid hs2
      have B2 := Lib.hid (bthen B.out hb2)
      clear hs2 hb2 HI
      go_wp2
      go_roundw
      case rel => exact ⟨k + 1, by go_num, by omega, S2.out, B2.out⟩
      case measure => simp [intOf]; omega
    · obtain rfl : k = M.length := by omega
      rw [List.take_length] at S
      clear hk hkl
      go_wp2
      go_ret
      exact ⟨_, rfl, by rw [List.take_length]; exact S.out, B.out⟩
set_option maxRecDepth 100000 in
theorem spec_l11Side_1 (f : Fm) (v : Value) (w : World) (h : Sl cS w v [txt f]) (hok : f.ok = true) (hl : (enc f).length ≤ 40) :
    Calls Tryz.prog 238 #[v] w fun e w' => e = .returned (.bool true) ∧ Below w.heap.size w w' := by
  obtain ⟨A, c, rfl⟩ := h.opn
  have HT := Lib.hid (fun W => spec_l02GoodG f W hok hl)
  obtain ⟨b, o, rfl, hbl, hc⟩ := h.atS (k := 0) (by simp)
  have hc0 : w.cell? ⟨b, o, none⟩ = some (.string (txt f)) := by simpa using hc
  clear hok hl h hc
  rw [show [txt f].length = 1 from rfl]
  generalize txt f = tf at *
  go_enter Tryz.func238, Tryz.ntmps238
  go_wp2
  go_loopw [3, 4, 5] (fun i a b wr => ∃ j : Nat, j ≤ 1 ∧ i = .int .i64 j ∧ Below w.heap.size w wr) (fun i _ _ _ => 1 - (intOf i).toNat)
  case atStart => exact ⟨0, by omega, rfl, Below.refl _ _⟩
  case round =>
    obtain ⟨j, hj, rfl, hb⟩ := hrel
    have hj : j = 0 ∨ j = 1 := by omega
    have HB := Lib.hid hb
    rcases hj with rfl | rfl
    · have hc1 := (hb.cell (p := ⟨b, o, none⟩) hbl).trans hc0
      have hbl2 : b < wr.heap.size := Nat.lt_of_lt_of_le hbl hb.size
      clear hb
      go_wp2_with fail
      refine (HT.out _).mono ?_
      rintro e w2 ⟨A2, c2, rfl, ho, hb⟩
      have HB2 := Lib.hid (bthen HB.out hb)
      clear hb ho hc1 hbl2
      go_wp2
      go_quiet (fail)
      go_wp2
      go_roundw
      case rel => exact ⟨1, by omega, by go_num, below_drewN HB2.out _⟩
      case measure => simp [intOf]
    · clear hb
      go_wp2
      go_ret
      exact ⟨rfl, HB.out⟩
set_option maxRecDepth 100000 in
theorem spec_l11Is_1 (f g : Fm) (lv rv : Value) (w : World) (hl : Sl cS w lv [txt f]) (hr : Sl cS w rv [txt g]) (hf : f.ok = true) (hg : g.ok = true) (h40 : (enc f).length ≤ 40) (h40' : (enc g).length ≤ 40) :
    Calls Tryz.prog 202 #[.agg #[lv, rv]] w fun e w' => e = .returned (.bool true) ∧ Below w.heap.size w w' := by
  obtain ⟨A0, c0, rfl⟩ := hl.opn
  obtain ⟨A1, c1, rfl⟩ := hr.opn
  have HL := Lib.hid hl
  have HR := Lib.hid hr
  clear hl hr
  have H1 := Lib.hid (fun W h => spec_l11Side_1 f (.slice A0 1 c0) W h hf h40)
  have H2 := Lib.hid (fun W h => spec_l11Side_1 g (.slice A1 1 c1) W h hg h40')
  clear hf hg h40 h40'
  rw [show [txt f].length = 1 from rfl] at HL ⊢
  rw [show [txt g].length = 1 from rfl] at HR ⊢
  go_enter Tryz.func202, Tryz.ntmps202
  go_upto_region 1 with fail
  have hb := below_alloc' w (.cells #[.slice A0 1 c0, .slice A1 1 c1] 41)
  have K1 := Lib.hid (Blk.new w 41 #[.slice A0 1 c0, .slice A1 1 c1])
  have HB := Lib.hid hb
  replace HL := Lib.hid (HL.out.below hb)
  replace HR := Lib.hid (HR.out.below hb)
  clear hb
  generalize World.alloc w _ = w1 at *
  have k0 := K1.out.cell 0
  have k1 := K1.out.cell 1
  have k2 := K1.out.lt
  go_wp2_with fail
  refine (H1.out _ HL.out).mono ?_
  rintro e w2 ⟨rfl, hb⟩
  have HB2 := Lib.hid (bthen HB.out hb)
  have HR2 := Lib.hid (HR.out.below hb)
  have K2 := Lib.hid (K1.out.below hb K1.out.lt)
  clear hb k0 k1 k2
  have k0 := K2.out.cell 0
  have k1 := K2.out.cell 1
  have k2 := K2.out.lt
  go_wp2_with fail
  refine (H2.out _ HR2.out).mono ?_
  rintro e w3 ⟨rfl, hb⟩
  have HB3 := Lib.hid (bthen HB2.out hb)
  clear hb k0 k1 k2
  go_wp2
  go_ret
  exact ⟨rfl, HB3.out⟩
end Go.Proofs.YtgcoohlakcncbaaGreat
