/- Contracts of partitions of posets, of the reference: l21Images, l24Classes, l24Alike, l21Correct. -/
import Derived.Test.YtomojninngdbeaaGreat24C
import Derived.Test.YtomojninngdbeaaGreatQU
import Derived.Test.YtomojninngdbeaaGreatHI
import Derived.Test.YtomojninngdbeaaGreatMG
namespace Go.Proofs.YtomojninngdbeaaGreat
open Go.RowKit
set_option linter.unusedVariables false
set_option linter.unusedSimpArgs false
def akA (us l : List Nat) (x y v : Nat) : Prop := l.getD x 0 = l.getD y 0 → (us.getD v 0).testBit x = (us.getD v 0).testBit y
def coA (ns l : List Nat) (x y : Nat) : Prop := l.getD x 0 = l.getD y 0 → img (pw l) (ns.getD x 0) = img (pw l) (ns.getD y 0)
theorem spec_l21Images (v : Value) (cl : List Nat) (m : Nat) (w : World) (h : Sl cI w v (li cl)) (h8 : cl.length ≤ 8) (hb : ∀ c ∈ cl, c < 8) (hm : m < 2 ^ cl.length) :
    Calls Tryz.prog 26 #[.int .i64 m, v] w fun e w' => e = .returned (.int .i64 (img (pw cl) m : Nat)) ∧ Below w.heap.size w w' := by
  obtain ⟨A, c, rfl⟩ := h.opn
  have HL := Lib.hid (li_length cl)
  rw [HL.out] at h ⊢
  have hm256 := two_pow_256 h8
  have HM := Lib.hid hm
  have EI : Hid (orL (pw cl) (mems m) = img (pw cl) m) := Lib.hid (orL_img (pw cl) m (by rw [pw_length]; exact hm) (by rw [pw_length]; exact h8))
  have HO := Lib.hid (orL_lt (pw_lt hb))
  have HX : Hid (∀ x : Nat, x < cl.length → cl.getD x 0 < 8) := Lib.hid (fun x hx => hb _ (getD_mem hx))
  have HPW : Hid (∀ x : Nat, x < cl.length → (pw cl).getD x 0 = 2 ^ cl.getD x 0) := Lib.hid (fun x hx => pw_getD hx)
  have HS := Lib.hid h
  clear h hb
  go_enter Tryz.func26, Tryz.ntmps26
  go_wp2_with fail
  refine (spec_l01List m _ (by omega)).mono ?_
  rintro e w1 ⟨vm, rfl, ho, hb⟩
  obtain ⟨A2, c2, rfl⟩ := ho.opn
  have hms := ho.sl
  have hml := mems_length m
  have HMM := Lib.hid (fun x (hx : x ∈ mems m) => mems_mem HM.out hx)
  have h1 := HS.out.below hb
  have HB := Lib.hid hb
  clear ho hb hm hm256 HM
  generalize mems m = ms at *
  go_wp2
  go_loop [6, 7] (fun t i => ∃ j : Nat, j ≤ ms.length ∧ i = .int .i64 j ∧ t = .int .i64 (orL (pw cl) (ms.take j) : Nat)) (fun _ i => ms.length - (intOf i).toNat)
  case atStart => exact ⟨0, Nat.zero_le _, rfl, rfl⟩
  case round =>
    obtain ⟨j, hj, rfl, rfl⟩ := hrel
    by_cases hlt : j < ms.length
    · obtain ⟨b, o, rfl, hbl, hc0⟩ := hms.atI hlt
      obtain ⟨x, hxx, hxn⟩ := HMM.out ms[j] (List.getElem_mem hlt)
      have HE : Hid (orL (pw cl) (ms.take (j + 1)) = orL (pw cl) (ms.take j) ||| 2 ^ cl.getD x 0) := Lib.hid (by rw [List.take_succ_eq_append_getElem hlt, orL_snoc, hxx, Int.toNat_natCast, HPW.out x hxn])
      rw [hxx] at hc0
      have hx' : x < (li cl).length := by rw [HL.out]; exact hxn
      obtain ⟨b2, o2, rfl, hbl2, hd0⟩ := h1.atI hx'
      rw [li_get] at hd0
      have hq := HO.out (ms.take j)
      have hy := HX.out x hxn
      clear hxx
      generalize orL (pw cl) (ms.take j) = q at *
      generalize cl.getD x 0 = y at *
      have e2 := i64_or_nat q (2 ^ y) (by omega) (two_pow_lt (by omega))
      rw [← cast_two_pow] at e2
      go_wp2_with fail
      refine (spec_l01One (y : Int) _ (by omega) (by omega)).mono ?_
      rintro e _ ⟨rfl, rfl⟩
      rw [Int.toNat_natCast]
      go_wp2
      exact ⟨⟨j + 1, by omega, by go_num, by rw [HE.out]⟩, by simp [intOf]; omega⟩
    · have HE : Hid (orL (pw cl) (ms.take j) = img (pw cl) m) := Lib.hid (by rw [List.take_of_length_le (by omega), EI.out])
      go_wp2
      go_ret
      exact ⟨by rw [HE.out]; rfl, HB.out⟩
theorem spec_l24Classes (v : Value) (cl : List Nat) (w : World) (h : Sl cI w v (li cl)) (h8 : cl.length ≤ 8) (hb : ∀ c ∈ cl, c < 8) :
    Calls Tryz.prog 25 #[v] w fun e w' => e = .returned (.int .i64 (mx cl cl.length : Nat)) ∧ w = w' := by
  obtain ⟨A, c, rfl⟩ := h.opn
  have HL := Lib.hid (li_length cl)
  rw [HL.out] at h ⊢
  have HX : Hid (∀ x : Nat, x < cl.length → cl.getD x 0 < 8) := Lib.hid (fun x hx => hb _ (getD_mem hx))
  have HM : Hid (∀ j : Nat, j ≤ cl.length → mx cl j ≤ 8) := Lib.hid (fun j hj => mx_le cl 8 j fun i hi => hb _ (getD_mem (by omega)))
  have HS := Lib.hid h
  clear h hb
  go_enter Tryz.func25, Tryz.ntmps25
  go_wp2
  go_loop [3, 4] (fun t i => ∃ j : Nat, j ≤ cl.length ∧ i = .int .i64 j ∧ t = .int .i64 (mx cl j : Nat)) (fun _ i => cl.length - (intOf i).toNat)
  case atStart => exact ⟨0, Nat.zero_le _, rfl, rfl⟩
  case round =>
    obtain ⟨j, hj, rfl, rfl⟩ := hrel
    by_cases hlt : j < cl.length
    · obtain ⟨b, o, rfl, hbl, hc0⟩ := HS.out.atI (k := j) (by rw [HL.out]; exact hlt)
      rw [li_get] at hc0
      have HE : Hid (mx cl (j + 1) = max (mx cl j) (cl.getD j 0 + 1)) := Lib.hid rfl
      have hy := HX.out j hlt
      have hq := HM.out j hj
      generalize mx cl j = q at *
      generalize cl.getD j 0 = y at *
      rcases Nat.le_total q (y + 1) with hz | hz
      all_goals
        go_wp2
        exact ⟨⟨j + 1, by omega, by go_num, by rw [HE.out]; first | (rw [Nat.max_eq_right hz]; done) | (rw [Nat.max_eq_left hz]; done) | go_num⟩, by simp [intOf]; omega⟩
    · obtain rfl : j = cl.length := by omega
      go_wp2
      go_ret
      exact ⟨rfl, rfl⟩
set_option maxHeartbeats 1000000 in
set_option maxRecDepth 100000 in
theorem spec_l24Alike (v u : Value) (l us : List Nat) (w : World) (h : Sl cI w v (li l)) (h' : Sl cI w u (li us)) (h6 : us.length = 6) (h8 : l.length ≤ 8) (hl : ∀ c ∈ l, c < 8) (hu : ∀ m ∈ us, m < 256) :
    Calls Tryz.prog 24 #[v, u] w fun e w' => e = .returned (.bool (alk us l)) ∧ Below w.heap.size w w' := by
  obtain ⟨A0, c0, rfl⟩ := h.opn
  obtain ⟨A1, c1, rfl⟩ := h'.opn
  have HL := Lib.hid (li_length l)
  have HV := Lib.hid (show (li us).length = 6 by rw [li_length, h6])
  rw [HL.out] at h ⊢
  rw [HV.out] at h' ⊢
  have HA := Lib.hid h
  have HX := Lib.hid h'
  have HU : Hid (∀ i, us.getD i 0 < 256) := Lib.hid (fun i => getD_lt (k := 8) (fun m hm => hu m hm) i)
  have HC : Hid (∀ x : Nat, x < l.length → l.getD x 0 < 8) := Lib.hid (fun x hx => hl _ (getD_mem hx))
  have ET : Hid ((∀ x < l.length, ∀ y < x, ∀ v < 6, akA us l x y v) → alk us l = true) := Lib.hid (fun hh => by
    unfold alk
    exact decide_eq_true fun x hx y hy v hv he => hh x hx y hy v (by omega) he)
  have EF : Hid (∀ x y v, x < l.length → y < x → v < 6 → ¬ akA us l x y v → alk us l = false) := Lib.hid (fun x y v hx hy hv hn => by
    unfold alk
    exact decide_eq_false fun hh => hn fun he => hh x hx y hy v (by omega) he)
  clear h h' h6 hl hu
  go_enter Tryz.func24, Tryz.ntmps24
  go_wp2
  go_loopw [5] (fun i wr => ∃ x : Nat, x ≤ l.length ∧ i = .int .i64 x ∧ (∀ x' < x, ∀ y < x', ∀ v < 6, akA us l x' y v) ∧ Below w.heap.size w wr) (fun i _ => l.length - (intOf i).toNat)
  case atStart => exact ⟨0, Nat.zero_le _, rfl, fun i hi => by omega, Below.refl _ _⟩
  case round =>
    obtain ⟨x, hx, rfl, hh, hb⟩ := hrel
    have HH := Lib.hid hh
    have HB := Lib.hid hb
    clear hh hb
    by_cases hlt : x < l.length
    · go_wp2
      go_loopw [6] (fun i wr => ∃ y : Nat, y ≤ x ∧ i = .int .i64 y ∧ (∀ y' < y, ∀ v < 6, akA us l x y' v) ∧ Below w.heap.size w wr) (fun i _ => x - (intOf i).toNat)
      case atStart => exact ⟨0, Nat.zero_le _, rfl, fun i hi => by omega, HB.out⟩
      case round =>
        obtain ⟨y, hy, rfl, hh2, hb2⟩ := hrel
        have HH2 := Lib.hid hh2
        have HB2 := Lib.hid hb2
        clear hh2 hb2
        by_cases hlt2 : y < x
        · go_wp2
          go_loopw [7] (fun i wr => ∃ v : Nat, v ≤ 6 ∧ i = .int .i64 v ∧ (∀ v' < v, akA us l x y v') ∧ Below w.heap.size w wr) (fun i _ => 6 - (intOf i).toNat)
          case atStart => exact ⟨0, Nat.zero_le _, rfl, fun i hi => by omega, HB2.out⟩
          case round =>
            obtain ⟨v, hv, rfl, hh3, hb3⟩ := hrel
            have HH3 := Lib.hid hh3
            have HB3 := Lib.hid hb3
            by_cases hlt3 : v < 6
            · obtain ⟨b, o, rfl, hbl, hcx⟩ := (HA.out.below hb3).atI (k := x) (by rw [HL.out]; exact hlt)
              obtain ⟨b', o', hE', hbl', hcy⟩ := (HA.out.below hb3).atI (k := y) (by rw [HL.out]; omega)
              injection hE' with hE'
              injection hE' with hE1 hE2
              subst hE1; subst hE2
              obtain ⟨b5, o5, rfl, hbl5, hc5⟩ := (HX.out.below hb3).atI (k := v) (by rw [HV.out]; exact hlt3)
              rw [li_get] at hcx hcy hc5
              have hm := HU.out v
              have hx8 := HC.out x hlt
              have hy8 := HC.out y (by omega)
              have HN : Hid (akA us l x y v → ∀ v' < v + 1, akA us l x y v') := Lib.hid (fun hz v' hv' => (Nat.lt_or_ge v' v).elim (fun h => HH3.out v' h) (fun h => (show v' = v by omega) ▸ hz))
              have HF := Lib.hid (EF.out x y v hlt hlt2 hlt3)
              have i1 : (v : Int) < 6 := by omega
              by_cases he : l.getD x 0 = l.getD y 0
              · have HQ1 := Lib.hid (fun W n => q_l01Bit (m := us.getD v 0) (i := x) (by omega) (by omega) W n)
                have HQ2 := Lib.hid (fun W n => q_l01Bit (m := us.getD v 0) (i := y) (by omega) (by omega) W n)
                have hak : akA us l x y v ↔ (us.getD v 0).testBit x = (us.getD v 0).testBit y := ⟨fun h => h he, fun h _ => h⟩
                rw [hak] at HN HF
                clear hak
                generalize (us.getD v 0).testBit x = e1 at *
                generalize (us.getD v 0).testBit y = e2 at *
                generalize us.getD v 0 = m at *
                rw [he] at hcx
                clear he hx8 hh3 hb3
                generalize l.getD y 0 = q at *
                cases e1 <;> cases e2
                all_goals
                  go_wp2
                  go_quiet ((go_at_call 51; first | with_reducible exact HQ1.out _ _ | with_reducible exact HQ2.out _ _))
                  go_wp2
                  first | exact ⟨⟨v + 1, by omega, by go_num, HN.out (by simp), below_drewN HB3.out _⟩, by simp [intOf]; omega⟩ | (go_ret; exact ⟨by rw [HF.out (by simp)]; rfl, below_drewN HB3.out _⟩)
              · replace HN := Lib.hid (HN.out fun h => absurd h he)
                generalize l.getD x 0 = p at *
                generalize l.getD y 0 = q at *
                generalize us.getD v 0 = m at *
                have hq1 : ((p : Int) == (q : Int)) = false := beq_eq_false_iff_ne.2 (by omega)
                have hq2 : ((p : Int) != (q : Int)) = true := bne_iff_ne.2 (by omega)
                clear he hh3 hb3 HF
                go_wp2
                go_quiet (fail)
                go_wp2
                exact ⟨⟨v + 1, by omega, by go_num, HN.out, below_drewN HB3.out _⟩, by simp [intOf]; omega⟩
            · obtain rfl : v = 6 := by omega
              clear hh3 hb3
              have HN : Hid (∀ y' < y + 1, ∀ v < 6, akA us l x y' v) := Lib.hid (fun y' hy' => (Nat.lt_or_ge y' y).elim (fun h => HH2.out y' h) (fun h => (show y' = y by omega) ▸ HH3.out))
              go_wp2
              exact ⟨⟨y + 1, by omega, by go_num, HN.out, HB3.out⟩, by simp [intOf]; omega⟩
        · obtain rfl : y = x := by omega
          have HN : Hid (∀ x' < y + 1, ∀ y' < x', ∀ v < 6, akA us l x' y' v) := Lib.hid (fun x' hx' => (Nat.lt_or_ge x' y).elim (fun h => HH.out x' h) (fun h => (show x' = y by omega) ▸ HH2.out))
          go_wp2
          exact ⟨⟨y + 1, by omega, by go_num, HN.out, HB2.out⟩, by simp [intOf]; omega⟩
    · obtain rfl : x = l.length := by omega
      have E := Lib.hid (ET.out HH.out)
      go_wp2
      go_ret
      exact ⟨by rw [E.out]; rfl, HB.out⟩
set_option maxHeartbeats 1000000 in
set_option maxRecDepth 100000 in
theorem spec_l21Correct (n : Int) (v u : Value) (ns l : List Nat) (w : World) (h : Sl cI w v (li ns)) (h' : Sl cI w u (li l)) (hr : RelN ns) (hl : l.length = ns.length) (hc : ∀ c ∈ l, c < 8) :
    Calls Tryz.prog 50 #[.agg #[.int .i64 n, v], u] w fun e w' => e = .returned (.bool (cor ns l)) ∧ Below w.heap.size w w' := by
  obtain ⟨A0, c0, rfl⟩ := h.opn
  obtain ⟨A1, c1, rfl⟩ := h'.opn
  have h8 := hr.1
  have HL := Lib.hid (li_length ns)
  have HV := Lib.hid (show (li l).length = ns.length by rw [li_length, hl])
  rw [HL.out] at h ⊢
  rw [HV.out] at h' ⊢
  have A := Lib.hid (Below.refl w.heap.size w)
  have HX := Lib.hid h
  have HC := Lib.hid h'
  have H8 : Hid (∀ x : Nat, x < ns.length → l.getD x 0 < 8) := Lib.hid (fun x hx => hc _ (getD_mem (by omega)))
  have HG : Hid (∀ x : Nat, x < ns.length → ns.getD x 0 < 256) := Lib.hid (fun x hx => Nat.lt_of_lt_of_le (getD_lt hr.2 x) (two_pow_256 h8))
  have HI := Lib.hid (fun (x : Nat) W (hW : Sl cI W (.slice A1 ns.length c1) (li l)) => spec_l21Images _ l (ns.getD x 0) W hW (by omega) hc (by rw [hl]; exact getD_lt hr.2 x))
  have ET : Hid ((∀ x < ns.length, ∀ y < ns.length, coA ns l x y) → cor ns l = true) := Lib.hid (fun hh => by
    unfold cor
    exact decide_eq_true fun x hx y hy he => hh x (by omega) y (by omega) he)
  have EF : Hid (∀ x y, x < ns.length → y < ns.length → ¬ coA ns l x y → cor ns l = false) := Lib.hid (fun x y hx hy hn => by
    unfold cor
    exact decide_eq_false fun hh => hn fun he => hh x (by omega) y (by omega) he)
  clear h h' hr hc hl
  go_enter Tryz.func50, Tryz.ntmps50
  go_upto_region 1 with fail
  have hb := below_alloc' w (.cells #[.int .i64 n, .slice A0 ns.length c0] 26)
  have T1 := Lib.hid (Bk.new w #[.int .i64 n, .slice A0 ns.length c0] 26)
  replace HX := Lib.hid (HX.out.below hb)
  replace HC := Lib.hid (HC.out.below hb)
  replace A := Lib.hid (bthen A.out hb)
  clear hb
  generalize World.alloc w _ = w1 at *
  go_wp2
  go_loopw [5] (fun i wr => ∃ x : Nat, x ≤ ns.length ∧ i = .int .i64 x ∧ (∀ x' < x, ∀ y < ns.length, coA ns l x' y) ∧ Below w1.heap.size w1 wr) (fun i _ => ns.length - (intOf i).toNat)
  case atStart => exact ⟨0, Nat.zero_le _, rfl, fun i hi => by omega, Below.refl _ _⟩
  case round =>
    obtain ⟨x, hx, rfl, hh, hb⟩ := hrel
    have HH := Lib.hid hh
    have HB := Lib.hid hb
    clear hh hb
    by_cases hlt : x < ns.length
    · go_wp2
      go_loopw [6] (fun i wr => ∃ y : Nat, y ≤ ns.length ∧ i = .int .i64 y ∧ (∀ y' < y, coA ns l x y') ∧ Below w1.heap.size w1 wr) (fun i _ => ns.length - (intOf i).toNat)
      case atStart => exact ⟨0, Nat.zero_le _, rfl, fun i hi => by omega, HB.out⟩
      case round =>
        obtain ⟨y, hy, rfl, hh2, hb2⟩ := hrel
        have HH2 := Lib.hid hh2
        have HB2 := Lib.hid hb2
        clear hh2
        by_cases hlt2 : y < ns.length
        · obtain ⟨b, o, rfl, hbl, hcx⟩ := HC.out.atI (k := x) (by rw [HV.out]; exact hlt)
          obtain ⟨b', o', hE', hbl', hcy⟩ := HC.out.atI (k := y) (by rw [HV.out]; exact hlt2)
          injection hE' with hE'
          injection hE' with hE1 hE2
          subst hE1; subst hE2
          obtain ⟨d, q, rfl, hdl, hdx⟩ := HX.out.atI (k := x) (by rw [HL.out]; exact hlt)
          obtain ⟨d', q', hE', hdl', hdy⟩ := HX.out.atI (k := y) (by rw [HL.out]; exact hlt2)
          injection hE' with hE'
          injection hE' with hE1 hE2
          subst hE1; subst hE2
          rw [li_get] at hcx hcy hdx hdy
          have hx8 := H8.out x hlt
          have hy8 := H8.out y hlt2
          have hgx := HG.out x hlt
          have hgy := HG.out y hlt2
          have t1s : w.heap.size < w1.heap.size := T1.out.1
          have t1 := T1.out.2 1
          have HN : Hid (coA ns l x y → ∀ y' < y + 1, coA ns l x y') := Lib.hid (fun hz y' hv' => (Nat.lt_or_ge y' y).elim (fun h => HH2.out y' h) (fun h => (show y' = y by omega) ▸ hz))
          have HF := Lib.hid (EF.out x y hlt hlt2)
          by_cases he : l.getD x 0 = l.getD y 0
          · have HI1 := Lib.hid (HI.out x)
            have HI2 := Lib.hid (HI.out y)
            have hak : coA ns l x y ↔ img (pw l) (ns.getD x 0) = img (pw l) (ns.getD y 0) := ⟨fun h => h he, fun h _ => h⟩
            rw [hak] at HN HF
            clear hak
            rw [he] at hcx
            clear he hx8
            generalize img (pw l) (ns.getD x 0) = r1 at *
            generalize img (pw l) (ns.getD y 0) = r2 at *
            generalize ns.getD x 0 = m1 at *
            generalize ns.getD y 0 = m2 at *
            generalize l.getD y 0 = c at *
            have EQ2 := Lib.hid (neI r1 r2)
            go_upto_region 7 with fail
            have hI := hb2.drew
            refine wp_region_sched (Below w1.heap.size w1) 26 [0, 1, 2, 3, 4, 5, 6, 7, 8, 9, 10, 11, 12, 13, 14, 15, 17, 18, 19, 20, 21, 22, 24, 25] [0, 1, 2, 3, 4, 5, 6, 7, 8, 9, 10, 11, 12, 13, 14, 15, 17, 18, 19, 20, 21, 22, 16, 23, 24, 25] (by kernel_rfl) (by kernel_rfl) hI ?_
            repeat
              apply wpSched_q rfl rfl
              case h =>
                intro w' hI K hK
                have hcx' := (hI.cell (p := ⟨b, o + x, none⟩) hbl).trans hcx
                have hcy' := (hI.cell (p := ⟨b, o + y, none⟩) hbl).trans hcy
                have t1' := (hI.cell (p := ⟨w.heap.size, 1, none⟩) t1s).trans t1
                have hdx' := (hI.cell (p := ⟨d, q + x, none⟩) hdl).trans hdx
                have hdy' := (hI.cell (p := ⟨d, q + y, none⟩) hdl).trans hdy
                simp only [quietV, stillV]
                go_simp
                exact hK
              go_simp
            refine wpSched_r rfl rfl ?_ hI
            intro K hK _
            go_simp
            refine (HI1.out _ (HC.out.below hI)).mono ?_
            rintro e w90 ⟨rfl, hbb⟩
            replace hI := hI.trans (hbb.mono hI.size)
            refine hK _ _ hI ?_
            clear hK K hbb
            refine wpSched_r rfl rfl ?_ hI
            intro K hK _
            go_simp
            refine (HI2.out _ (HC.out.below hI)).mono ?_
            rintro e w91 ⟨rfl, hbb⟩
            replace hI := hI.trans (hbb.mono hI.size)
            refine hK _ _ hI ?_
            clear hK K hbb
            repeat
              apply wpSched_q rfl rfl
              case h =>
                intro w' hI K hK
                have hcx' := (hI.cell (p := ⟨b, o + x, none⟩) hbl).trans hcx
                simp only [quietV, stillV]
                go_simp
                exact hK
              go_simp
            refine wpSched_nil ?_
            try simp only [List.drop_succ_cons, List.drop_zero, List.drop_nil]
            clear HB2 hb2
            have HB2 := Lib.hid hI
            clear hI hcx hcy hdx hdy t1 t1s
            rw [EQ2.out]
            by_cases hd : r1 = r2
            · rw [decide_eq_true hd]
              replace HN := Lib.hid (HN.out hd)
              go_wp2
              exact ⟨⟨y + 1, by omega, by go_num, HN.out, HB2.out⟩, by simp [intOf]; omega⟩
            · rw [decide_eq_false hd]
              replace HF := Lib.hid (HF.out hd)
              go_wp2
              go_ret
              exact ⟨by rw [HF.out]; rfl, A.out.trans (HB2.out.mono A.out.size)⟩
          · replace HN := Lib.hid (HN.out fun h => absurd h he)
            have T1w := (T1.out.below hb2)
            have hcx := (hb2.cell (p := ⟨b, o + x, none⟩) hbl).trans hcx
            have hcy := (hb2.cell (p := ⟨b, o + y, none⟩) hbl).trans hcy
            generalize l.getD x 0 = p at *
            generalize l.getD y 0 = q at *
            have hq1 : ((p : Int) == (q : Int)) = false := beq_eq_false_iff_ne.2 (by omega)
            have hq2 : ((p : Int) != (q : Int)) = true := bne_iff_ne.2 (by omega)
            clear he hb2 HF T1w t1 t1s
            go_wp2
            go_quiet (fail)
            go_wp2
            exact ⟨⟨y + 1, by omega, by go_num, HN.out, below_drewN HB2.out _⟩, by simp [intOf]; omega⟩
        · obtain rfl : y = ns.length := by omega
          have HN : Hid (∀ x' < x + 1, ∀ y' < ns.length, coA ns l x' y') := Lib.hid (fun x' hx' => (Nat.lt_or_ge x' x).elim (fun h => HH.out x' h) (fun h => (show x' = x by omega) ▸ HH2.out))
          clear hb2
          go_wp2
          exact ⟨⟨x + 1, by omega, by go_num, HN.out, HB2.out⟩, by simp [intOf]; omega⟩
    · obtain rfl : x = ns.length := by omega
      have E := Lib.hid (ET.out HH.out)
      go_wp2
      go_ret
      exact ⟨by rw [E.out]; rfl, A.out.trans (HB.out.mono A.out.size)⟩
end Go.Proofs.YtomojninngdbeaaGreat
