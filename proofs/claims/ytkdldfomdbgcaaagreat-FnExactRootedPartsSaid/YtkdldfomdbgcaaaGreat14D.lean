/- The symmetric flag of a frame, of the program and of the reference. Written by gen14D.py. -/
import Derived.Test.YtkdldfomdbgcaaaGreatFD
import Derived.Test.YtkdldfomdbgcaaaGreatSA
namespace Go.Proofs.YtkdldfomdbgcaaaGreat
open Go.RowKit
set_option linter.unusedVariables false
set_option linter.unusedSimpArgs false
/-- the inverse of a relation -/
def inv (ns : List Nat) : List Nat := lnk ns.length ns.length fun x y => (ns.getD y 0).testBit x
def sym (ns : List Nat) : Bool := decide (inv ns = ns)
theorem inv_length (ns : List Nat) : (inv ns).length = ns.length := lnk_length _ _ _
theorem inv_bit (ns : List Nat) {x : Nat} (hx : x < ns.length) (y : Nat) : ((inv ns).getD x 0).testBit y = (decide (y < ns.length) && (ns.getD y 0).testBit x) := by
  unfold inv
  rw [lnk_getD _ hx, msk_testBit]
theorem sym_iff (ns : List Nat) (h : RelN ns) : sym ns = true ↔ ∀ x, x < ns.length → ∀ y, y < ns.length → (ns.getD x 0).testBit y = true → (ns.getD y 0).testBit x = true := by
  unfold sym
  rw [decide_eq_true_eq]
  constructor
  · intro he x hx y hy hb
    have := inv_bit ns hx y
    rw [he, hb, decide_eq_true hy, Bool.true_and] at this
    exact this.symm
  · intro hs
    apply List.ext_getElem (inv_length ns)
    intro i h1 h2
    have e1 : (inv ns)[i] = (inv ns).getD i 0 := by rw [List.getD_eq_getElem?_getD, List.getElem?_eq_getElem h1]; rfl
    have e2 : ns[i] = ns.getD i 0 := by rw [List.getD_eq_getElem?_getD, List.getElem?_eq_getElem h2]; rfl
    rw [e1, e2]
    apply Nat.eq_of_testBit_eq
    intro y
    rw [inv_bit ns h2]
    by_cases hy : y < ns.length
    · rw [decide_eq_true hy, Bool.true_and, Bool.eq_iff_iff]
      exact ⟨fun hb => hs y hy i h2 hb, fun hb => hs i h2 y hy hb⟩
    · rw [decide_eq_false hy, Bool.false_and]
      have := Nat.testBit_lt_two_pow (i := y) (Nat.lt_of_lt_of_le (getD_lt h.2 i) (Nat.pow_le_pow_right (n := 2) (by decide) (show ns.length ≤ y by omega)))
      exact this.symm
/-- the inverse, so far: the first k rows are done, of row k what Q tells -/
def IV (ns : List Nat) (k : Nat) (Q : Nat → Prop) (os : List Nat) : Prop :=
  os.length = ns.length ∧ (∀ x ∈ os, x < 2 ^ ns.length) ∧ ∀ x y, x < ns.length → ((os.getD x 0).testBit y = true ↔ (y < k ∧ (ns.getD y 0).testBit x = true) ∨ (y = k ∧ Q x))
theorem IV.zero (ns : List Nat) : IV ns 0 (fun _ => False) (List.replicate ns.length 0) := by
  refine ⟨by simp, fun x hx => by rw [List.mem_replicate] at hx; rw [hx.2]; exact Nat.pow_pos (by decide), fun x y hx => ?_⟩
  rw [List.getD_eq_getElem?_getD, List.getElem?_replicate, if_pos hx]
  simp
theorem IV.step {ns : List Nat} {k : Nat} {Q : Nat → Prop} {os : List Nat} (h : IV ns k Q os) (hk : k < ns.length) {x : Nat} (hx : x < ns.length) {Q' : Nat → Prop} (hQ : ∀ z, Q' z ↔ Q z ∨ z = x) : IV ns k Q' (os.set x (os.getD x 0 ||| 2 ^ k)) := by
  obtain ⟨h1, h2, h3⟩ := h
  refine ⟨by rw [List.length_set, h1], set_lt h2 x _ (Nat.or_lt_two_pow (getD_lt h2 x) (Nat.pow_lt_pow_right (by decide) hk)), fun z y hz => ?_⟩
  rw [getD_set]
  by_cases hzx : x = z
  · subst hzx
    rw [if_pos ⟨rfl, by omega⟩, Nat.testBit_or, Nat.testBit_two_pow, Bool.or_eq_true, h3 x y hz, hQ, decide_eq_true_eq]
    constructor
    · rintro ((h | ⟨h, q⟩) | h)
      · exact .inl h
      · exact .inr ⟨h, .inl q⟩
      · exact .inr ⟨h.symm, .inr rfl⟩
    · rintro (h | ⟨h, q | -⟩)
      · exact .inl (.inl h)
      · exact .inl (.inr ⟨h, q⟩)
      · exact .inr h.symm
  · rw [if_neg (fun hh => hzx hh.1), h3 z y hz, hQ]
    have hzx' : ¬ z = x := fun e => hzx e.symm
    simp [hzx']
theorem IV.next {ns : List Nat} {k : Nat} {Q : Nat → Prop} {os : List Nat} (h : IV ns k Q os) (hQ : ∀ x, x < ns.length → (Q x ↔ (ns.getD k 0).testBit x = true)) : IV ns (k + 1) (fun _ => False) os := by
  obtain ⟨h1, h2, h3⟩ := h
  refine ⟨h1, h2, fun x y hx => ?_⟩
  rw [h3 x y hx, hQ x hx]
  constructor
  · rintro (⟨h, b⟩ | ⟨rfl, b⟩)
    · exact .inl ⟨by omega, b⟩
    · exact .inl ⟨by omega, b⟩
  · rintro (⟨h, b⟩ | ⟨-, hf⟩)
    · rcases Nat.lt_or_ge y k with h' | h'
      · exact .inl ⟨h', b⟩
      · obtain rfl : y = k := by omega
        exact .inr ⟨rfl, b⟩
    · exact hf.elim
theorem IV.done {ns os : List Nat} (h : IV ns ns.length (fun _ => False) os) : os = inv ns := by
  obtain ⟨h1, h2, h3⟩ := h
  apply List.ext_getElem (by rw [h1, inv_length])
  intro i hi1 hi2
  have hin : i < ns.length := by omega
  have e1 : os[i] = os.getD i 0 := by rw [List.getD_eq_getElem?_getD, List.getElem?_eq_getElem hi1]; rfl
  have e2 : (inv ns)[i] = (inv ns).getD i 0 := by rw [List.getD_eq_getElem?_getD, List.getElem?_eq_getElem hi2]; rfl
  rw [e1, e2]
  apply Nat.eq_of_testBit_eq
  intro y
  rw [inv_bit ns hin, Bool.eq_iff_iff, h3 i y hin, Bool.and_eq_true, decide_eq_true_eq]
  simp
theorem mems_bit {m x : Nat} (hx : x < 64) : (x : Int) ∈ mems m ↔ m.testBit x = true := by
  rw [mems_iff]
  constructor
  · rintro ⟨i, -, hb, e⟩
    have : i = x := by omega
    rw [← this]; exact hb
  · intro hb; exact ⟨x, hx, hb, rfl⟩
set_option maxRecDepth 100000 in
theorem impl_inverse_in (v : Value) (ns : List Nat) (w : World) (h : Sl cI w v (li ns)) (hr : RelN ns) :
    Calls Tryz.prog 146 #[v] w fun e w' => ∃ u, e = .returned u ∧ Ow cI 2 w.heap.size w' u (li (inv ns)) ∧ Below w.heap.size w w' := by
  obtain ⟨A, c, rfl⟩ := h.opn
  have HN := Lib.hid hr
  have h8 := hr.1
  have EL := Lib.hid (li_length ns)
  rw [EL.out] at h ⊢
  have H0 := Lib.hid h
  clear h hr
  go_enter Tryz.func146, Tryz.ntmps146
  go_wp2_with (at_make; refine stopHere ?_)
  refine goHere ?_
  refine mk_full (K := cI) w ty_int64 rfl _ _ rfl w.heap.size ns.length 0 rfl rfl rfl (by omega) (Nat.le_refl _) ?_
  intro w1 ho hg hb hz
  have EZ : List.replicate ns.length (0 : Int) = li (List.replicate ns.length 0) := by unfold li; rw [List.map_replicate]; rfl
  rw [EZ] at ho
  have HO := Lib.hid ho
  have HB := Lib.hid hb
  clear ho hb hg hz EZ
  go_wp2
  go_loopw [13] (fun k wr => ∃ j : Nat, j ≤ ns.length ∧ k = .int .i64 j ∧ (∃ os : List Nat, IV ns j (fun _ => False) os ∧ Ow cI 2 w.heap.size wr (.slice (some ⟨w.heap.size, 0, none⟩) ns.length ns.length) (li os)) ∧ Below w.heap.size w wr) (fun k _ => ns.length - (intOf k).toNat)
  case atStart => exact ⟨0, Nat.zero_le _, rfl, ⟨_, IV.zero ns, HO.out⟩, HB.out⟩
  case round =>
    obtain ⟨k, hk, rfl, ⟨os, hiv, ho⟩, hb⟩ := hrel
    have hol := hiv.1
    have hlt := hiv.2.1
    have HIV := Lib.hid hiv
    clear hiv
    by_cases hkl : k < ns.length
    · have hk' : k < (li ns).length := by rw [EL.out]; exact hkl
      obtain ⟨b, o, rfl, hbl, hc0⟩ := (H0.out.below hb).atI hk'
      rw [li_get] at hc0
      have HX := Lib.hid (getD_lt HN.out.2 k)
      have hx := Nat.lt_of_lt_of_le HX.out (two_pow_256 h8)
      have HOr := Lib.hid ho
      have HBr := Lib.hid hb
      have HL := Lib.hid hol
      have HT := Lib.hid hlt
      have HNK : Hid (∀ x, x < ns.length → (((x : Int) ∈ mems (ns.getD k 0)) ↔ (ns.getD k 0).testBit x = true)) := Lib.hid (fun x hx => mems_bit (by omega))
      have HNX := Lib.hid (fun (Q : Nat → Prop) ps (h : IV ns k Q ps) hQ => IV.next h hQ)
      generalize ns.getD k 0 = m at *
      clear ho hb hol hlt HO HB
      go_wp2_with fail
      refine (impl_membersOf m _ (by omega)).mono ?_
      rintro e w3 ⟨vm, rfl, hom, hbm⟩
      obtain ⟨A2, c2, rfl⟩ := hom.opn
      have hsz1 : w.heap.size + 1 ≤ _ := (HOr.out.at1 rfl (j := k) (by rw [li_length, HL.out]; omega) rfl).2.2.2
      have HM := Lib.hid (hom.mono hsz1)
      clear hsz1
      have HB3 := Lib.hid (bthen HBr.out hbm)
      have HO3 := Lib.hid (HOr.out.below hbm)
      have hml := mems_length m
      clear hom hbm hc0
      generalize hmm : mems m = ms at *
      have HMM := Lib.hid hmm
      clear hmm
      go_wp2
      go_loopw [21] (fun i wq => ∃ j : Nat, j ≤ ms.length ∧ i = .int .i64 j ∧ Ow cI 2 (w.heap.size + 1) wq (.slice A2 ms.length c2) ms ∧ (∃ os : List Nat, IV ns k (fun x => (x : Int) ∈ ms.take j) os ∧ Ow cI 2 w.heap.size wq (.slice (some ⟨w.heap.size, 0, none⟩) ns.length ns.length) (li os)) ∧ Below w.heap.size w wq) (fun i _ => ms.length - (intOf i).toNat)
      case atStart => exact ⟨0, Nat.zero_le _, rfl, HM.out, ⟨os, by have := HIV.out; simpa using this, HO3.out⟩, HB3.out⟩
      case round =>
        obtain ⟨i, hi, rfl, hs, ⟨ps, hiv2, hp⟩, hb⟩ := hrel
        have hpl := hiv2.1
        have hpt := hiv2.2.1
        have HIV2 := Lib.hid hiv2
        clear hiv2
        clear HM HO3 HB3
        by_cases hil : i < ms.length
        · obtain ⟨b2, o2, rfl, hbl2, hd0⟩ := hs.sl.atI hil
          obtain ⟨x, hxx, hxn⟩ := mems_mem (n := ns.length) HX.out (x := ms[i]) (by rw [HMM.out]; exact List.getElem_mem hil)
          have HIV3 := Lib.hid (HIV2.out.step hkl hxn (Q' := fun z => (z : Int) ∈ ms.take (i + 1)) (fun z => by
            rw [List.take_succ_eq_append_getElem hil, List.mem_append, List.mem_singleton, hxx]
            constructor
            · rintro (h | h)
              · exact .inl h
              · exact .inr (by omega)
            · rintro (h | h)
              · exact .inl h
              · exact .inr (by omega)))
          rw [hxx] at hd0
          clear hxx
          obtain ⟨cj, -, -, -⟩ := hp.at1 rfl (j := x) (by rw [li_length, hpl]; omega) rfl
          have hod := hp.below (Below.refl _ _).drew
          obtain ⟨cj4, fj, -, -⟩ := hod.at1 rfl (j := x) (by rw [li_length, hpl]; omega) rfl
          rw [li_get] at cj cj4
          have hset := Lib.hid ((hod.set1 (j := x) (x := ((ps.getD x 0 ||| 2 ^ k : Nat) : Int)) (u := .int .i64 (ps.getD x 0 ||| 2 ^ k : Nat)) rfl rfl (by rw [li_length, hpl]; omega)))
          rw [li_set] at hset
          have hsl := hs.below ((Below.refl wr.heap.size wr).drew)
          have hne : w.heap.size ≤ w.heap.size := Nat.le_refl _
          have hbs := Lib.hid ((hb.drew).setCell (p := ⟨w.heap.size, x, none⟩) hne (.int .i64 (ps.getD x 0 ||| 2 ^ k : Nat)))
          have HSS := Lib.hid (hsl.setBelow (p := ⟨w.heap.size, x, none⟩) (by show w.heap.size < w.heap.size + 1; omega) (.int .i64 (ps.getD x 0 ||| 2 ^ k : Nat)))
          have HPT := Lib.hid (set_lt hpt x (ps.getD x 0 ||| 2 ^ k) (Nat.or_lt_two_pow (getD_lt hpt x) (Nat.pow_lt_pow_right (by decide) hkl)))
          have HPL : Hid ((ps.set x (ps.getD x 0 ||| 2 ^ k)).length = ns.length) := Lib.hid (by rw [List.length_set, hpl])
          have hy := Nat.lt_of_lt_of_le (getD_lt hpt x) (two_pow_256 h8)
          clear hp hod hs hsl hpt hb hpl
          generalize ps.getD x 0 = y at *
          have e2 := i64_or_nat y (2 ^ k) (by omega) (two_pow_lt (by omega))
          have e3 := wrap_two_pow'' (n := k) (by omega)
          rw [← cast_two_pow] at e2
          go_wp2
          go_still_tail 8, (by kernel_rfl)
          change wpList _ _ _ _ _ (World.drew _)
          clear cj hd0 hbl2
          generalize World.drew _ = w4 at *
          go_wp2
          go_roundw
          case rel => exact ⟨i + 1, by omega, by go_num, HSS.out, ⟨_, HIV3.out, hset.out⟩, hbs.out⟩
          case measure => simp [intOf]; omega
        · obtain rfl : i = ms.length := by omega
          have HPP : Hid (∃ os : List Nat, IV ns (k + 1) (fun _ => False) os ∧ Ow cI 2 w.heap.size wr (.slice (some ⟨w.heap.size, 0, none⟩) ns.length ns.length) (li os)) := Lib.hid ⟨ps, HNX.out _ ps HIV2.out (fun x hx => by rw [List.take_length]; exact HNK.out x hx), hp⟩
          have HBB := Lib.hid hb
          clear hp hb hs hpt
          go_wp2
          go_roundw
          case rel => exact ⟨k + 1, by omega, by go_num, HPP.out, HBB.out⟩
          case measure => simp [intOf]; omega
    · obtain rfl : k = ns.length := by omega
      have HE : Hid (os = inv ns) := Lib.hid (HIV.out.done)
      rw [HE.out] at ho
      have HO2 := Lib.hid ho
      clear ho
      go_wp2
      go_ret
      exact ⟨_, rfl, HO2.out, hb⟩
set_option maxRecDepth 100000 in
theorem impl_hasFlag_3 (ns : List Nat) (v : Value) (w : World) (h : Sl cI w v (li ns)) (hr : RelN ns) :
    Calls Tryz.prog 118 #[.agg #[.int .i64 ns.length, v], .int .i64 3] w fun e w' => e = .returned (.bool (sym ns)) ∧ Below w.heap.size w w' := by
  obtain ⟨A, c, rfl⟩ := h.opn
  have h8 := hr.1
  have EL := Lib.hid (li_length ns)
  rw [EL.out] at h ⊢
  have hb0 := below_alloc' w (.cells #[.int .i64 ns.length, .slice A ns.length c] 68)
  have hk0 := Blk.new w 68 #[.int .i64 ns.length, .slice A ns.length c]
  have hkl := hk0.lt
  have HK := Lib.hid hk0
  have HS := Lib.hid (h.below hb0)
  have HB := Lib.hid hb0
  have HN := Lib.hid hr
  have EC : Hid ((inv ns).length = ns.length) := Lib.hid (inv_length ns)
  have HE := Lib.hid (fun W vB (hW : Sl cI W vB (li (inv ns))) (hW2 : Sl cI W (.slice A ns.length c) (li ns)) => slices_Equal_int64 _ _ _ _ W hW hW2 (by rw [li_length, EC.out]; omega) (by rw [li_length, li_length, EC.out]))
  have ET : Hid (sym ns = decide (li (inv ns) = li ns)) := Lib.hid (by rw [li_eq_iff]; rfl)
  clear h hb0 hk0 hr
  go_enter Tryz.func118, Tryz.ntmps118
  go_wp2_with fail
  refine (impl_inverse_in _ ns _ HS.out HN.out).mono ?_
  rintro e w1 ⟨u1, rfl, ho, hb⟩
  obtain ⟨A1, c1, rfl⟩ := ho.opn
  have HS1 := Lib.hid (HS.out.below hb)
  have HK1 := Lib.hid (HK.out.below hb hkl)
  have HB1 := Lib.hid (HB.out.trans (hb.mono HB.out.size))
  have HO1 := Lib.hid ho.sl
  clear hb ho
  go_upto_region 10 with fail
  generalize hLL : (li (inv ns)).length = LL at *
  have HLL := Lib.hid hLL
  clear hLL
  have hb2 := below_alloc' w1 (.cells #[.slice A1 LL c1] 22)
  have HS2 := Lib.hid (HS1.out.below hb2)
  have hk2 := HK1.out.below hb2 HK1.out.lt
  have hk3 := Blk.new w1 22 #[.slice A1 LL c1]
  have HB2 := Lib.hid (bthen HB1.out hb2)
  have HO2 := Lib.hid (HO1.out.below hb2)
  clear hb2 HS1 HK1 HB1 HO1
  generalize w1.alloc (.cells #[.slice A1 LL c1] 22) = W at *
  have d0 : W.cell? ⟨w.heap.size, 0, none⟩ = some (.int .i64 ns.length) := hk2.cell 0
  have d1 : W.cell? ⟨w.heap.size, 1, none⟩ = some (.slice A ns.length c) := hk2.cell 1
  have d2 : W.cell? ⟨w1.heap.size, 0, none⟩ = some (.slice A1 LL c1) := hk3.cell 0
  have hlt := hk2.lt
  have hlt3 := hk3.lt
  clear hk2 hk3
  have HEq := Lib.hid (HE.out W _ HO2.out HS2.out)
  go_wp2_with fail
  refine HEq.out.mono ?_
  rintro e w3 ⟨rfl, hb3⟩
  have HB3 := Lib.hid (bthen HB2.out hb3)
  clear d0 d1 d2 hb3
  go_wp2
  go_ret
  exact ⟨by rw [ET.out]; rfl, HB3.out⟩
set_option maxHeartbeats 1000000 in
set_option maxRecDepth 100000 in
theorem spec_l05Flag_3 (ns : List Nat) (v : Value) (w : World) (h : Sl cI w v (li ns)) (hr : RelN ns) :
    Calls Tryz.prog 69 #[.agg #[.int .i64 ns.length, v], .int .i64 3] w fun e w' => e = .returned (.bool (sym ns)) ∧ Below w.heap.size w w' := by
  obtain ⟨A, c, rfl⟩ := h.opn
  have h8 := hr.1
  have EL := Lib.hid (li_length ns)
  rw [EL.out] at h ⊢
  have hb0 := below_alloc' w (.cells #[.int .i64 ns.length, .slice A ns.length c] 68)
  have hk0 := Blk.new w 68 #[.int .i64 ns.length, .slice A ns.length c]
  have hkl := hk0.lt
  have HS := Lib.hid (h.below hb0)
  have HB := Lib.hid hb0
  have HX := Lib.hid (fun i => Nat.lt_of_lt_of_le (getD_lt hr.2 i) (two_pow_256 h8))
  have EI := Lib.hid (sym_iff ns hr)
  clear h hb0 hr
  go_enter Tryz.func69, Tryz.ntmps69
  go_upto_region 1 with fail
  generalize w.alloc (.cells #[.int .i64 (ns.length : Int), .slice A ns.length c] 68) = W0 at *
  have d0 : W0.cell? ⟨w.heap.size, 0, none⟩ = some (.int .i64 ns.length) := hk0.cell 0
  have d1 : W0.cell? ⟨w.heap.size, 1, none⟩ = some (.slice A ns.length c) := hk0.cell 1
  clear hk0
  go_quiet (fail)
  clear d0 d1
  go_wp2
  go_loopw [7] (fun x wr => ∃ j : Nat, j ≤ ns.length ∧ x = .int .i64 j ∧ (∀ x, x < j → ∀ y, y < ns.length → (ns.getD x 0).testBit y = true → (ns.getD y 0).testBit x = true) ∧ Below W0.heap.size W0 wr) (fun x _ => ns.length - (intOf x).toNat)
  case atStart => exact ⟨0, Nat.zero_le _, rfl, fun i hi => by omega, below_drewN (Below.refl _ _) _⟩
  case round =>
    obtain ⟨x, hx, rfl, hh, hb⟩ := hrel
    have HH := Lib.hid hh
    clear hh
    by_cases hxl : x < ns.length
    · have hx' : x < (li ns).length := by rw [EL.out]; exact hxl
      obtain ⟨b, o, rfl, hbl, hc0⟩ := (HS.out.below hb).atI hx'
      rw [li_get] at hc0
      have HA : Hid (∀ W, Below W0.heap.size W0 W → ∀ z, z < ns.length → W.cell? ⟨b, o + z, none⟩ = some (.int .i64 (ns.getD z 0 : Nat))) := Lib.hid (fun W hW z hz => by
        obtain ⟨b', o', hbo, -, hc⟩ := (HS.out.below hW).atI (k := z) (by rw [EL.out]; exact hz)
        injection hbo with hbo
        injection hbo with e1 e2
        subst e1
        subst e2
        rw [li_get] at hc
        exact hc)
      have hm := HX.out x
      have HBy := Lib.hid hb
      obtain ⟨m, hmm⟩ : ∃ m, ns.getD x 0 = m := ⟨_, rfl⟩
      rw [hmm] at hc0 hm
      have HMM := Lib.hid hmm
      clear hb hmm hc0
      go_wp2
      go_loopw [8] (fun y wq => ∃ j : Nat, j ≤ ns.length ∧ y = .int .i64 j ∧ (∀ y, y < j → m.testBit y = true → (ns.getD y 0).testBit x = true) ∧ Below W0.heap.size W0 wq) (fun y _ => ns.length - (intOf y).toNat)
      case atStart => exact ⟨0, Nat.zero_le _, rfl, fun y hy => by omega, HBy.out⟩
      case round =>
        obtain ⟨y, hy, rfl, hh, hb⟩ := hrel
        have HG := Lib.hid hh
        have HBr := Lib.hid hb
        clear HBy hh
        by_cases hyl : y < ns.length
        · have hcx := HA.out _ hb x hxl
          have hcy := HA.out _ hb y hyl
          rw [HMM.out] at hcx
          have hr2 := HX.out y
          clear hb
          go_wp2_with fail
          refine (spec_l01Bit m y _ (by omega) (by omega)).mono ?_
          rintro e w3 ⟨rfl, rfl⟩
          cases ht : m.testBit y
          · have HG2 : Hid (∀ z, z < y + 1 → m.testBit z = true → (ns.getD z 0).testBit x = true) := Lib.hid (fun z hz hb => (Nat.lt_or_ge z y).elim (fun h => HG.out z h hb) (fun h => by
              obtain rfl : z = y := by omega
              rw [ht] at hb; cases hb))
            clear ht hcx hcy
            go_wp2
            go_roundw
            case rel => exact ⟨y + 1, by omega, by go_num, HG2.out, HBr.out⟩
            case measure => simp [intOf]; omega
          · cases hu : (ns.getD y 0).testBit x
            · have EF : Hid (sym ns = false) := Lib.hid (by
                rw [← Bool.not_eq_true]
                intro hs
                have := EI.out.1 hs x hxl y hyl (by rw [HMM.out]; exact ht)
                rw [hu] at this; cases this)
              obtain ⟨r, hrr⟩ : ∃ r, ns.getD y 0 = r := ⟨_, rfl⟩
              rw [hrr] at hcy hr2 hu
              clear hrr ht
              go_wp2_with fail
              refine (spec_l01Bit r x _ (by omega) (by omega)).mono ?_
              rintro e w4 ⟨rfl, rfl⟩
              rw [hu]
              clear hu hcx hcy
              go_wp2
              go_ret
              exact ⟨by rw [EF.out]; rfl, HB.out.trans (HBr.out.mono HB.out.size)⟩
            · have HG2 : Hid (∀ z, z < y + 1 → m.testBit z = true → (ns.getD z 0).testBit x = true) := Lib.hid (fun z hz hb => (Nat.lt_or_ge z y).elim (fun h => HG.out z h hb) (fun h => by
                obtain rfl : z = y := by omega
                exact hu))
              obtain ⟨r, hrr⟩ : ∃ r, ns.getD y 0 = r := ⟨_, rfl⟩
              rw [hrr] at hcy hr2 hu
              clear hrr ht
              go_wp2_with fail
              refine (spec_l01Bit r x _ (by omega) (by omega)).mono ?_
              rintro e w4 ⟨rfl, rfl⟩
              rw [hu]
              clear hu hcx hcy
              go_wp2
              go_loopw [9] (fun z wq => ∃ j : Nat, j ≤ ns.length ∧ z = .int .i64 j ∧ Below W0.heap.size W0 wq) (fun z _ => ns.length - (intOf z).toNat)
              case atStart => exact ⟨0, Nat.zero_le _, rfl, HBr.out⟩
              case round =>
                obtain ⟨z, hz, rfl, hb⟩ := hrel
                have HBz := Lib.hid hb
                clear HBr
                by_cases hzl : z < ns.length
                · have hcx := HA.out _ hb x hxl
                  rw [HMM.out] at hcx
                  clear hb
                  go_wp2_with fail
                  refine (spec_l01Bit m z _ (by omega) (by omega)).mono ?_
                  rintro e w3 ⟨rfl, rfl⟩
                  cases ht : m.testBit z
                  · clear ht
                    go_wp2
                    go_roundw
                    case rel => exact ⟨z + 1, by omega, by go_num, HBz.out⟩
                    case measure => simp [intOf]; omega
                  · clear ht hcx
                    go_wp2
                    go_quiet (fail)
                    go_wp2
                    go_roundw
                    case rel => exact ⟨z + 1, by omega, by go_num, below_drewN HBz.out _⟩
                    case measure => simp [intOf]; omega
                · obtain rfl : z = ns.length := by omega
                  clear hb
                  go_wp2
                  go_roundw
                  case rel => exact ⟨y + 1, by omega, by go_num, HG2.out, HBz.out⟩
                  case measure => simp [intOf]; omega
        · obtain rfl : y = ns.length := by omega
          have HH2 : Hid (∀ z, z < x + 1 → ∀ y, y < ns.length → (ns.getD z 0).testBit y = true → (ns.getD y 0).testBit z = true) := Lib.hid (fun z hz y hy hbt => (Nat.lt_or_ge z x).elim (fun h => HH.out z h y hy hbt) (fun h => by
            obtain rfl : z = x := by omega
            rw [HMM.out] at hbt
            exact HG.out y hy hbt))
          clear hb
          go_wp2
          go_roundw
          case rel => exact ⟨x + 1, by omega, by go_num, HH2.out, HBr.out⟩
          case measure => simp [intOf]; omega
    · have EF : Hid (sym ns = true) := Lib.hid (EI.out.2 fun i hi y hy hbt => HH.out i (by omega) y hy hbt)
      have HBx := Lib.hid hb
      clear hb
      go_wp2
      go_ret
      exact ⟨by rw [EF.out]; rfl, HB.out.trans (HBx.out.mono HB.out.size)⟩
end Go.Proofs.YtkdldfomdbgcaaaGreat
