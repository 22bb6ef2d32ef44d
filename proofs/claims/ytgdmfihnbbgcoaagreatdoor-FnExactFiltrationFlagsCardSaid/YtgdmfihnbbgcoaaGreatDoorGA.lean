/- Joined of several texts: G1, G2, G3, G4, G5, G6. -/
import Derived.Test.YtgdmfihnbbgcoaaGreatDoorQA
namespace Go.Proofs.YtgdmfihnbbgcoaaGreatDoor
open Go.RowKit
set_option linter.unusedVariables false
set_option linter.unusedSimpArgs false
/- The flags of a frame, of the program: pairs that a world sees, and the conditions. -/
theorem mn_all (m n : Nat) (hm : m < 2 ^ n) (hn : n ≤ 64) (f : Nat → Bool) : (mn m).all f = (List.range n).all fun y => !m.testBit y || f y := by
  rw [Bool.eq_iff_iff, List.all_eq_true, List.all_eq_true]
  constructor
  · intro h y hy
    cases hb : m.testBit y
    · rfl
    · rw [h y (mn_mem.2 ⟨by rw [List.mem_range] at hy; omega, hb⟩)]; rfl
  · intro h y hy
    have hb := (mn_mem.1 hy).2
    have := h y (List.mem_range.2 (bit_lt hm hb))
    rw [hb] at this
    simpa using this
theorem t3_mn (ns : List Nat) (h : RelN ns) (p : Nat → Nat → Nat → Bool) : t3 ns (fun _ => true) (fun _ _ => true) p = (List.range ns.length).all fun x => (mn (ns.getD x 0)).all fun y => (mn (ns.getD x 0)).all fun z => p x y z := by
  unfold t3
  congr 1
  funext x
  have hm : ns.getD x 0 < 2 ^ ns.length := getD_lt h.2 x
  have h8 := h.1
  rw [mn_all _ _ hm (by omega)]
  simp only [mn_all _ _ hm (show ns.length ≤ 64 by omega), Bool.true_and]
theorem all_take {α : Type} (l : List α) (f : α → Bool) (k : Nat) (h : k < l.length) : (l.take (k + 1)).all f = ((l.take k).all f && f l[k]) := by
  rw [List.take_succ_eq_append_getElem h, List.all_append]; simp
theorem all_at {α : Type} {l : List α} {f : α → Bool} {k : Nat} (h : k < l.length) (hf : f l[k] = false) : l.all f = false := by
  rw [← Bool.not_eq_true, List.all_eq_true]
  intro hh
  have := hh _ (List.getElem_mem h)
  rw [hf] at this; cases this
set_option maxRecDepth 100000 in
set_option maxHeartbeats 1000000 in
theorem impl_everyPair (ns : List Nat) (A : Option Addr) (c : Nat) (k : FuncId) (cap : Array Value) (p : Nat → Nat → Nat → Bool) (w : World) (h : Sl cI w (.slice A ns.length c) (li ns)) (hr : RelN ns)
    (hk : ∀ (args : Array Value) (w : World), (callFunc k args).run Tryz.prog w = .ok (.enter k args) w)
    (hf : ∀ w', Below w.heap.size w w' → ∀ (x y z : Nat), x < ns.length → y < ns.length → z < ns.length → Calls Tryz.prog k (#[.int .i64 x, .int .i64 y, .int .i64 z] ++ cap) w' fun e w'' => e = .returned (.bool (p x y z)) ∧ Below w'.heap.size w' w'') :
    Calls Tryz.prog 122 #[.agg #[.int .i64 ns.length, .slice A ns.length c], .func (.func k) #[] cap] w fun e w' => e = .returned (.bool (t3 ns (fun _ => true) (fun _ _ => true) p)) ∧ Below w.heap.size w w' := by
  rw [t3_mn ns hr p]
  have h8 := hr.1
  have hb0 := below_alloc' w (.cells #[.int .i64 ns.length, .slice A ns.length c] 31)
  have hk0 := Blk.new w 31 #[.int .i64 ns.length, .slice A ns.length c]
  have hkl := hk0.lt
  have HB := Lib.hid hb0
  have HS := Lib.hid (h.below hb0)
  have HF := Lib.hid hf
  have HX := Lib.hid (fun i => Nat.lt_of_lt_of_le (getD_lt hr.2 i) (two_pow_256 h8))
  have HMn : Hid (∀ x, ∀ y ∈ mn (ns.getD x 0), y < ns.length) := Lib.hid fun x y hy => bit_lt (getD_lt hr.2 x) (mn_mem.1 hy).2
  have EL := Lib.hid (li_length ns)
  have HNo : Hid (∀ x, x < ns.length → ((mn (ns.getD x 0)).all fun y => (mn (ns.getD x 0)).all fun z => p x y z) = false → ((List.range ns.length).all fun x => (mn (ns.getD x 0)).all fun y => (mn (ns.getD x 0)).all fun z => p x y z) = false) := Lib.hid fun x hx h => all_no (f := fun x => (mn (ns.getD x 0)).all fun y => (mn (ns.getD x 0)).all fun z => p x y z) hx h
  have HYs : Hid ((∀ x, x < ns.length → ((mn (ns.getD x 0)).all fun y => (mn (ns.getD x 0)).all fun z => p x y z) = true) → ((List.range ns.length).all fun x => (mn (ns.getD x 0)).all fun y => (mn (ns.getD x 0)).all fun z => p x y z) = true) := Lib.hid fun h => all_yes h
  generalize ((List.range ns.length).all fun x => (mn (ns.getD x 0)).all fun y => (mn (ns.getD x 0)).all fun z => p x y z) = RES at *
  have k1 : (w.alloc (.cells #[.int .i64 ns.length, .slice A ns.length c] 31)).cell? ⟨w.heap.size, 1, none⟩ = some (.slice A ns.length c) := hk0.cell 1
  clear hf hb0 hk0 h hr
  go_enter Tryz.func122, Tryz.ntmps122
  go_upto_region 1 with fail
  generalize w.alloc (.cells #[.int .i64 (ns.length : Int), .slice A ns.length c] 31) = W0 at *
  go_wp2
  go_loopw [5, 6, 8, 10, 14] (fun _ _ _ _ ix wr => ∃ x : Nat, x ≤ ns.length ∧ ix = .int .i64 x ∧ (∀ i, i < x → ((mn (ns.getD i 0)).all fun y => (mn (ns.getD i 0)).all fun z => p i y z) = true) ∧ Below W0.heap.size W0 wr) (fun _ _ _ _ ix _ => ns.length - (intOf ix).toNat)
  case atStart => exact ⟨0, Nat.zero_le _, rfl, fun i hi => by omega, Below.refl _ _⟩
  case round =>
    obtain ⟨x, hx, rfl, hh, hb⟩ := hrel
    have HH := Lib.hid hh
    have HBx := Lib.hid hb
    clear hh
    by_cases hxl : x < ns.length
    · obtain ⟨b, o, rfl, hbl, hc0⟩ := (HS.out.below hb).atI (k := x) (by rw [EL.out]; exact hxl)
      rw [li_get] at hc0
      have hm := HX.out x
      have HNx := Lib.hid (HNo.out x hxl)
      have HMx := Lib.hid (HMn.out x)
      have HHx : Hid (((mn (ns.getD x 0)).all fun y => (mn (ns.getD x 0)).all fun z => p x y z) = true → ∀ i, i < x + 1 → ((mn (ns.getD i 0)).all fun y => (mn (ns.getD i 0)).all fun z => p i y z) = true) := Lib.hid fun h i hi => (Nat.lt_or_ge i x).elim (fun h => HH.out i h) (fun h2 => (show i = x by omega) ▸ h)
      have HMem := Lib.hid (fun W => impl_membersOf (ns.getD x 0) W (by omega))
      rw [mems_mn] at HMem
      have hlm := mn_len (ns.getD x 0)
      generalize ns.getD x 0 = m at *
      generalize mn m = mm at *
      clear hb
      go_wp2_with fail
      refine (HMem.out _).mono ?_
      rintro e w2 ⟨u2, rfl, ho2, hb2⟩
      obtain ⟨A2, c2, rfl⟩ := ho2.opn
      rw [li_length] at ho2 ⊢
      have HS2 := Lib.hid ho2.sl
      have HB2 := Lib.hid (bthen HBx.out hb2)
      clear ho2 hb2 hc0
      go_wp2
      go_loopw [8, 10, 22] (fun _ _ ix wr => ∃ i : Nat, i ≤ mm.length ∧ ix = .int .i64 i ∧ ((mm.take i).all fun y => mm.all fun z => p x y z) = true ∧ Below w2.heap.size w2 wr) (fun _ _ ix _ => mm.length - (intOf ix).toNat)
      case atStart => exact ⟨0, Nat.zero_le _, rfl, rfl, Below.refl _ _⟩
      case round =>
        obtain ⟨i, hi, rfl, hall, hb⟩ := hrel
        have HAl := Lib.hid hall
        have HBi := Lib.hid hb
        clear hall
        by_cases hil : i < mm.length
        · obtain ⟨b2, o2, e2, hbl2, hc2⟩ := li_at4 (HS2.out.below hb) hil
          subst e2
          have hyl := HMx.out _ (List.getElem_mem hil)
          have HT2 := Lib.hid (all_take mm (fun y => mm.all fun z => p x y z) i hil)
          have HF2 := Lib.hid (fun h => HNx.out (all_at (f := fun y => mm.all fun z => p x y z) hil h))
          generalize mm[i] = y at *
          clear hb
          go_wp2_with fail
          refine (HMem.out _).mono ?_
          rintro e w3 ⟨u3, rfl, ho3, hb3⟩
          obtain ⟨A3, c3, rfl⟩ := ho3.opn
          rw [li_length] at ho3 ⊢
          have HS3 := Lib.hid ho3.sl
          have HB3 := Lib.hid (bthen HBi.out hb3)
          clear ho3 hb3 hc2
          go_wp2
          go_loopw [10, 29] (fun _ ix wr => ∃ j : Nat, j ≤ mm.length ∧ ix = .int .i64 j ∧ ((mm.take j).all fun z => p x y z) = true ∧ Below w3.heap.size w3 wr) (fun _ ix _ => mm.length - (intOf ix).toNat)
          case atStart => exact ⟨0, Nat.zero_le _, rfl, rfl, Below.refl _ _⟩
          case round =>
            obtain ⟨j, hj, rfl, hall, hb⟩ := hrel
            have HAj := Lib.hid hall
            have HBj := Lib.hid hb
            clear hall
            by_cases hjl : j < mm.length
            · obtain ⟨b3, o3, e3, hbl3, hc3⟩ := li_at4 (HS3.out.below hb) hjl
              subst e3
              have hzl := HMx.out _ (List.getElem_mem hjl)
              have HT3 := Lib.hid (all_take mm (fun z => p x y z) j hjl)
              have HF3 := Lib.hid (fun h => HF2.out (all_at (f := fun z => p x y z) hjl h))
              have HCl := Lib.hid (fun (z : Nat) (hz : z < ns.length) => HF.out wr (bthen HB.out (bthen HB2.out (bthen HB3.out hb))) x y z hxl hyl hz)
              generalize mm[j] = z at *
              clear hb
              cases hp : p x y z
              · have EF : Hid (RES = false) := Lib.hid (HF3.out hp)
                have HC2 := Lib.hid (HCl.out z hzl)
                rw [hp] at HC2
                clear hp
                go_wp2_with fail
                refine HC2.out.mono ?_
                rintro e w5 ⟨rfl, hb5⟩
                have HB5 := Lib.hid (bthen HB.out (bthen HB2.out (bthen HB3.out (bthen HBj.out hb5))))
                clear hb5 hc3
                go_wp2
                go_ret
                exact ⟨by rw [EF.out]; rfl, HB5.out⟩
              · have HA2 : Hid (((mm.take (j + 1)).all fun z => p x y z) = true) := Lib.hid (by rw [HT3.out, HAj.out, hp]; rfl)
                have HC2 := Lib.hid (HCl.out z hzl)
                rw [hp] at HC2
                clear hp
                go_wp2_with fail
                refine HC2.out.mono ?_
                rintro e w5 ⟨rfl, hb5⟩
                have HB5 := Lib.hid (bthen HBj.out hb5)
                clear hb5 hc3
                go_wp2
                go_roundw
                case rel => exact ⟨j + 1, by omega, by go_num, HA2.out, HB5.out⟩
                case measure => simp [intOf]; omega
            · obtain rfl : j = mm.length := by omega
              rw [List.take_length] at HAj
              have HA2 : Hid (((mm.take (i + 1)).all fun y => mm.all fun z => p x y z) = true) := Lib.hid (by rw [HT2.out, HAl.out, HAj.out]; rfl)
              have HB5 := Lib.hid (bthen HB3.out hb)
              clear hb
              go_wp2
              go_roundw
              case rel => exact ⟨i + 1, by omega, by go_num, HA2.out, HB5.out⟩
              case measure => simp [intOf]; omega
        · obtain rfl : i = mm.length := by omega
          rw [List.take_length] at HAl
          have HH2 := Lib.hid (HHx.out HAl.out)
          have HB5 := Lib.hid (bthen HB2.out hb)
          clear hb
          go_wp2
          go_roundw
          case rel => exact ⟨x + 1, by omega, by go_num, HH2.out, HB5.out⟩
          case measure => simp [intOf]; omega
    · obtain rfl : x = ns.length := by omega
      have EF : Hid (RES = true) := Lib.hid (HYs.out HH.out)
      have HB5 := Lib.hid (bthen HB.out hb)
      clear hb
      go_wp2
      go_ret
      exact ⟨by rw [EF.out]; rfl, HB5.out⟩
/- hasFlag of the program at 0, 1, 4, 5, 6, 8, 9 and 10. Written by gen14G.py. -/
/-- what the conditions read: a frame's box, the box of the inverse, both lists -/
structure Bx (W : World) (F B : Nat) (ns : List Nat) (A A1 : Option Addr) (c c1 : Nat) : Prop where
  f0 : W.cell? ⟨F, 0, none⟩ = some (.int .i64 ns.length)
  f1 : W.cell? ⟨F, 1, none⟩ = some (.slice A ns.length c)
  fl : F < W.heap.size
  b0 : W.cell? ⟨B, 0, none⟩ = some (.slice A1 ns.length c1)
  bl : B < W.heap.size
  a : Sl cI W (.slice A ns.length c) (li ns)
  b : Sl cI W (.slice A1 ns.length c1) (li (inv ns))
theorem Bx.below {W W' : World} {F B : Nat} {ns : List Nat} {A A1 : Option Addr} {c c1 : Nat} (h : Bx W F B ns A A1 c c1) (hb : Below W.heap.size W W') : Bx W' F B ns A A1 c c1 :=
  ⟨(hb.cell (p := ⟨F, 0, none⟩) h.fl).trans h.f0, (hb.cell (p := ⟨F, 1, none⟩) h.fl).trans h.f1, Nat.lt_of_lt_of_le h.fl hb.size, (hb.cell (p := ⟨B, 0, none⟩) h.bl).trans h.b0, Nat.lt_of_lt_of_le h.bl hb.size, h.a.below hb, h.b.below hb⟩
theorem inv_256 (ns : List Nat) (hr : RelN ns) (i : Nat) : (inv ns).getD i 0 < 256 := Nat.lt_of_lt_of_le (getD_lt (lnk_lt _ _ _) i) (two_pow_256 hr.1)
theorem rel_256 (ns : List Nat) (hr : RelN ns) (i : Nat) : ns.getD i 0 < 256 := Nat.lt_of_lt_of_le (getD_lt hr.2 i) (two_pow_256 hr.1)
theorem q_within {a b : Nat} (ha : a < 9223372036854775808) (hb : b < 9223372036854775808) (W : World) (n : Nat) :
    Calls Tryz.prog 81 #[.int .i64 a, .int .i64 b] (W.drewN n) fun e w'' => e = .returned (.bool (decide (andnot a b = 0))) ∧ ∃ m, w'' = W.drewN m :=
  (impl_within a b _ ha hb).mono fun e w' hh => ⟨hh.1, n, hh.2.symm⟩
theorem en_hasFlag_114 : ∀ (args : Array Value) (w : World), (callFunc 119 args).run Tryz.prog w = .ok (.enter 119 args) w := enters Tryz.func119 (by kernel_rfl) (by kernel_rfl)
theorem impl_cond_1 (x y z : Nat) (F B : Nat) (ns : List Nat) (A A1 : Option Addr) (c c1 : Nat) (W : World) (h : Bx W F B ns A A1 c c1) (hr : RelN ns) (hx : x < ns.length) (hy : y < ns.length) (hz : z < ns.length) :
    Calls Tryz.prog 119 #[.int .i64 x, .pointer (some ⟨F, 0, none⟩)] W fun e w' => e = .returned (.bool ((ns.getD x 0).testBit x)) ∧ Below W.heap.size W w' := by
  have h8 := hr.1
  have f0 := h.f0
  have f1 := h.f1
  have fl := h.fl
  have HSe := Lib.hid (fun X hX => impl_sees ns A c x x X (h.a.below (hX : Below W.heap.size W X)) hr hx (by omega))
  generalize (ns.getD x 0).testBit x = r at *
  clear h
  go_enter Tryz.func119, Tryz.ntmps119
  go_wp2_with fail
  refine (HSe.out _ (Below.refl _ _)).mono ?_
  rintro e w2 ⟨rfl, hb⟩
  have HB := Lib.hid hb
  clear hb f0 f1
  go_wp2
  go_ret
  exact ⟨rfl, HB.out⟩
theorem en_hasFlag_214 : ∀ (args : Array Value) (w : World), (callFunc 120 args).run Tryz.prog w = .ok (.enter 120 args) w := enters Tryz.func120 (by kernel_rfl) (by kernel_rfl)
theorem impl_cond_2 (x y z : Nat) (F B : Nat) (ns : List Nat) (A A1 : Option Addr) (c c1 : Nat) (W : World) (h : Bx W F B ns A A1 c c1) (hr : RelN ns) (hx : x < ns.length) (hy : y < ns.length) (hz : z < ns.length) :
    Calls Tryz.prog 120 #[.int .i64 x, .pointer (some ⟨F, 0, none⟩)] W fun e w' => e = .returned (.bool (!decide (ns.getD x 0 = 0))) ∧ Below W.heap.size W w' := by
  have h8 := hr.1
  have f0 := h.f0
  have f1 := h.f1
  have fl := h.fl
  obtain ⟨bx, ox, ex, hbx, hcx⟩ := h.a.atI (k := x) (by rw [li_length]; exact hx)
  rw [li_get] at hcx
  subst ex
  generalize ns.getD x 0 = m at *
  obtain ⟨r, hrr⟩ : ∃ r, (!decide (m = 0)) = r := ⟨_, rfl⟩
  have hd : (((m : Nat) : Int) != 0) = r := by rw [← hrr, Bool.eq_iff_iff]; simp
  rw [hrr]
  clear h hrr
  go_enter Tryz.func120, Tryz.ntmps120
  go_wp2
  go_ret
  exact ⟨rfl, Below.refl _ _⟩
theorem en_hasFlag_314 : ∀ (args : Array Value) (w : World), (callFunc 123 args).run Tryz.prog w = .ok (.enter 123 args) w := enters Tryz.func123 (by kernel_rfl) (by kernel_rfl)
theorem impl_cond_3 (x y z : Nat) (F B : Nat) (ns : List Nat) (A A1 : Option Addr) (c c1 : Nat) (W : World) (h : Bx W F B ns A A1 c c1) (hr : RelN ns) (hx : x < ns.length) (hy : y < ns.length) (hz : z < ns.length) :
    Calls Tryz.prog 123 #[.int .i64 x, .int .i64 y, .int .i64 z, .pointer (some ⟨F, 0, none⟩)] W fun e w' => e = .returned (.bool ((ns.getD y 0).testBit z)) ∧ Below W.heap.size W w' := by
  have h8 := hr.1
  have f0 := h.f0
  have f1 := h.f1
  have fl := h.fl
  have HSe := Lib.hid (fun X hX => impl_sees ns A c y z X (h.a.below (hX : Below W.heap.size W X)) hr hy (by omega))
  generalize (ns.getD y 0).testBit z = r at *
  clear h
  go_enter Tryz.func123, Tryz.ntmps123
  go_wp2_with fail
  refine (HSe.out _ (Below.refl _ _)).mono ?_
  rintro e w2 ⟨rfl, hb⟩
  have HB := Lib.hid hb
  clear hb f0 f1
  go_wp2
  go_ret
  exact ⟨rfl, HB.out⟩
theorem en_hasFlag_414 : ∀ (args : Array Value) (w : World), (callFunc 124 args).run Tryz.prog w = .ok (.enter 124 args) w := enters Tryz.func124 (by kernel_rfl) (by kernel_rfl)
theorem impl_cond_4 (x y z : Nat) (F B : Nat) (ns : List Nat) (A A1 : Option Addr) (c c1 : Nat) (W : World) (h : Bx W F B ns A A1 c c1) (hr : RelN ns) (hx : x < ns.length) (hy : y < ns.length) (hz : z < ns.length) :
    Calls Tryz.prog 124 #[.int .i64 x, .int .i64 y, .int .i64 z, .pointer (some ⟨F, 0, none⟩)] W fun e w' => e = .returned (.bool (!decide (ns.getD y 0 &&& ns.getD z 0 = 0))) ∧ Below W.heap.size W w' := by
  have h8 := hr.1
  have f0 := h.f0
  have f1 := h.f1
  have fl := h.fl
  obtain ⟨bp, op, ep, hbp, hcp⟩ := h.a.atI (k := y) (by rw [li_length]; exact hy)
  rw [li_get] at hcp
  obtain ⟨bq, oq, eq, hbq, hcq⟩ := h.a.atI (k := z) (by rw [li_length]; exact hz)
  rw [li_get] at hcq
  have q1 := rel_256 ns hr y
  have q2 := rel_256 ns hr z
  subst ep
  injection eq with eq
  injection eq with eq1 eq2
  subst eq1
  subst eq2
  generalize hmp : ns.getD y 0 = m at *
  generalize hmq : ns.getD z 0 = r at *
  have e1 := i64_and_nat8 m r q1 q2
  obtain ⟨zz, hzz⟩ : ∃ z, (!decide (m &&& r = 0)) = z := ⟨_, rfl⟩
  have hd : (((m &&& r : Nat) : Int) != 0) = zz := by rw [← hzz, Bool.eq_iff_iff]; simp
  rw [hzz]
  generalize m &&& r = q at *
  clear h hzz hmp hmq
  go_enter Tryz.func124, Tryz.ntmps124
  go_upto_region 1 with fail
  go_quiet (fail)
  go_wp2
  go_ret
  exact ⟨rfl, below_drewN (Below.refl _ _) _⟩
theorem en_hasFlag_514 : ∀ (args : Array Value) (w : World), (callFunc 125 args).run Tryz.prog w = .ok (.enter 125 args) w := enters Tryz.func125 (by kernel_rfl) (by kernel_rfl)
theorem impl_cond_5 (x y z : Nat) (F B : Nat) (ns : List Nat) (A A1 : Option Addr) (c c1 : Nat) (W : World) (h : Bx W F B ns A A1 c c1) (hr : RelN ns) (hx : x < ns.length) (hy : y < ns.length) (hz : z < ns.length) :
    Calls Tryz.prog 125 #[.int .i64 x, .int .i64 y, .int .i64 z, .pointer (some ⟨F, 0, none⟩)] W fun e w' => e = .returned (.bool ((ns.getD y 0).testBit z || (ns.getD z 0).testBit y)) ∧ Below W.heap.size W w' := by
  have h8 := hr.1
  have f0 := h.f0
  have f1 := h.f1
  have fl := h.fl
  have HS1 := Lib.hid (impl_sees ns A c y z W h.a hr hy (by omega))
  have HS2 := Lib.hid (fun X (hX : Below W.heap.size W X) => impl_sees ns A c z y X (h.a.below hX) hr hz (by omega))
  have HF := Lib.hid (fun X (hX : Below W.heap.size W X) => And.intro (h.below hX).f0 (And.intro (h.below hX).f1 (h.below hX).fl))
  clear h
  cases h1 : (ns.getD y 0).testBit z
  · rw [h1] at HS1
    clear h1
    obtain ⟨r, hrr⟩ : ∃ r, (ns.getD z 0).testBit y = r := ⟨_, rfl⟩
    rw [hrr] at HS2 ⊢
    clear hrr
    go_enter Tryz.func125, Tryz.ntmps125
    go_wp2_with fail
    refine HS1.out.mono ?_
    rintro e w2 ⟨rfl, hb⟩
    have HB := Lib.hid hb
    obtain ⟨g0, g1, gl⟩ := HF.out _ hb
    have HS3 := Lib.hid (HS2.out _ hb)
    clear hb f0 f1 fl HS1 HS2
    go_wp2_with fail
    refine HS3.out.mono ?_
    rintro e w3 ⟨rfl, hb⟩
    have HB3 := Lib.hid (bthen HB.out hb)
    clear hb g0 g1
    go_wp2
    go_ret
    exact ⟨by simp, HB3.out⟩
  · rw [h1] at HS1
    clear h1
    go_enter Tryz.func125, Tryz.ntmps125
    go_wp2_with fail
    refine HS1.out.mono ?_
    rintro e w2 ⟨rfl, hb⟩
    have HB := Lib.hid hb
    clear hb f0 f1
    go_wp2
    go_ret
    exact ⟨rfl, HB.out⟩
theorem en_hasFlag_714 : ∀ (args : Array Value) (w : World), (callFunc 127 args).run Tryz.prog w = .ok (.enter 127 args) w := enters Tryz.func127 (by kernel_rfl) (by kernel_rfl)
theorem impl_cond_7 (x y z : Nat) (F B : Nat) (ns : List Nat) (A A1 : Option Addr) (c c1 : Nat) (W : World) (h : Bx W F B ns A A1 c c1) (hr : RelN ns) (hx : x < ns.length) (hy : y < ns.length) (hz : z < ns.length) :
    Calls Tryz.prog 127 #[.int .i64 x, .pointer (some ⟨F, 0, none⟩), .pointer (some ⟨B, 0, none⟩)] W fun e w' => e = .returned (.bool (decide (andnot (ns.getD x 0 &&& (inv ns).getD x 0) (2 ^ x) = 0))) ∧ Below W.heap.size W w' := by
  have h8 := hr.1
  have f0 := h.f0
  have f1 := h.f1
  have fl := h.fl
  have b0 := h.b0
  have bl := h.bl
  obtain ⟨bp, op, ep, hbp, hcp⟩ := h.a.atI (k := x) (by rw [li_length]; exact hx)
  rw [li_get] at hcp
  obtain ⟨bq, oq, eq, hbq, hcq⟩ := h.b.atI (k := x) (by rw [li_length, inv_length]; exact hx)
  rw [li_get] at hcq
  subst ep
  subst eq
  have q1 := rel_256 ns hr x
  have q2 := inv_256 ns hr x
  generalize ns.getD x 0 = m at *
  generalize (inv ns).getD x 0 = r at *
  have e1 := i64_and_nat8 m r q1 q2
  have hwm : (m &&& r) < 256 := Nat.lt_of_le_of_lt Nat.and_le_left q1
  have hw : wrap64 ((2 : Int) ^ x) = 2 ^ x := wrap_two_pow (by omega)
  have hw2 : IntKind.i64.wrap ((2 : Int) ^ x) = 2 ^ x := by rw [wrap_two_pow'' (by omega), cast_two_pow]
  have HQ : Hid (∀ n, Calls Tryz.prog 81 #[.int .i64 (m &&& r : Nat), .int .i64 (2 ^ x)] (W.drewN n) fun e w'' => e = .returned (.bool (decide (andnot (m &&& r) (2 ^ x) = 0))) ∧ ∃ m, w'' = W.drewN m) := Lib.hid fun n => by
    have := q_within (a := m &&& r) (b := 2 ^ x) (by omega) (two_pow_lt (by omega)) W n
    rwa [← cast_two_pow] at this
  generalize m &&& r = q at *
  generalize decide (andnot q (2 ^ x) = 0) = zz at *
  have hx64 : x < 64 := by omega
  clear h
  go_enter Tryz.func127, Tryz.ntmps127
  go_upto_region 1 with fail
  go_quiet ((go_at_call 81; exact HQ.out _))
  go_wp2
  go_ret
  exact ⟨rfl, below_drewN (Below.refl _ _) _⟩
theorem en_hasFlag_814 : ∀ (args : Array Value) (w : World), (callFunc 128 args).run Tryz.prog w = .ok (.enter 128 args) w := enters Tryz.func128 (by kernel_rfl) (by kernel_rfl)
theorem impl_cond_8 (x y z : Nat) (F B : Nat) (ns : List Nat) (A A1 : Option Addr) (c c1 : Nat) (W : World) (h : Bx W F B ns A A1 c c1) (hr : RelN ns) (hx : x < ns.length) (hy : y < ns.length) (hz : z < ns.length) :
    Calls Tryz.prog 128 #[.int .i64 x, .int .i64 y, .int .i64 z, .pointer (some ⟨F, 0, none⟩), .pointer (some ⟨B, 0, none⟩)] W fun e w' => e = .returned (.bool (!decide (ns.getD x 0 &&& (inv ns).getD y 0 = 0))) ∧ Below W.heap.size W w' := by
  have h8 := hr.1
  have f0 := h.f0
  have f1 := h.f1
  have fl := h.fl
  have b0 := h.b0
  have bl := h.bl
  obtain ⟨bp, op, ep, hbp, hcp⟩ := h.a.atI (k := x) (by rw [li_length]; exact hx)
  rw [li_get] at hcp
  obtain ⟨bq, oq, eq, hbq, hcq⟩ := h.b.atI (k := y) (by rw [li_length, inv_length]; exact hy)
  rw [li_get] at hcq
  have q1 := rel_256 ns hr x
  have q2 := inv_256 ns hr y
  subst ep
  subst eq
  generalize hmp : ns.getD x 0 = m at *
  generalize hmq : (inv ns).getD y 0 = r at *
  have e1 := i64_and_nat8 m r q1 q2
  obtain ⟨zz, hzz⟩ : ∃ z, (!decide (m &&& r = 0)) = z := ⟨_, rfl⟩
  have hd : (((m &&& r : Nat) : Int) != 0) = zz := by rw [← hzz, Bool.eq_iff_iff]; simp
  rw [hzz]
  generalize m &&& r = q at *
  clear h hzz hmp hmq
  go_enter Tryz.func128, Tryz.ntmps128
  go_upto_region 1 with fail
  go_quiet (fail)
  go_wp2
  go_ret
  exact ⟨rfl, below_drewN (Below.refl _ _) _⟩
theorem en_hasFlag_914 : ∀ (args : Array Value) (w : World), (callFunc 129 args).run Tryz.prog w = .ok (.enter 129 args) w := enters Tryz.func129 (by kernel_rfl) (by kernel_rfl)
theorem impl_cond_9 (x y z : Nat) (F B : Nat) (ns : List Nat) (A A1 : Option Addr) (c c1 : Nat) (W : World) (h : Bx W F B ns A A1 c c1) (hr : RelN ns) (hx : x < ns.length) (hy : y < ns.length) (hz : z < ns.length) :
    Calls Tryz.prog 129 #[.int .i64 x, .pointer (some ⟨F, 0, none⟩)] W fun e w' => e = .returned (.bool (decide (pc (ns.getD x 0) ≤ 1))) ∧ Below W.heap.size W w' := by
  have h8 := hr.1
  have f0 := h.f0
  have f1 := h.f1
  have fl := h.fl
  obtain ⟨bx, ox, ex, hbx, hcx⟩ := h.a.atI (k := x) (by rw [li_length]; exact hx)
  rw [li_get] at hcx
  subst ex
  have q1 := rel_256 ns hr x
  have HCo := Lib.hid (fun X => impl_countMembers (ns.getD x 0) X q1)
  generalize ns.getD x 0 = m at *
  generalize pc m = p at *
  have hd : decide ((p : Int) ≤ 1) = decide (p ≤ 1) := by rw [Bool.eq_iff_iff]; simp; omega
  generalize decide (p ≤ 1) = zz at *
  clear h
  go_enter Tryz.func129, Tryz.ntmps129
  go_wp2_with fail
  refine (HCo.out _).mono ?_
  rintro e w2 ⟨rfl, rfl⟩
  go_wp2
  go_ret
  exact ⟨rfl, Below.refl _ _⟩
/- hasFlag of the program, in the reference's words. Written by gen14H.py. -/
theorem t3_one (ns : List Nat) (P1 : Nat → Bool) : t3 ns P1 (fun _ _ => true) (fun _ _ _ => true) = (List.range ns.length).all P1 := by
  unfold t3
  congr 1
  funext x
  simp
theorem all_range_congr {n : Nat} {f g : Nat → Bool} (h : ∀ x, x < n → f x = g x) : (List.range n).all f = (List.range n).all g := by
  rw [Bool.eq_iff_iff, List.all_eq_true, List.all_eq_true]
  exact ⟨fun hh x hx => by rw [← h x (List.mem_range.1 hx)]; exact hh x hx, fun hh x hx => by rw [h x (List.mem_range.1 hx)]; exact hh x hx⟩
theorem f4_eq (ns : List Nat) (hr : RelN ns) : t3 ns (fun _ => true) (fun _ _ => true) (fun _ y z => (ns.getD y 0).testBit z) = t3 ns (fun _ => true) (fun x y => decide (andnot (ns.getD x 0) (ns.getD y 0) = 0)) (fun _ _ _ => true) := by
  unfold t3
  refine all_range_congr fun x hx => ?_
  simp only [Bool.true_and]
  refine all_range_congr fun y hy => ?_
  congr 1
  have e : ((List.range ns.length).all fun z => !(ns.getD x 0).testBit z || true) = true := by simp
  rw [e, Bool.and_true, Bool.eq_iff_iff, List.all_eq_true, decide_eq_true_eq, andnot_zero]
  constructor
  · intro h i hi
    have := h i (List.mem_range.2 (bit_lt (getD_lt hr.2 x) hi))
    rw [hi] at this
    simpa using this
  · intro h i _
    cases hb : (ns.getD x 0).testBit i
    · rfl
    · rw [h i hb]; rfl
theorem f9_eq (ns : List Nat) (hr : RelN ns) (p : Nat → Nat → Bool) : t3 ns (fun _ => true) (fun _ _ => true) (fun x y _ => p x y) = t3 ns (fun _ => true) p (fun _ _ _ => true) := by
  unfold t3
  refine all_range_congr fun x hx => ?_
  simp only [Bool.true_and]
  refine all_range_congr fun y hy => ?_
  have e : ((List.range ns.length).all fun z => !(ns.getD x 0).testBit z || true) = true := by simp
  rw [e, Bool.and_true]
  cases hb : (ns.getD x 0).testBit y
  · rfl
  · simp only [Bool.not_true, Bool.false_or]
    cases hp : p x y
    · exact all_no (f := fun z => !(ns.getD x 0).testBit z || false) hy (by simp only [hb]; rfl)
    · simp
theorem f8_eq (ns : List Nat) (hr : RelN ns) : ((List.range ns.length).all fun x => decide (andnot (ns.getD x 0 &&& (inv ns).getD x 0) (2 ^ x) = 0)) = t3 ns (fun _ => true) (fun x y => !(!decide (x = y) && (ns.getD y 0).testBit x)) (fun _ _ _ => true) := by
  unfold t3
  refine all_range_congr fun x hx => ?_
  simp only [Bool.true_and]
  rw [Bool.eq_iff_iff, decide_eq_true_eq, andnot_zero, List.all_eq_true]
  constructor
  · intro h y hy
    have hy' := List.mem_range.1 hy
    have e : ((List.range ns.length).all fun z => !(ns.getD x 0).testBit z || true) = true := by simp
    rw [e, Bool.and_true]
    cases hb : (ns.getD x 0).testBit y
    · rfl
    · cases hc : (ns.getD y 0).testBit x
      · simp
      · have := h y (by rw [Nat.testBit_and, hb, inv_bit ns hx y, decide_eq_true hy', hc]; rfl)
        rw [Nat.testBit_two_pow] at this
        have hxy : x = y := by simpa using this
        simp [hxy]
  · intro h i hi
    rw [Nat.testBit_and, Bool.and_eq_true] at hi
    have hil := bit_lt (getD_lt hr.2 x) hi.1
    have h2 := h i (List.mem_range.2 hil)
    have e : ((List.range ns.length).all fun z => !(ns.getD x 0).testBit z || true) = true := by simp
    rw [e, Bool.and_true, hi.1] at h2
    have h3 := hi.2
    rw [inv_bit ns hx i, decide_eq_true hil, Bool.true_and] at h3
    rw [h3] at h2
    rw [Nat.testBit_two_pow]
    simpa using h2
set_option maxRecDepth 100000 in
theorem impl_hasFlag_014 (ns : List Nat) (v : Value) (w : World) (h : Sl cI w v (li ns)) (hr : RelN ns) :
    Calls Tryz.prog 93 #[.agg #[.int .i64 ns.length, v], .int .i64 0] w fun e w' => e = .returned (.bool (t3 ns (fun x => (ns.getD x 0).testBit x) (fun _ _ => true) (fun _ _ _ => true))) ∧ Below w.heap.size w w' := by
  obtain ⟨A, c, rfl⟩ := h.opn
  have h8 := hr.1
  have EL := Lib.hid (li_length ns)
  rw [EL.out] at h ⊢
  have hb0 := below_alloc' w (.cells #[.int .i64 ns.length, .slice A ns.length c] 31)
  have hk0 := Blk.new w 31 #[.int .i64 ns.length, .slice A ns.length c]
  have hkl := hk0.lt
  have HK := Lib.hid hk0
  have HS := Lib.hid (h.below hb0)
  have HB := Lib.hid hb0
  have HN := Lib.hid hr
  have EC : Hid ((li (inv ns)).length = ns.length) := Lib.hid (by rw [li_length, inv_length])
  have ET : Hid (t3 ns (fun x => (ns.getD x 0).testBit x) (fun _ _ => true) (fun _ _ _ => true) = (List.range ns.length).all (fun x => (ns.getD x 0).testBit x)) := Lib.hid (t3_one ns _)
  obtain ⟨RES, hRES⟩ : ∃ R, ((List.range ns.length).all (fun x => (ns.getD x 0).testBit x)) = R := ⟨_, rfl⟩
  rw [ET.out, hRES]
  have HRES := Lib.hid hRES
  clear h hb0 hk0 hr ET hRES
  go_enter Tryz.func93, Tryz.ntmps93
  go_wp2_with fail
  refine (impl_inverse_in _ ns _ HS.out HN.out).mono ?_
  rintro e w1 ⟨u1, rfl, ho, hb⟩
  obtain ⟨A1, c1, rfl⟩ := ho.opn
  rw [EC.out] at ho ⊢
  have HS1 := Lib.hid (HS.out.below hb)
  have HK1 := Lib.hid (HK.out.below hb hkl)
  have HB1 := Lib.hid (HB.out.trans (hb.mono HB.out.size))
  have HO1 := Lib.hid ho.sl
  clear hb ho
  go_upto_region 2 with fail
  have hb2 := below_alloc' w1 (.cells #[.slice A1 ns.length c1] 22)
  have hk2 := HK1.out.below hb2 HK1.out.lt
  have hk3 := Blk.new w1 22 #[.slice A1 ns.length c1]
  have HB2 := Lib.hid (bthen HB1.out hb2)
  have HBx : Hid (Bx (w1.alloc (.cells #[.slice A1 ns.length c1] 22)) w.heap.size w1.heap.size ns A A1 c c1) := Lib.hid ⟨hk2.cell 0, hk2.cell 1, hk2.lt, hk3.cell 0, hk3.lt, HS1.out.below hb2, HO1.out.below hb2⟩
  clear hb2 HS1 HK1 HB1 HO1 hk2 hk3
  generalize w1.alloc (.cells #[.slice A1 ns.length c1] 22) = W at *
  have d0 := HBx.out.f0
  have d1 := HBx.out.f1
  have hlt := HBx.out.fl
  have HW := Lib.hid (impl_everyWorld ns.length (.slice A ns.length c) A ns.length c rfl 119 #[.pointer (some ⟨w.heap.size, 0, none⟩)] (fun x => (ns.getD x 0).testBit x) W h8 en_hasFlag_114 (fun w' hw' i hi => by
    rw [show (#[Value.int .i64 (i : Int)] ++ #[.pointer (some ⟨w.heap.size, 0, none⟩)] : Array Value) = #[.int .i64 i, .pointer (some ⟨w.heap.size, 0, none⟩)] from rfl]
    exact impl_cond_1 i i i w.heap.size w1.heap.size ns A A1 c c1 w' (HBx.out.below hw') HN.out hi hi hi))
  rw [HRES.out] at HW
  go_wp2_with fail
  refine HW.out.mono ?_
  rintro e w4 ⟨rfl, hb⟩
  have HB6 := Lib.hid (bthen HB2.out hb)
  clear hb d0 d1
  go_wp2
  go_ret
  exact ⟨rfl, HB6.out⟩
set_option maxRecDepth 100000 in
theorem impl_hasFlag_114 (ns : List Nat) (v : Value) (w : World) (h : Sl cI w v (li ns)) (hr : RelN ns) :
    Calls Tryz.prog 93 #[.agg #[.int .i64 ns.length, v], .int .i64 1] w fun e w' => e = .returned (.bool (t3 ns (fun x => !decide (ns.getD x 0 = 0)) (fun _ _ => true) (fun _ _ _ => true))) ∧ Below w.heap.size w w' := by
  obtain ⟨A, c, rfl⟩ := h.opn
  have h8 := hr.1
  have EL := Lib.hid (li_length ns)
  rw [EL.out] at h ⊢
  have hb0 := below_alloc' w (.cells #[.int .i64 ns.length, .slice A ns.length c] 31)
  have hk0 := Blk.new w 31 #[.int .i64 ns.length, .slice A ns.length c]
  have hkl := hk0.lt
  have HK := Lib.hid hk0
  have HS := Lib.hid (h.below hb0)
  have HB := Lib.hid hb0
  have HN := Lib.hid hr
  have EC : Hid ((li (inv ns)).length = ns.length) := Lib.hid (by rw [li_length, inv_length])
  have ET : Hid (t3 ns (fun x => !decide (ns.getD x 0 = 0)) (fun _ _ => true) (fun _ _ _ => true) = (List.range ns.length).all (fun x => !decide (ns.getD x 0 = 0))) := Lib.hid (t3_one ns _)
  obtain ⟨RES, hRES⟩ : ∃ R, ((List.range ns.length).all (fun x => !decide (ns.getD x 0 = 0))) = R := ⟨_, rfl⟩
  rw [ET.out, hRES]
  have HRES := Lib.hid hRES
  clear h hb0 hk0 hr ET hRES
  go_enter Tryz.func93, Tryz.ntmps93
  go_wp2_with fail
  refine (impl_inverse_in _ ns _ HS.out HN.out).mono ?_
  rintro e w1 ⟨u1, rfl, ho, hb⟩
  obtain ⟨A1, c1, rfl⟩ := ho.opn
  rw [EC.out] at ho ⊢
  have HS1 := Lib.hid (HS.out.below hb)
  have HK1 := Lib.hid (HK.out.below hb hkl)
  have HB1 := Lib.hid (HB.out.trans (hb.mono HB.out.size))
  have HO1 := Lib.hid ho.sl
  clear hb ho
  go_upto_region 2 with fail
  have hb2 := below_alloc' w1 (.cells #[.slice A1 ns.length c1] 22)
  have hk2 := HK1.out.below hb2 HK1.out.lt
  have hk3 := Blk.new w1 22 #[.slice A1 ns.length c1]
  have HB2 := Lib.hid (bthen HB1.out hb2)
  have HBx : Hid (Bx (w1.alloc (.cells #[.slice A1 ns.length c1] 22)) w.heap.size w1.heap.size ns A A1 c c1) := Lib.hid ⟨hk2.cell 0, hk2.cell 1, hk2.lt, hk3.cell 0, hk3.lt, HS1.out.below hb2, HO1.out.below hb2⟩
  clear hb2 HS1 HK1 HB1 HO1 hk2 hk3
  generalize w1.alloc (.cells #[.slice A1 ns.length c1] 22) = W at *
  have d0 := HBx.out.f0
  have d1 := HBx.out.f1
  have hlt := HBx.out.fl
  have HW := Lib.hid (impl_everyWorld ns.length (.slice A ns.length c) A ns.length c rfl 120 #[.pointer (some ⟨w.heap.size, 0, none⟩)] (fun x => !decide (ns.getD x 0 = 0)) W h8 en_hasFlag_214 (fun w' hw' i hi => by
    rw [show (#[Value.int .i64 (i : Int)] ++ #[.pointer (some ⟨w.heap.size, 0, none⟩)] : Array Value) = #[.int .i64 i, .pointer (some ⟨w.heap.size, 0, none⟩)] from rfl]
    exact impl_cond_2 i i i w.heap.size w1.heap.size ns A A1 c c1 w' (HBx.out.below hw') HN.out hi hi hi))
  rw [HRES.out] at HW
  go_wp2_with fail
  refine HW.out.mono ?_
  rintro e w4 ⟨rfl, hb⟩
  have HB6 := Lib.hid (bthen HB2.out hb)
  clear hb d0 d1
  go_wp2
  go_ret
  exact ⟨rfl, HB6.out⟩
set_option maxRecDepth 100000 in
theorem impl_hasFlag_414 (ns : List Nat) (v : Value) (w : World) (h : Sl cI w v (li ns)) (hr : RelN ns) :
    Calls Tryz.prog 93 #[.agg #[.int .i64 ns.length, v], .int .i64 4] w fun e w' => e = .returned (.bool (t3 ns (fun _ => true) (fun x y => decide (andnot (ns.getD x 0) (ns.getD y 0) = 0)) (fun _ _ _ => true))) ∧ Below w.heap.size w w' := by
  obtain ⟨A, c, rfl⟩ := h.opn
  have h8 := hr.1
  have EL := Lib.hid (li_length ns)
  rw [EL.out] at h ⊢
  have hb0 := below_alloc' w (.cells #[.int .i64 ns.length, .slice A ns.length c] 31)
  have hk0 := Blk.new w 31 #[.int .i64 ns.length, .slice A ns.length c]
  have hkl := hk0.lt
  have HK := Lib.hid hk0
  have HS := Lib.hid (h.below hb0)
  have HB := Lib.hid hb0
  have HN := Lib.hid hr
  have EC : Hid ((li (inv ns)).length = ns.length) := Lib.hid (by rw [li_length, inv_length])
  have ET : Hid (t3 ns (fun _ => true) (fun x y => decide (andnot (ns.getD x 0) (ns.getD y 0) = 0)) (fun _ _ _ => true) = t3 ns (fun _ => true) (fun _ _ => true) (fun _ y z => (ns.getD y 0).testBit z)) := Lib.hid ((f4_eq ns hr).symm)
  obtain ⟨RES, hRES⟩ : ∃ R, (t3 ns (fun _ => true) (fun _ _ => true) (fun _ y z => (ns.getD y 0).testBit z)) = R := ⟨_, rfl⟩
  rw [ET.out, hRES]
  have HRES := Lib.hid hRES
  clear h hb0 hk0 hr ET hRES
  go_enter Tryz.func93, Tryz.ntmps93
  go_wp2_with fail
  refine (impl_inverse_in _ ns _ HS.out HN.out).mono ?_
  rintro e w1 ⟨u1, rfl, ho, hb⟩
  obtain ⟨A1, c1, rfl⟩ := ho.opn
  rw [EC.out] at ho ⊢
  have HS1 := Lib.hid (HS.out.below hb)
  have HK1 := Lib.hid (HK.out.below hb hkl)
  have HB1 := Lib.hid (HB.out.trans (hb.mono HB.out.size))
  have HO1 := Lib.hid ho.sl
  clear hb ho
  go_upto_region 2 with fail
  have hb2 := below_alloc' w1 (.cells #[.slice A1 ns.length c1] 22)
  have hk2 := HK1.out.below hb2 HK1.out.lt
  have hk3 := Blk.new w1 22 #[.slice A1 ns.length c1]
  have HB2 := Lib.hid (bthen HB1.out hb2)
  have HBx : Hid (Bx (w1.alloc (.cells #[.slice A1 ns.length c1] 22)) w.heap.size w1.heap.size ns A A1 c c1) := Lib.hid ⟨hk2.cell 0, hk2.cell 1, hk2.lt, hk3.cell 0, hk3.lt, HS1.out.below hb2, HO1.out.below hb2⟩
  clear hb2 HS1 HK1 HB1 HO1 hk2 hk3
  generalize w1.alloc (.cells #[.slice A1 ns.length c1] 22) = W at *
  have d0 := HBx.out.f0
  have d1 := HBx.out.f1
  have hlt := HBx.out.fl
  have HW := Lib.hid (impl_everyPair ns A c 123 #[.pointer (some ⟨w.heap.size, 0, none⟩)] (fun _ y z => (ns.getD y 0).testBit z) W HBx.out.a HN.out en_hasFlag_314 (fun w' hw' x y z hx hy hz => by
    rw [show (#[Value.int .i64 (x : Int), .int .i64 (y : Int), .int .i64 (z : Int)] ++ #[.pointer (some ⟨w.heap.size, 0, none⟩)] : Array Value) = #[.int .i64 x, .int .i64 y, .int .i64 z, .pointer (some ⟨w.heap.size, 0, none⟩)] from rfl]
    exact impl_cond_3 x y z w.heap.size w1.heap.size ns A A1 c c1 w' (HBx.out.below hw') HN.out hx hy hz))
  rw [HRES.out] at HW
  go_wp2_with fail
  refine HW.out.mono ?_
  rintro e w4 ⟨rfl, hb⟩
  have HB6 := Lib.hid (bthen HB2.out hb)
  clear hb d0 d1
  go_wp2
  go_ret
  exact ⟨rfl, HB6.out⟩
set_option maxRecDepth 100000 in
theorem impl_hasFlag_514 (ns : List Nat) (v : Value) (w : World) (h : Sl cI w v (li ns)) (hr : RelN ns) :
    Calls Tryz.prog 93 #[.agg #[.int .i64 ns.length, v], .int .i64 5] w fun e w' => e = .returned (.bool (t3 ns (fun _ => true) (fun _ _ => true) (fun _ y z => !decide (ns.getD y 0 &&& ns.getD z 0 = 0)))) ∧ Below w.heap.size w w' := by
  obtain ⟨A, c, rfl⟩ := h.opn
  have h8 := hr.1
  have EL := Lib.hid (li_length ns)
  rw [EL.out] at h ⊢
  have hb0 := below_alloc' w (.cells #[.int .i64 ns.length, .slice A ns.length c] 31)
  have hk0 := Blk.new w 31 #[.int .i64 ns.length, .slice A ns.length c]
  have hkl := hk0.lt
  have HK := Lib.hid hk0
  have HS := Lib.hid (h.below hb0)
  have HB := Lib.hid hb0
  have HN := Lib.hid hr
  have EC : Hid ((li (inv ns)).length = ns.length) := Lib.hid (by rw [li_length, inv_length])
  have ET : Hid (t3 ns (fun _ => true) (fun _ _ => true) (fun _ y z => !decide (ns.getD y 0 &&& ns.getD z 0 = 0)) = t3 ns (fun _ => true) (fun _ _ => true) (fun _ y z => !decide (ns.getD y 0 &&& ns.getD z 0 = 0))) := Lib.hid (rfl)
  obtain ⟨RES, hRES⟩ : ∃ R, (t3 ns (fun _ => true) (fun _ _ => true) (fun _ y z => !decide (ns.getD y 0 &&& ns.getD z 0 = 0))) = R := ⟨_, rfl⟩
  rw [ET.out, hRES]
  have HRES := Lib.hid hRES
  clear h hb0 hk0 hr ET hRES
  go_enter Tryz.func93, Tryz.ntmps93
  go_wp2_with fail
  refine (impl_inverse_in _ ns _ HS.out HN.out).mono ?_
  rintro e w1 ⟨u1, rfl, ho, hb⟩
  obtain ⟨A1, c1, rfl⟩ := ho.opn
  rw [EC.out] at ho ⊢
  have HS1 := Lib.hid (HS.out.below hb)
  have HK1 := Lib.hid (HK.out.below hb hkl)
  have HB1 := Lib.hid (HB.out.trans (hb.mono HB.out.size))
  have HO1 := Lib.hid ho.sl
  clear hb ho
  go_upto_region 2 with fail
  have hb2 := below_alloc' w1 (.cells #[.slice A1 ns.length c1] 22)
  have hk2 := HK1.out.below hb2 HK1.out.lt
  have hk3 := Blk.new w1 22 #[.slice A1 ns.length c1]
  have HB2 := Lib.hid (bthen HB1.out hb2)
  have HBx : Hid (Bx (w1.alloc (.cells #[.slice A1 ns.length c1] 22)) w.heap.size w1.heap.size ns A A1 c c1) := Lib.hid ⟨hk2.cell 0, hk2.cell 1, hk2.lt, hk3.cell 0, hk3.lt, HS1.out.below hb2, HO1.out.below hb2⟩
  clear hb2 HS1 HK1 HB1 HO1 hk2 hk3
  generalize w1.alloc (.cells #[.slice A1 ns.length c1] 22) = W at *
  have d0 := HBx.out.f0
  have d1 := HBx.out.f1
  have hlt := HBx.out.fl
  have HW := Lib.hid (impl_everyPair ns A c 124 #[.pointer (some ⟨w.heap.size, 0, none⟩)] (fun _ y z => !decide (ns.getD y 0 &&& ns.getD z 0 = 0)) W HBx.out.a HN.out en_hasFlag_414 (fun w' hw' x y z hx hy hz => by
    rw [show (#[Value.int .i64 (x : Int), .int .i64 (y : Int), .int .i64 (z : Int)] ++ #[.pointer (some ⟨w.heap.size, 0, none⟩)] : Array Value) = #[.int .i64 x, .int .i64 y, .int .i64 z, .pointer (some ⟨w.heap.size, 0, none⟩)] from rfl]
    exact impl_cond_4 x y z w.heap.size w1.heap.size ns A A1 c c1 w' (HBx.out.below hw') HN.out hx hy hz))
  rw [HRES.out] at HW
  go_wp2_with fail
  refine HW.out.mono ?_
  rintro e w4 ⟨rfl, hb⟩
  have HB6 := Lib.hid (bthen HB2.out hb)
  clear hb d0 d1
  go_wp2
  go_ret
  exact ⟨rfl, HB6.out⟩
set_option maxRecDepth 100000 in
theorem impl_hasFlag_614 (ns : List Nat) (v : Value) (w : World) (h : Sl cI w v (li ns)) (hr : RelN ns) :
    Calls Tryz.prog 93 #[.agg #[.int .i64 ns.length, v], .int .i64 6] w fun e w' => e = .returned (.bool (t3 ns (fun _ => true) (fun _ _ => true) (fun _ y z => (ns.getD y 0).testBit z || (ns.getD z 0).testBit y))) ∧ Below w.heap.size w w' := by
  obtain ⟨A, c, rfl⟩ := h.opn
  have h8 := hr.1
  have EL := Lib.hid (li_length ns)
  rw [EL.out] at h ⊢
  have hb0 := below_alloc' w (.cells #[.int .i64 ns.length, .slice A ns.length c] 31)
  have hk0 := Blk.new w 31 #[.int .i64 ns.length, .slice A ns.length c]
  have hkl := hk0.lt
  have HK := Lib.hid hk0
  have HS := Lib.hid (h.below hb0)
  have HB := Lib.hid hb0
  have HN := Lib.hid hr
  have EC : Hid ((li (inv ns)).length = ns.length) := Lib.hid (by rw [li_length, inv_length])
  have ET : Hid (t3 ns (fun _ => true) (fun _ _ => true) (fun _ y z => (ns.getD y 0).testBit z || (ns.getD z 0).testBit y) = t3 ns (fun _ => true) (fun _ _ => true) (fun _ y z => (ns.getD y 0).testBit z || (ns.getD z 0).testBit y)) := Lib.hid (rfl)
  obtain ⟨RES, hRES⟩ : ∃ R, (t3 ns (fun _ => true) (fun _ _ => true) (fun _ y z => (ns.getD y 0).testBit z || (ns.getD z 0).testBit y)) = R := ⟨_, rfl⟩
  rw [ET.out, hRES]
  have HRES := Lib.hid hRES
  clear h hb0 hk0 hr ET hRES
  go_enter Tryz.func93, Tryz.ntmps93
  go_wp2_with fail
  refine (impl_inverse_in _ ns _ HS.out HN.out).mono ?_
  rintro e w1 ⟨u1, rfl, ho, hb⟩
  obtain ⟨A1, c1, rfl⟩ := ho.opn
  rw [EC.out] at ho ⊢
  have HS1 := Lib.hid (HS.out.below hb)
  have HK1 := Lib.hid (HK.out.below hb hkl)
  have HB1 := Lib.hid (HB.out.trans (hb.mono HB.out.size))
  have HO1 := Lib.hid ho.sl
  clear hb ho
  go_upto_region 2 with fail
  have hb2 := below_alloc' w1 (.cells #[.slice A1 ns.length c1] 22)
  have hk2 := HK1.out.below hb2 HK1.out.lt
  have hk3 := Blk.new w1 22 #[.slice A1 ns.length c1]
  have HB2 := Lib.hid (bthen HB1.out hb2)
  have HBx : Hid (Bx (w1.alloc (.cells #[.slice A1 ns.length c1] 22)) w.heap.size w1.heap.size ns A A1 c c1) := Lib.hid ⟨hk2.cell 0, hk2.cell 1, hk2.lt, hk3.cell 0, hk3.lt, HS1.out.below hb2, HO1.out.below hb2⟩
  clear hb2 HS1 HK1 HB1 HO1 hk2 hk3
  generalize w1.alloc (.cells #[.slice A1 ns.length c1] 22) = W at *
  have d0 := HBx.out.f0
  have d1 := HBx.out.f1
  have hlt := HBx.out.fl
  have HW := Lib.hid (impl_everyPair ns A c 125 #[.pointer (some ⟨w.heap.size, 0, none⟩)] (fun _ y z => (ns.getD y 0).testBit z || (ns.getD z 0).testBit y) W HBx.out.a HN.out en_hasFlag_514 (fun w' hw' x y z hx hy hz => by
    rw [show (#[Value.int .i64 (x : Int), .int .i64 (y : Int), .int .i64 (z : Int)] ++ #[.pointer (some ⟨w.heap.size, 0, none⟩)] : Array Value) = #[.int .i64 x, .int .i64 y, .int .i64 z, .pointer (some ⟨w.heap.size, 0, none⟩)] from rfl]
    exact impl_cond_5 x y z w.heap.size w1.heap.size ns A A1 c c1 w' (HBx.out.below hw') HN.out hx hy hz))
  rw [HRES.out] at HW
  go_wp2_with fail
  refine HW.out.mono ?_
  rintro e w4 ⟨rfl, hb⟩
  have HB6 := Lib.hid (bthen HB2.out hb)
  clear hb d0 d1
  go_wp2
  go_ret
  exact ⟨rfl, HB6.out⟩
set_option maxRecDepth 100000 in
theorem impl_hasFlag_814 (ns : List Nat) (v : Value) (w : World) (h : Sl cI w v (li ns)) (hr : RelN ns) :
    Calls Tryz.prog 93 #[.agg #[.int .i64 ns.length, v], .int .i64 8] w fun e w' => e = .returned (.bool (t3 ns (fun _ => true) (fun x y => !(!decide (x = y) && (ns.getD y 0).testBit x)) (fun _ _ _ => true))) ∧ Below w.heap.size w w' := by
  obtain ⟨A, c, rfl⟩ := h.opn
  have h8 := hr.1
  have EL := Lib.hid (li_length ns)
  rw [EL.out] at h ⊢
  have hb0 := below_alloc' w (.cells #[.int .i64 ns.length, .slice A ns.length c] 31)
  have hk0 := Blk.new w 31 #[.int .i64 ns.length, .slice A ns.length c]
  have hkl := hk0.lt
  have HK := Lib.hid hk0
  have HS := Lib.hid (h.below hb0)
  have HB := Lib.hid hb0
  have HN := Lib.hid hr
  have EC : Hid ((li (inv ns)).length = ns.length) := Lib.hid (by rw [li_length, inv_length])
  have ET : Hid (t3 ns (fun _ => true) (fun x y => !(!decide (x = y) && (ns.getD y 0).testBit x)) (fun _ _ _ => true) = (List.range ns.length).all (fun x => decide (andnot (ns.getD x 0 &&& (inv ns).getD x 0) (2 ^ x) = 0))) := Lib.hid ((f8_eq ns hr).symm)
  obtain ⟨RES, hRES⟩ : ∃ R, ((List.range ns.length).all (fun x => decide (andnot (ns.getD x 0 &&& (inv ns).getD x 0) (2 ^ x) = 0))) = R := ⟨_, rfl⟩
  rw [ET.out, hRES]
  have HRES := Lib.hid hRES
  clear h hb0 hk0 hr ET hRES
  go_enter Tryz.func93, Tryz.ntmps93
  go_wp2_with fail
  refine (impl_inverse_in _ ns _ HS.out HN.out).mono ?_
  rintro e w1 ⟨u1, rfl, ho, hb⟩
  obtain ⟨A1, c1, rfl⟩ := ho.opn
  rw [EC.out] at ho ⊢
  have HS1 := Lib.hid (HS.out.below hb)
  have HK1 := Lib.hid (HK.out.below hb hkl)
  have HB1 := Lib.hid (HB.out.trans (hb.mono HB.out.size))
  have HO1 := Lib.hid ho.sl
  clear hb ho
  go_upto_region 2 with fail
  have hb2 := below_alloc' w1 (.cells #[.slice A1 ns.length c1] 22)
  have hk2 := HK1.out.below hb2 HK1.out.lt
  have hk3 := Blk.new w1 22 #[.slice A1 ns.length c1]
  have HB2 := Lib.hid (bthen HB1.out hb2)
  have HBx : Hid (Bx (w1.alloc (.cells #[.slice A1 ns.length c1] 22)) w.heap.size w1.heap.size ns A A1 c c1) := Lib.hid ⟨hk2.cell 0, hk2.cell 1, hk2.lt, hk3.cell 0, hk3.lt, HS1.out.below hb2, HO1.out.below hb2⟩
  clear hb2 HS1 HK1 HB1 HO1 hk2 hk3
  generalize w1.alloc (.cells #[.slice A1 ns.length c1] 22) = W at *
  have d0 := HBx.out.f0
  have d1 := HBx.out.f1
  have hlt := HBx.out.fl
  have HW := Lib.hid (impl_everyWorld ns.length (.slice A ns.length c) A ns.length c rfl 127 #[.pointer (some ⟨w.heap.size, 0, none⟩), .pointer (some ⟨w1.heap.size, 0, none⟩)] (fun x => decide (andnot (ns.getD x 0 &&& (inv ns).getD x 0) (2 ^ x) = 0)) W h8 en_hasFlag_714 (fun w' hw' i hi => by
    rw [show (#[Value.int .i64 (i : Int)] ++ #[.pointer (some ⟨w.heap.size, 0, none⟩), .pointer (some ⟨w1.heap.size, 0, none⟩)] : Array Value) = #[.int .i64 i, .pointer (some ⟨w.heap.size, 0, none⟩), .pointer (some ⟨w1.heap.size, 0, none⟩)] from rfl]
    exact impl_cond_7 i i i w.heap.size w1.heap.size ns A A1 c c1 w' (HBx.out.below hw') HN.out hi hi hi))
  rw [HRES.out] at HW
  go_wp2_with fail
  refine HW.out.mono ?_
  rintro e w4 ⟨rfl, hb⟩
  have HB6 := Lib.hid (bthen HB2.out hb)
  clear hb d0 d1
  go_wp2
  go_ret
  exact ⟨rfl, HB6.out⟩
set_option maxRecDepth 100000 in
theorem impl_hasFlag_914 (ns : List Nat) (v : Value) (w : World) (h : Sl cI w v (li ns)) (hr : RelN ns) :
    Calls Tryz.prog 93 #[.agg #[.int .i64 ns.length, v], .int .i64 9] w fun e w' => e = .returned (.bool (t3 ns (fun _ => true) (fun x y => !decide (ns.getD x 0 &&& (inv ns).getD y 0 = 0)) (fun _ _ _ => true))) ∧ Below w.heap.size w w' := by
  obtain ⟨A, c, rfl⟩ := h.opn
  have h8 := hr.1
  have EL := Lib.hid (li_length ns)
  rw [EL.out] at h ⊢
  have hb0 := below_alloc' w (.cells #[.int .i64 ns.length, .slice A ns.length c] 31)
  have hk0 := Blk.new w 31 #[.int .i64 ns.length, .slice A ns.length c]
  have hkl := hk0.lt
  have HK := Lib.hid hk0
  have HS := Lib.hid (h.below hb0)
  have HB := Lib.hid hb0
  have HN := Lib.hid hr
  have EC : Hid ((li (inv ns)).length = ns.length) := Lib.hid (by rw [li_length, inv_length])
  have ET : Hid (t3 ns (fun _ => true) (fun x y => !decide (ns.getD x 0 &&& (inv ns).getD y 0 = 0)) (fun _ _ _ => true) = t3 ns (fun _ => true) (fun _ _ => true) (fun x y _ => !decide (ns.getD x 0 &&& (inv ns).getD y 0 = 0))) := Lib.hid ((f9_eq ns hr fun x y => !decide (ns.getD x 0 &&& (inv ns).getD y 0 = 0)).symm)
  obtain ⟨RES, hRES⟩ : ∃ R, (t3 ns (fun _ => true) (fun _ _ => true) (fun x y _ => !decide (ns.getD x 0 &&& (inv ns).getD y 0 = 0))) = R := ⟨_, rfl⟩
  rw [ET.out, hRES]
  have HRES := Lib.hid hRES
  clear h hb0 hk0 hr ET hRES
  go_enter Tryz.func93, Tryz.ntmps93
  go_wp2_with fail
  refine (impl_inverse_in _ ns _ HS.out HN.out).mono ?_
  rintro e w1 ⟨u1, rfl, ho, hb⟩
  obtain ⟨A1, c1, rfl⟩ := ho.opn
  rw [EC.out] at ho ⊢
  have HS1 := Lib.hid (HS.out.below hb)
  have HK1 := Lib.hid (HK.out.below hb hkl)
  have HB1 := Lib.hid (HB.out.trans (hb.mono HB.out.size))
  have HO1 := Lib.hid ho.sl
  clear hb ho
  go_upto_region 2 with fail
  have hb2 := below_alloc' w1 (.cells #[.slice A1 ns.length c1] 22)
  have hk2 := HK1.out.below hb2 HK1.out.lt
  have hk3 := Blk.new w1 22 #[.slice A1 ns.length c1]
  have HB2 := Lib.hid (bthen HB1.out hb2)
  have HBx : Hid (Bx (w1.alloc (.cells #[.slice A1 ns.length c1] 22)) w.heap.size w1.heap.size ns A A1 c c1) := Lib.hid ⟨hk2.cell 0, hk2.cell 1, hk2.lt, hk3.cell 0, hk3.lt, HS1.out.below hb2, HO1.out.below hb2⟩
  clear hb2 HS1 HK1 HB1 HO1 hk2 hk3
  generalize w1.alloc (.cells #[.slice A1 ns.length c1] 22) = W at *
  have d0 := HBx.out.f0
  have d1 := HBx.out.f1
  have hlt := HBx.out.fl
  have HW := Lib.hid (impl_everyPair ns A c 128 #[.pointer (some ⟨w.heap.size, 0, none⟩), .pointer (some ⟨w1.heap.size, 0, none⟩)] (fun x y _ => !decide (ns.getD x 0 &&& (inv ns).getD y 0 = 0)) W HBx.out.a HN.out en_hasFlag_814 (fun w' hw' x y z hx hy hz => by
    rw [show (#[Value.int .i64 (x : Int), .int .i64 (y : Int), .int .i64 (z : Int)] ++ #[.pointer (some ⟨w.heap.size, 0, none⟩), .pointer (some ⟨w1.heap.size, 0, none⟩)] : Array Value) = #[.int .i64 x, .int .i64 y, .int .i64 z, .pointer (some ⟨w.heap.size, 0, none⟩), .pointer (some ⟨w1.heap.size, 0, none⟩)] from rfl]
    exact impl_cond_8 x y z w.heap.size w1.heap.size ns A A1 c c1 w' (HBx.out.below hw') HN.out hx hy hz))
  rw [HRES.out] at HW
  go_wp2_with fail
  refine HW.out.mono ?_
  rintro e w4 ⟨rfl, hb⟩
  have HB6 := Lib.hid (bthen HB2.out hb)
  clear hb d0 d1
  go_wp2
  go_ret
  exact ⟨rfl, HB6.out⟩
set_option maxRecDepth 100000 in
theorem impl_hasFlag_1014 (ns : List Nat) (v : Value) (w : World) (h : Sl cI w v (li ns)) (hr : RelN ns) :
    Calls Tryz.prog 93 #[.agg #[.int .i64 ns.length, v], .int .i64 10] w fun e w' => e = .returned (.bool (t3 ns (fun x => decide (pc (ns.getD x 0) ≤ 1)) (fun _ _ => true) (fun _ _ _ => true))) ∧ Below w.heap.size w w' := by
  obtain ⟨A, c, rfl⟩ := h.opn
  have h8 := hr.1
  have EL := Lib.hid (li_length ns)
  rw [EL.out] at h ⊢
  have hb0 := below_alloc' w (.cells #[.int .i64 ns.length, .slice A ns.length c] 31)
  have hk0 := Blk.new w 31 #[.int .i64 ns.length, .slice A ns.length c]
  have hkl := hk0.lt
  have HK := Lib.hid hk0
  have HS := Lib.hid (h.below hb0)
  have HB := Lib.hid hb0
  have HN := Lib.hid hr
  have EC : Hid ((li (inv ns)).length = ns.length) := Lib.hid (by rw [li_length, inv_length])
  have ET : Hid (t3 ns (fun x => decide (pc (ns.getD x 0) ≤ 1)) (fun _ _ => true) (fun _ _ _ => true) = (List.range ns.length).all (fun x => decide (pc (ns.getD x 0) ≤ 1))) := Lib.hid (t3_one ns _)
  obtain ⟨RES, hRES⟩ : ∃ R, ((List.range ns.length).all (fun x => decide (pc (ns.getD x 0) ≤ 1))) = R := ⟨_, rfl⟩
  rw [ET.out, hRES]
  have HRES := Lib.hid hRES
  clear h hb0 hk0 hr ET hRES
  go_enter Tryz.func93, Tryz.ntmps93
  go_wp2_with fail
  refine (impl_inverse_in _ ns _ HS.out HN.out).mono ?_
  rintro e w1 ⟨u1, rfl, ho, hb⟩
  obtain ⟨A1, c1, rfl⟩ := ho.opn
  rw [EC.out] at ho ⊢
  have HS1 := Lib.hid (HS.out.below hb)
  have HK1 := Lib.hid (HK.out.below hb hkl)
  have HB1 := Lib.hid (HB.out.trans (hb.mono HB.out.size))
  have HO1 := Lib.hid ho.sl
  clear hb ho
  go_upto_region 2 with fail
  have hb2 := below_alloc' w1 (.cells #[.slice A1 ns.length c1] 22)
  have hk2 := HK1.out.below hb2 HK1.out.lt
  have hk3 := Blk.new w1 22 #[.slice A1 ns.length c1]
  have HB2 := Lib.hid (bthen HB1.out hb2)
  have HBx : Hid (Bx (w1.alloc (.cells #[.slice A1 ns.length c1] 22)) w.heap.size w1.heap.size ns A A1 c c1) := Lib.hid ⟨hk2.cell 0, hk2.cell 1, hk2.lt, hk3.cell 0, hk3.lt, HS1.out.below hb2, HO1.out.below hb2⟩
  clear hb2 HS1 HK1 HB1 HO1 hk2 hk3
  generalize w1.alloc (.cells #[.slice A1 ns.length c1] 22) = W at *
  have d0 := HBx.out.f0
  have d1 := HBx.out.f1
  have hlt := HBx.out.fl
  have HW := Lib.hid (impl_everyWorld ns.length (.slice A ns.length c) A ns.length c rfl 129 #[.pointer (some ⟨w.heap.size, 0, none⟩)] (fun x => decide (pc (ns.getD x 0) ≤ 1)) W h8 en_hasFlag_914 (fun w' hw' i hi => by
    rw [show (#[Value.int .i64 (i : Int)] ++ #[.pointer (some ⟨w.heap.size, 0, none⟩)] : Array Value) = #[.int .i64 i, .pointer (some ⟨w.heap.size, 0, none⟩)] from rfl]
    exact impl_cond_9 i i i w.heap.size w1.heap.size ns A A1 c c1 w' (HBx.out.below hw') HN.out hi hi hi))
  rw [HRES.out] at HW
  go_wp2_with fail
  refine HW.out.mono ?_
  rintro e w4 ⟨rfl, hb⟩
  have HB6 := Lib.hid (bthen HB2.out hb)
  clear hb d0 d1
  go_wp2
  go_ret
  exact ⟨rfl, HB6.out⟩
/- All flags of a frame in one function, of both sides; flagsOf. -/
/-- a frame's flag -/
def flg (ns : List Nat) : Nat → Bool
  | 0 => t3 ns (fun x => (ns.getD x 0).testBit x) (fun _ _ => true) (fun _ _ _ => true)
  | 1 => t3 ns (fun x => !decide (ns.getD x 0 = 0)) (fun _ _ => true) (fun _ _ _ => true)
  | 2 => trv ns
  | 3 => sym ns
  | 4 => t3 ns (fun _ => true) (fun x y => decide (andnot (ns.getD x 0) (ns.getD y 0) = 0)) (fun _ _ _ => true)
  | 5 => t3 ns (fun _ => true) (fun _ _ => true) (fun _ y z => !decide (ns.getD y 0 &&& ns.getD z 0 = 0))
  | 6 => t3 ns (fun _ => true) (fun _ _ => true) (fun _ y z => (ns.getD y 0).testBit z || (ns.getD z 0).testBit y)
  | 7 => acy ns
  | 8 => t3 ns (fun _ => true) (fun x y => !(!decide (x = y) && (ns.getD y 0).testBit x)) (fun _ _ _ => true)
  | 9 => t3 ns (fun _ => true) (fun x y => !decide (ns.getD x 0 &&& (inv ns).getD y 0 = 0)) (fun _ _ _ => true)
  | _ => t3 ns (fun x => decide (pc (ns.getD x 0) ≤ 1)) (fun _ _ => true) (fun _ _ _ => true)
theorem impl_hasFlag_all (ns : List Nat) (k : Nat) (hk : k < 11) (v : Value) (w : World) (h : Sl cI w v (li ns)) (hr : RelN ns) :
    Calls Tryz.prog 93 #[.agg #[.int .i64 ns.length, v], .int .i64 k] w fun e w' => e = .returned (.bool (flg ns k)) ∧ Below w.heap.size w w' := by
  match k, hk with
  | 0, _ => exact impl_hasFlag_014 ns v w h hr
  | 1, _ => exact impl_hasFlag_114 ns v w h hr
  | 2, _ => exact impl_hasFlag_2 ns v w h hr
  | 3, _ => exact impl_hasFlag_3 ns v w h hr
  | 4, _ => exact impl_hasFlag_414 ns v w h hr
  | 5, _ => exact impl_hasFlag_514 ns v w h hr
  | 6, _ => exact impl_hasFlag_614 ns v w h hr
  | 7, _ => exact impl_hasFlag_7 ns v w h hr
  | 8, _ => exact impl_hasFlag_814 ns v w h hr
  | 9, _ => exact impl_hasFlag_914 ns v w h hr
  | 10, _ => exact impl_hasFlag_1014 ns v w h hr
theorem spec_l05Flag_all (ns : List Nat) (k : Nat) (hk : k < 11) (v : Value) (w : World) (h : Sl cI w v (li ns)) (hr : RelN ns) :
    Calls Tryz.prog 55 #[.agg #[.int .i64 ns.length, v], .int .i64 k] w fun e w' => e = .returned (.bool (flg ns k)) ∧ Below w.heap.size w w' := by
  match k, hk with
  | 0, _ => exact spec_l05Flag_0 ns v w h hr
  | 1, _ => exact spec_l05Flag_1 ns v w h hr
  | 2, _ => exact spec_l05Flag_2 ns v w h hr
  | 3, _ => exact spec_l05Flag_3 ns v w h hr
  | 4, _ => exact spec_l05Flag_4 ns v w h hr
  | 5, _ => exact spec_l05Flag_5 ns v w h hr
  | 6, _ => exact spec_l05Flag_6 ns v w h hr
  | 7, _ => exact spec_l05Flag_7 ns v w h hr
  | 8, _ => exact spec_l05Flag_8 ns v w h hr
  | 9, _ => exact spec_l05Flag_9 ns v w h hr
  | 10, _ => exact spec_l05Flag_10 ns v w h hr
/-- numbers in the cells of an array -/
def arr (f : Nat → Int) : Array Value := #[.int .i64 (f 0), .int .i64 (f 1), .int .i64 (f 2), .int .i64 (f 3), .int .i64 (f 4), .int .i64 (f 5), .int .i64 (f 6), .int .i64 (f 7), .int .i64 (f 8), .int .i64 (f 9), .int .i64 (f 10)]
theorem arr_get (f : Nat → Int) {k : Nat} (h : k < 11) : (arr f)[k]? = some (.int .i64 (f k)) := by
  match k, h with
  | 0, _ => rfl
  | 1, _ => rfl
  | 2, _ => rfl
  | 3, _ => rfl
  | 4, _ => rfl
  | 5, _ => rfl
  | 6, _ => rfl
  | 7, _ => rfl
  | 8, _ => rfl
  | 9, _ => rfl
  | 10, _ => rfl
theorem arr_set (f : Nat → Int) {k : Nat} (h : k < 11) (y : Int) : (arr f).setIfInBounds k (.int .i64 y) = arr fun i => if i = k then y else f i := by
  match k, h with
  | 0, _ => rfl
  | 1, _ => rfl
  | 2, _ => rfl
  | 3, _ => rfl
  | 4, _ => rfl
  | 5, _ => rfl
  | 6, _ => rfl
  | 7, _ => rfl
  | 8, _ => rfl
  | 9, _ => rfl
  | 10, _ => rfl
/-- a flag as a number -/
def fl1 (b : Bool) : Int := if b then 1 else 0
set_option maxRecDepth 100000 in
theorem impl_flagsOf (ns : List Nat) (v : Value) (w : World) (h : Sl cI w v (li ns)) (hr : RelN ns) :
    Calls Tryz.prog 56 #[.agg #[.int .i64 ns.length, v]] w fun e w' => e = .returned (.agg (arr fun k => fl1 (flg ns k))) ∧ Below w.heap.size w w' := by
  obtain ⟨A, c, rfl⟩ := h.opn
  rw [li_length] at h ⊢
  have HFl := Lib.hid (fun k (hk : k < 11) W (hW : Below w.heap.size w W) => impl_hasFlag_all ns k hk _ W (h.below hW) hr)
  clear hr
  obtain ⟨G, hG⟩ : ∃ G : Nat → Int, G = fun k => fl1 (flg ns k) := ⟨_, rfl⟩
  have HG := Lib.hid (fun k => congrFun hG k)
  rw [← hG]
  clear hG
  go_enter Tryz.func56, Tryz.ntmps56
  go_upto_region 2 with fail
  have hb1 := below_alloc' w (.cells #[.int .i64 ns.length, .slice A ns.length c] 31)
  have hk1 := Blk.new w 31 #[.int .i64 ns.length, .slice A ns.length c]
  have hb2 := below_alloc' (w.alloc (.cells #[.int .i64 ns.length, .slice A ns.length c] 31)) (.cells (arr fun _ => 0) 88)
  have hk2 : Blk _ (w.heap.size + 1) _ _ := Blk.new' (w.alloc (.cells #[.int .i64 ns.length, .slice A ns.length c] 31)) 88 (arr fun _ => 0) (by simp)
  have hb3 := below_alloc' ((w.alloc (.cells #[.int .i64 ns.length, .slice A ns.length c] 31)).alloc (.cells (arr fun _ => 0) 88)) (.cells (arr fun _ => 0) 88)
  have hk3 : Blk _ (w.heap.size + 2) _ _ := Blk.new' ((w.alloc (.cells #[.int .i64 ns.length, .slice A ns.length c] 31)).alloc (.cells (arr fun _ => 0) 88)) 88 (arr fun _ => 0) (by simp)
  have HK1 := Lib.hid ((hk1.below hb2 hk1.lt).below hb3 (hk1.below hb2 hk1.lt).lt)
  have HK2 := Lib.hid (hk2.below hb3 hk2.lt)
  have HK3 := Lib.hid hk3
  have HB := Lib.hid (bthen (bthen hb1 hb2) hb3)
  change Code.wp _ _ _ _ (((w.alloc (.cells #[.int .i64 ns.length, .slice A ns.length c] 31)).alloc (.cells (arr fun _ => 0) 88)).alloc (.cells (arr fun _ => 0) 88))
  clear hb1 hb2 hb3 hk1 hk2 hk3 h
  generalize World.alloc (World.alloc (w.alloc _) _) _ = W at *
  have HZ : Hid ((fun _ : Nat => (0 : Int)) = fun k => if k < 0 then G k else 0) := Lib.hid (by funext k; rw [if_neg (Nat.not_lt_zero k)])
  have HSt : Hid (∀ i, (fun j => if j = i then G i else if j < i then G j else 0) = fun j => if j < i + 1 then G j else 0) := Lib.hid fun i => by
    funext j
    by_cases h1 : j = i
    · subst h1; rw [if_pos rfl, if_pos (by omega)]
    · rw [if_neg h1]
      by_cases h2 : j < i
      · rw [if_pos h2, if_pos (by omega)]
      · rw [if_neg h2, if_neg (by omega)]
  have HEn : Hid ((arr fun j => if j < 11 then G j else 0) = arr G) := Lib.hid rfl
  go_wp2
  go_loopw [4, 5] (fun _ ix wr => ∃ i : Nat, i ≤ 11 ∧ ix = .int .i64 i ∧ Blk wr (w.heap.size + 2) 88 (arr fun j => if j < i then G j else 0) ∧ Blk wr (w.heap.size + 1) 88 (arr fun _ => 0) ∧ Blk wr w.heap.size 31 #[.int .i64 ns.length, .slice A ns.length c] ∧ Below w.heap.size w wr) (fun _ ix _ => 11 - (intOf ix).toNat)
  case atStart => exact ⟨0, Nat.zero_le _, rfl, by rw [← HZ.out]; exact HK3.out, HK2.out, HK1.out, HB.out⟩
  case round =>
    obtain ⟨i, hi, rfl, hk3, hk2, hk1, hb⟩ := hrel
    have H3 := Lib.hid hk3
    have H2 := Lib.hid hk2
    have H1 := Lib.hid hk1
    have HBi := Lib.hid hb
    by_cases hil : i < 11
    · have k1 := hk1.cell
      have l1 := hk1.lt
      have hi11 : decide ((i : Int) < 11) = true := decide_eq_true (by omega)
      have HF := Lib.hid (HFl.out i hil wr hb)
      have HOn := Lib.hid (fun X => impl_one (flg ns i) X)
      have hgi : G i = if flg ns i = true then 1 else 0 := HG.out i
      rw [← hgi] at HOn
      have HSi := Lib.hid (HSt.out i)
      clear hk1 hk2 hk3 hb hgi
      generalize flg ns i = bb at *
      go_wp2_with fail
      refine HF.out.mono ?_
      rintro e w2 ⟨rfl, hb2⟩
      have HB2 := Lib.hid (bthen HBi.out hb2)
      have H32 := Lib.hid (H3.out.below hb2 H3.out.lt)
      have H22 := Lib.hid (H2.out.below hb2 H2.out.lt)
      have H12 := Lib.hid (H1.out.below hb2 H1.out.lt)
      clear hb2 k1 l1
      go_wp2_with fail
      refine (HOn.out _).mono ?_
      rintro e w3 ⟨rfl, rfl⟩
      have c3 := (H32.out.cell i).trans (arr_get _ hil)
      have f3 := H32.out.frozen i
      have l3 := H32.out.lt
      have H33 : Hid (Blk (w2.setCell ⟨w.heap.size + 2, i, none⟩ (.int .i64 (G i))) (w.heap.size + 2) 88 (arr fun j => if j < i + 1 then G j else 0)) := Lib.hid (by
        have := H32.out.set_ i (.int .i64 (G i))
        rw [arr_set _ hil] at this
        rw [← HSi.out]
        exact this)
      have H23 := Lib.hid (fun u => H22.out.far (p := ⟨w.heap.size + 2, i, none⟩) (by simp) u)
      have H13 := Lib.hid (fun u => H12.out.far (p := ⟨w.heap.size + 2, i, none⟩) (by simp) u)
      have HB3 := Lib.hid (fun u => HB2.out.setCell (p := ⟨w.heap.size + 2, i, none⟩) (by simp) u)
      generalize G i = gi at *
      go_wp2
      go_roundw
      case rel => exact ⟨i + 1, by omega, by go_num, H33.out, H23.out _, H13.out _, HB3.out _⟩
      case measure => simp [intOf]; omega
    · obtain rfl : i = 11 := by omega
      rw [HEn.out] at hk3
      have hk2' := hk2
      unfold arr at hk3 hk2
      have k3 := hk3.cell
      have l3 := hk3.lt
      have k2 := hk2.cell
      have l2 := hk2.lt
      have f2 := hk2.frozen
      have HB4 := Lib.hid hb
      clear hk1 hk2' hb
      go_wp2
      refine bodyPost_ret (v := .agg (arr G)) (by simp [results, Tryz.results56, go_sem, k2, l2, arr]) rfl ⟨rfl, ?_⟩
      repeat refine Below.setCell ?_ (by simp) _
      exact HB4.out
/- FiltrationFlags of the program. -/
theorem cds_lt (lo hi : List Nat) (n : Nat) (hlo : ∀ i, lo.getD i 0 < 2 ^ n) (hhi : ∀ i, hi.getD i 0 < 2 ^ n) (h256 : ∀ i, hi.getD i 0 < 256) (i : Nat) : ∀ c ∈ cds lo hi i, ∀ a ∈ c, a < 2 ^ n := by
  induction i with
  | zero => intro c hc; simp [cds] at hc; simp [hc]
  | succ i ih =>
    intro c hc
    rw [cds, List.mem_flatMap] at hc
    obtain ⟨d, hd, hc⟩ := hc
    obtain ⟨s, hs, rfl⟩ := List.mem_map.1 hc
    intro a ha
    rcases List.mem_append.1 ha with ha | ha
    · exact ih d hd a ha
    · rw [List.mem_singleton] at ha
      subst ha
      have hz : andnot (hi.getD i 0) (lo.getD i 0) < 256 := andnot_lt (k := 8) (h256 i)
      have e := eq_of_beq (List.all_eq_true.1 (sbs_within _ hz) s hs)
      refine Nat.or_lt_two_pow (hlo i) ?_
      rw [← e]
      exact Nat.lt_of_le_of_lt Nat.and_le_right (andnot_lt (hhi i))
theorem cds_rel (ns us : List Nat) (f : Fm) (h1 : MdN ns us) : ∀ c ∈ cds (lst ns us f) (gre ns us f) (acn ns us f), c.length = acn ns us f ∧ RelN c := by
  intro c hc
  have hn8 : acn ns us f ≤ 8 := Nat.le_trans (acn_le ns us f) h1.r.1
  have hl := cds_len _ _ _ c hc
  refine ⟨hl, by rw [hl]; exact hn8, fun a ha => ?_⟩
  rw [hl]
  exact cds_lt _ _ _ (fun i => getD_lt (lst_lt ns us f) i) (fun i => getD_lt (gre_lt ns us f) i) (fun i => Nat.lt_of_lt_of_le (getD_lt (gre_lt ns us f) i) (two_pow_256 hn8)) _ c hc a ha
/-- whether one of the first k frames has a flag -/
def anF (cs : List (List Nat)) (k j : Nat) : Bool := (cs.take k).any fun c => flg c j
theorem anF_succ (cs : List (List Nat)) (k j : Nat) (h : k < cs.length) : anF cs (k + 1) j = (anF cs k j || flg cs[k] j) := by
  unfold anF
  rw [List.take_succ_eq_append_getElem h, List.any_append]
  simp
/-- the flags of all frames together -/
def flL (cs : List (List Nat)) : List Int := (List.range 11).map fun j => fl1 (anF cs cs.length j)
set_option maxRecDepth 100000 in
theorem run_idx (F : Nat → Int) {j : Nat} (h : j < 11) (w : World) : (Instr.index 88 (.agg (arr F)) (.int .i64 (j : Int))).run Tryz.prog w = .ok (.int .i64 (F j)) w := by
  match j, h with
  | 0, _ => rfl
  | 1, _ => rfl
  | 2, _ => rfl
  | 3, _ => rfl
  | 4, _ => rfl
  | 5, _ => rfl
  | 6, _ => rfl
  | 7, _ => rfl
  | 8, _ => rfl
  | 9, _ => rfl
  | 10, _ => rfl
theorem fl1_max (a b : Bool) : max (fl1 a) (fl1 b) = fl1 (a || b) := by cases a <;> cases b <;> rfl
theorem arr_list (F : Nat → Int) : ((arr F).toList) = (List.range 11).map fun j => Value.int .i64 (F j) := rfl
theorem Ow.ofArr {t : TypeId} {B g : Nat} {w : World} {F : Nat → Int} (h : Blk w g t (arr F)) (hB : B ≤ g) : Ow cI t B w (.slice (some ⟨g, 0, none⟩) 11 11) ((List.range 11).map F) := by
  exact ⟨⟨some ⟨g, 0, none⟩, 11, rfl, Nat.le_refl _, by omega⟩, rfl, .inr ⟨g, 11, arr F, rfl, hB, h, Nat.le_refl _, by simp only [maxLen]; omega, rfl, rfl⟩⟩
set_option maxRecDepth 100000 in
set_option maxHeartbeats 1000000 in
theorem impl_FiltrationFlags_ok (ns us : List Nat) (f : Fm) (A0 A1 : Option Addr) (c0 c1 : Nat) (v : Value) (w : World) (hm : Mdl w (.slice A0 ns.length c0) (.slice A1 6 c1) ns us) (h1 : MdN ns us) (h : Sl cN w v (enc f)) (hok : f.ok = true) (hl : (enc f).length ≤ 40) (hmk : mdOk ns.length (li ns) (li us) = true) (hfk : isF (enc f) = true) (h7 : chc ns us f ≤ 7) :
    Calls Tryz.prog 27 #[.agg #[.int .i64 ns.length, .slice A0 ns.length c0, .slice A1 6 c1], v] w fun e w' => ∃ u, e = .returned (.tuple #[u, .int .i64 0]) ∧ Ow cI 88 w.heap.size w' u (flL (cds (lst ns us f) (gre ns us f) (acn ns us f))) ∧ Below w.heap.size w w' := by
  have hb0 := below_alloc' w (.cells #[.int .i64 ns.length, .slice A0 ns.length c0, .slice A1 6 c1] 33)
  have hk0 := Blk.new w 33 #[.int .i64 ns.length, .slice A0 ns.length c0, .slice A1 6 c1]
  have HB := Lib.hid hb0
  have HK0 := Lib.hid hk0
  have HAf := Lib.hid (fun W (hW : Below w.heap.size w W) => impl_AllFiltrations_ok ns us f A0 A1 c0 c1 v W (hm.below hW) h1 (h.below hW) hok hl hmk hfk)
  have hn8 : acn ns us f ≤ 8 := Nat.le_trans (acn_le ns us f) h1.r.1
  have EC : Hid (afC ns us f = 0) := Lib.hid (by unfold afC; rw [if_pos h7])
  have EL : Hid (afL ns us f = (cds (lst ns us f) (gre ns us f) (acn ns us f)).map fun c => ((acn ns us f : Int), li c)) := Lib.hid (by unfold afL; rw [if_pos h7]; rfl)
  have HRel := Lib.hid (cds_rel ns us f h1)
  have HLen : Hid ((cds (lst ns us f) (gre ns us f) (acn ns us f)).length ≤ 128) := Lib.hid (by
    rw [cds_length _ _ (fun i => Nat.lt_of_lt_of_le (getD_lt (gre_lt ns us f) i) (two_pow_256 hn8))]
    exact Nat.pow_le_pow_right (n := 2) (j := 7) (by omega) h7)
  rw [EC.out, EL.out] at HAf
  clear hm h1 h hmk hfk hb0 hk0 EC EL h7
  generalize cds (lst ns us f) (gre ns us f) (acn ns us f) = cs at *
  generalize acn ns us f = n at *
  have HZ : Hid ((fun _ : Nat => (0 : Int)) = fun j => fl1 (anF cs 0 j)) := Lib.hid (by funext j; simp [anF, fl1])
  have HStep : Hid (∀ k (hk : k < cs.length) j, (fun i => if i = j then fl1 (anF cs (k + 1) j) else fl1 (if i < j then anF cs (k + 1) i else anF cs k i)) = fun i => fl1 (if i < j + 1 then anF cs (k + 1) i else anF cs k i)) := Lib.hid fun k hk j => by
    funext i
    by_cases h1 : i = j
    · subst h1; rw [if_pos rfl, if_pos (by omega)]
    · rw [if_neg h1]
      by_cases h2 : i < j
      · rw [if_pos h2, if_pos (by omega)]
      · rw [if_neg h2, if_neg (by omega)]
  have HIn : Hid (∀ k, (fun i => fl1 (anF cs k i)) = fun i => fl1 (if i < 0 then anF cs (k + 1) i else anF cs k i)) := Lib.hid fun k => by funext i; rw [if_neg (Nat.not_lt_zero i)]
  have HOut : Hid (∀ k, (arr fun i => fl1 (if i < 11 then anF cs (k + 1) i else anF cs k i)) = arr fun i => fl1 (anF cs (k + 1) i)) := Lib.hid fun k => rfl
  have HSu := Lib.hid (anF_succ cs)
  have HFl := Lib.hid (fun c (hc : c ∈ cs) W v (hv : Sl cI W v (li c)) => impl_flagsOf c v W hv (HRel.out c hc).2)
  have HCl := Lib.hid (fun c (hc : c ∈ cs) => (HRel.out c hc).1)
  clear HRel
  go_enter Tryz.func27, Tryz.ntmps27
  go_upto_region 1 with fail
  generalize World.alloc w _ = W at *
  have k0 := HK0.out.cell
  have l0 := HK0.out.lt
  go_wp2_with fail
  refine (HAf.out _ HB.out).mono ?_
  rintro e w1 ⟨u, rfl, ho, hb⟩
  obtain ⟨Af, cf, rfl⟩ := ho.opn
  have hfl : (cs.map fun c => ((n : Int), li c)).length = cs.length := List.length_map ..
  have HS1 := Lib.hid ho.sl
  rw [hfl] at HS1 ⊢
  have HB1 := Lib.hid (bthen HB.out hb)
  clear ho hb k0 l0 hfl
  go_upto_region 5 with fail
  have HO : Hid (Blk (w1.alloc (.cells (arr fun _ => 0) 88)) w1.heap.size 88 (arr fun j => fl1 (anF cs 0 j))) := Lib.hid (by rw [← HZ.out]; exact Blk.new _ _ _)
  have HB2 := Lib.hid (below_alloc' w1 (.cells (arr fun _ => 0) 88))
  change Code.wp _ _ _ _ (w1.alloc (.cells (arr fun _ => 0) 88))
  generalize w1.alloc _ = W2 at *
  have hlen := HLen.out
  go_wp2
  go_loopw [10, 11, 12, 24] (fun _ _ _ ix wr => ∃ k : Nat, k ≤ cs.length ∧ ix = .int .i64 k ∧ Blk wr w1.heap.size 88 (arr fun j => fl1 (anF cs k j)) ∧ Below w1.heap.size w1 wr) (fun _ _ _ ix _ => cs.length - (intOf ix).toNat)
  case atStart => exact ⟨0, Nat.zero_le _, rfl, HO.out, HB2.out⟩
  case round =>
    obtain ⟨k, hk, rfl, hbk, hb⟩ := hrel
    have HBk := Lib.hid hbk
    have HBr := Lib.hid hb
    by_cases hkl : k < cs.length
    · obtain ⟨b, o, Ai, ci, e1, hbl, hc0, hc1, hs⟩ := (HS1.out.below hb).at_ (k := k) (by rw [List.length_map]; exact hkl)
      subst e1
      rw [List.getElem_map] at hc0 hc1 hs
      dsimp only at hc0 hc1 hs
      have hmem := List.getElem_mem hkl
      have hcl := HCl.out _ hmem
      rw [li_length, hcl] at hc1 hs
      have HSuk := Lib.hid (fun j => HSu.out k j hkl)
      have HFk := Lib.hid (HFl.out _ hmem)
      rw [hcl] at HFk
      have HStk := Lib.hid (HStep.out k hkl)
      have HIk := Lib.hid (HIn.out k)
      have HOk := Lib.hid (HOut.out k)
      generalize cs[k] = c at *
      have HSc := Lib.hid hs
      have hsz := hb.size
      clear hbk hb hs hmem
      go_upto_region 8 with fail
      have hba := below_alloc' wr (.cells #[.int .i64 n, .slice Ai n ci] 31)
      have hka := Blk.new wr 31 #[.int .i64 n, .slice Ai n ci]
      have HBk2 := Lib.hid (HBk.out.below hba HBk.out.lt)
      have HBr2 := Lib.hid (bthen HBr.out hba)
      have HSc2 := Lib.hid (HSc.out.below hba)
      have HKa := Lib.hid hka
      clear hba hka hc0 hc1
      generalize wr.alloc (.cells #[.int .i64 (n : Nat), .slice Ai n ci] 31) = W3 at *
      have k3 := HKa.out.cell
      have l3 := HKa.out.lt
      have HF2 := Lib.hid (HFk.out W3 _ HSc2.out)
      obtain ⟨GF, hGF⟩ : ∃ G : Nat → Int, G = fun j => fl1 (flg c j) := ⟨_, rfl⟩
      have HGF := Lib.hid (fun j => congrFun hGF j)
      rw [← hGF] at HF2
      clear hGF
      go_wp2_with fail
      refine HF2.out.mono ?_
      rintro e w4 ⟨rfl, hb4⟩
      have HBk4 := Lib.hid (HBk2.out.below hb4 HBk2.out.lt)
      have HBr4 := Lib.hid (bthen HBr2.out hb4)
      clear hb4 k3 l3 HKa HBk HBr HBk2 HBr2
      go_wp2
      go_loopw [11, 12, 30] (fun _ _ ix wr => ∃ j : Nat, j ≤ 11 ∧ ix = .int .i64 j ∧ Blk wr w1.heap.size 88 (arr fun i => fl1 (if i < j then anF cs (k + 1) i else anF cs k i)) ∧ Below w1.heap.size w1 wr) (fun _ _ ix _ => 11 - (intOf ix).toNat)
      case atStart => exact ⟨0, Nat.zero_le _, rfl, by rw [← HIk.out]; exact HBk4.out, HBr4.out⟩
      case round =>
        obtain ⟨j, hj, rfl, hbk, hb⟩ := hrel
        have HBk := Lib.hid hbk
        have HBr := Lib.hid hb
        by_cases hjl : j < 11
        · have hj11 : decide ((j : Int) < 11) = true := decide_eq_true (by omega)
          have hix := run_idx GF hjl wr
          have hcj := (hbk.cell j).trans (arr_get _ hjl)
          rw [if_neg (Nat.lt_irrefl j)] at hcj
          have hfj := hbk.frozen j
          have hlj := hbk.lt
          have hmx : max (fl1 (anF cs k j)) (GF j) = fl1 (anF cs (k + 1) j) := by rw [HGF.out, fl1_max, HSuk.out]
          have HSet : Hid (∀ y, y = fl1 (anF cs (k + 1) j) → Blk (wr.setCell ⟨w1.heap.size, j, none⟩ (.int .i64 y)) w1.heap.size 88 (arr fun i => fl1 (if i < j + 1 then anF cs (k + 1) i else anF cs k i))) := Lib.hid fun y hy => by
            have := hbk.set_ j (.int .i64 y)
            rw [arr_set _ hjl, hy, HStk.out j] at this
            rw [hy]
            exact this
          have HBs := Lib.hid (fun u => hb.setCell (p := ⟨w1.heap.size, j, none⟩) (Nat.le_refl _) u)
          generalize fl1 (anF cs k j) = ya at *
          generalize fl1 (anF cs (k + 1) j) = yb at *
          generalize GF j = yc at *
          clear hbk hb
          go_wp2
          go_roundw
          case rel => exact ⟨j + 1, by omega, by go_num, HSet.out _ rfl, HBs.out _⟩
          case measure => simp [intOf]; omega
        · obtain rfl : j = 11 := by omega
          rw [HOk.out] at HBk
          clear hbk hb
          go_wp2
          go_roundw
          case rel => exact ⟨k + 1, by omega, by go_num, HBk.out, HBr.out⟩
          case measure => simp [intOf]; omega
    · obtain rfl : k = cs.length := by omega
      have HBE := Lib.hid (bthen HB1.out hb)
      have HOw : Hid (Ow cI 88 w.heap.size wr (.slice (some ⟨w1.heap.size, 0, none⟩) 11 11) (flL cs)) := Lib.hid (Ow.ofArr hbk HB1.out.size)
      have kl := hbk.lt
      clear hbk hb
      go_wp2
      go_ret2
      exact ⟨_, rfl, HOw.out, HBE.out⟩
/- FiltrationFlags of the program where it gives up, and of the reference. -/
theorem Keep.setCell (g j : Nat) (w : World) (u : Value) : Keep g (g + 1) w (w.setCell ⟨g, j, none⟩ u) :=
  ⟨rfl, rfl, rfl, by simp, fun k hk h => by
    simp only [World.setCell, Array.getElem?_modify]
    rw [if_neg (by show ¬ g = k; omega)]⟩
theorem run_mk11 (w : World) :
    (Instr.makeSlice 22 (.int .i64 11) (.int .i64 11)).run Tryz.prog w = .ok (.slice (some ⟨w.heap.size, 0, none⟩) 11 11) (w.alloc (.cells (arr fun _ => 0) 2)) := by
  obtain ⟨i, hi, hz, hsize, hby⟩ := ty_int64.info
  have := run_make (P := Tryz.prog) w 22 2 i _ ty_int64.under hi hz .i64 .i64 11 11 (by omega) (Int.le_refl _) (by rw [hby]; omega) (by omega)
  have e : madeCells (Value.int .i64 0).cells ((11 : Int).toNat * i.size) = arr fun _ => 0 := by
    rw [hsize]
    apply Array.ext (by simp [madeCells, arr])
    intro j h1 h2
    have h3 : j < 11 := h2
    have h4 := arr_get (fun _ => 0) h3
    rw [Array.getElem?_eq_getElem h2] at h4
    rw [Option.some.inj h4]
    simp [madeCells, Value.cells, Nat.mod_one]
  rw [this, e]
  rfl
theorem rset (F : Nat → Int) (j : Nat) (y : Int) : (List.range 11).map (fun i => if i = j then y else F i) = ((List.range 11).map F).set j y := by
  apply List.ext_getElem (by simp)
  intro i h1 h2
  simp only [List.getElem_map, List.getElem_range, List.getElem_set]
  by_cases h : i = j
  · subst h; simp
  · rw [if_neg h, if_neg (fun e => h e.symm)]
set_option maxRecDepth 100000 in
theorem impl_FiltrationFlags_big (ns us : List Nat) (f : Fm) (A0 A1 : Option Addr) (c0 c1 : Nat) (v : Value) (w : World) (hm : Mdl w (.slice A0 ns.length c0) (.slice A1 6 c1) ns us) (h1 : MdN ns us) (h : Sl cN w v (enc f)) (hok : f.ok = true) (hl : (enc f).length ≤ 40) (hmk : mdOk ns.length (li ns) (li us) = true) (hfk : isF (enc f) = true) (h7 : ¬ chc ns us f ≤ 7) :
    Calls Tryz.prog 27 #[.agg #[.int .i64 ns.length, .slice A0 ns.length c0, .slice A1 6 c1], v] w fun e w' => e = .returned (.tuple #[.slice none 0 0, .int .i64 3]) ∧ Below w.heap.size w w' := by
  have hb0 := below_alloc' w (.cells #[.int .i64 ns.length, .slice A0 ns.length c0, .slice A1 6 c1] 33)
  have hk0 := Blk.new w 33 #[.int .i64 ns.length, .slice A0 ns.length c0, .slice A1 6 c1]
  have HB := Lib.hid hb0
  have HK0 := Lib.hid hk0
  have HAf := Lib.hid (fun W (hW : Below w.heap.size w W) => impl_AllFiltrations_ok ns us f A0 A1 c0 c1 v W (hm.below hW) h1 (h.below hW) hok hl hmk hfk)
  have EC : Hid (afC ns us f = 3) := Lib.hid (by unfold afC; rw [if_neg h7])
  have EL : Hid (afL ns us f = []) := Lib.hid (by unfold afL; rw [if_neg h7])
  rw [EC.out, EL.out] at HAf
  clear hm h1 h hmk hfk hb0 hk0 EC EL h7
  go_enter Tryz.func27, Tryz.ntmps27
  go_upto_region 1 with fail
  generalize World.alloc w _ = W at *
  have k0 := HK0.out.cell
  have l0 := HK0.out.lt
  go_wp2_with fail
  refine (HAf.out _ HB.out).mono ?_
  rintro e w1 ⟨u, rfl, ho, hb⟩
  have HB1 := Lib.hid (bthen HB.out hb)
  clear ho hb k0 l0
  go_wp2
  go_ret2
  exact ⟨rfl, HB1.out⟩
set_option maxRecDepth 100000 in
theorem impl_FiltrationFlags_bad (n : Int) (va vu vf : Value) (xs vs : List Int) (zs : List Nd) (w : World) (ha : Sl cI w va xs) (hu : Sl cI w vu vs) (hf : Sl cN w vf zs) (hl : xs.length ≤ 1048576) (hl' : vs.length ≤ 1048576) (hl2 : zs.length ≤ 1048576) (hc : mdOk n xs vs = false ∨ (mdOk n xs vs = true ∧ isF zs = false)) :
    Calls Tryz.prog 27 #[.agg #[.int .i64 n, va, vu], vf] w fun e w' => e = .returned (.tuple #[.slice none 0 0, .int .i64 1]) ∧ Below w.heap.size w w' := by
  obtain ⟨A0, c0, rfl⟩ := ha.opn
  obtain ⟨A1, c1, rfl⟩ := hu.opn
  have hb0 := below_alloc' w (.cells #[.int .i64 n, .slice A0 xs.length c0, .slice A1 vs.length c1] 33)
  have hk0 := Blk.new w 33 #[.int .i64 n, .slice A0 xs.length c0, .slice A1 vs.length c1]
  have HB := Lib.hid hb0
  have HK0 := Lib.hid hk0
  have HC := Lib.hid (fun W (hW : Below w.heap.size w W) => impl_AllFiltrations_bad n _ _ vf xs vs zs W (ha.below hW) (hu.below hW) (hf.below hW) hl hl' hl2 hc)
  clear ha hu hf hb0 hk0 hc
  go_enter Tryz.func27, Tryz.ntmps27
  go_upto_region 1 with fail
  generalize World.alloc w _ = W at *
  have k0 := HK0.out.cell
  have l0 := HK0.out.lt
  go_wp2_with fail
  refine (HC.out _ HB.out).mono ?_
  rintro e w1 ⟨rfl, hb⟩
  have HB1 := Lib.hid (bthen HB.out hb)
  clear hb k0
  go_wp2
  go_ret2
  exact ⟨rfl, HB1.out⟩
set_option maxRecDepth 100000 in
theorem spec_FiltrationFlags_bad (n : Int) (va vu vf : Value) (xs vs : List Int) (zs : List Nd) (w : World) (ha : Sl cI w va xs) (hu : Sl cI w vu vs) (hf : Sl cN w vf zs) (hl : xs.length ≤ 1048576) (hl' : vs.length ≤ 1048576) (hl2 : zs.length ≤ 1048576) (hc : mdOk n xs vs = false ∨ (mdOk n xs vs = true ∧ isF zs = false)) :
    Calls Tryz.prog 26 #[.agg #[.int .i64 n, va, vu], vf] w fun e w' => e = .returned (.tuple #[.slice none 0 0, .int .i64 1]) ∧ Below w.heap.size w w' := by
  obtain ⟨A0, c0, rfl⟩ := ha.opn
  obtain ⟨A1, c1, rfl⟩ := hu.opn
  have hb0 := below_alloc' w (.cells #[.int .i64 n, .slice A0 xs.length c0, .slice A1 vs.length c1] 33)
  have hk0 := Blk.new w 33 #[.int .i64 n, .slice A0 xs.length c0, .slice A1 vs.length c1]
  have HB := Lib.hid hb0
  have HK0 := Lib.hid hk0
  have HC := Lib.hid (fun W (hW : Below w.heap.size w W) => spec_l14Code_bad n _ _ vf xs vs zs W (ha.below hW) (hu.below hW) (hf.below hW) hl hl' hl2 hc)
  clear ha hu hf hb0 hk0 hc
  go_enter Tryz.func26, Tryz.ntmps26
  go_upto_region 1 with fail
  generalize World.alloc w _ = W at *
  have k0 := HK0.out.cell
  have l0 := HK0.out.lt
  go_wp2_with fail
  refine (HC.out _ HB.out).mono ?_
  rintro e w1 ⟨rfl, hb⟩
  have HB1 := Lib.hid (bthen HB.out hb)
  clear hb k0
  go_wp2
  go_ret2
  exact ⟨rfl, HB1.out.alloc (by have := HB1.out.size; omega) _⟩
set_option maxRecDepth 100000 in
theorem spec_FiltrationFlags_big (ns us : List Nat) (f : Fm) (A0 A1 : Option Addr) (c0 c1 : Nat) (v : Value) (w : World) (hm : Mdl w (.slice A0 ns.length c0) (.slice A1 6 c1) ns us) (h1 : MdN ns us) (h : Sl cN w v (enc f)) (hok : f.ok = true) (hl : (enc f).length ≤ 40) (hmk : mdOk ns.length (li ns) (li us) = true) (hfk : isF (enc f) = true) (h7 : ¬ chc ns us f ≤ 7) :
    Calls Tryz.prog 26 #[.agg #[.int .i64 ns.length, .slice A0 ns.length c0, .slice A1 6 c1], v] w fun e w' => e = .returned (.tuple #[.slice none 0 0, .int .i64 3]) ∧ Below w.heap.size w w' := by
  have hb0 := below_alloc' w (.cells #[.int .i64 ns.length, .slice A0 ns.length c0, .slice A1 6 c1] 33)
  have hk0 := Blk.new w 33 #[.int .i64 ns.length, .slice A0 ns.length c0, .slice A1 6 c1]
  have HB := Lib.hid hb0
  have HK0 := Lib.hid hk0
  have HC := Lib.hid (fun W (hW : Below w.heap.size w W) => spec_l14Code_ok ns us f A0 A1 c0 c1 v W (hm.below hW) h1 (h.below hW) hok hl hmk hfk)
  have HCh := Lib.hid (fun A2 A3 c2 c3 Ab Ai Ao nb cb ni ci no co W (hS : SpR W ns us f A0 A1 c0 c1 (.slice A2 ns.length c2) (.slice A3 (acn ns us f) c3) (.slice Ab nb cb) (.slice Ai ni ci) (.slice Ao no co)) => spec_l14Room ns us f A0 A1 A2 A3 c0 c1 c2 c3 Ab Ai Ao nb cb ni ci no co W hS h1 (by omega))
  clear hb0 hk0 hm h hmk hfk h1 hl
  go_enter Tryz.func26, Tryz.ntmps26
  go_upto_region 1 with fail
  generalize World.alloc w _ = W at *
  have k0 := HK0.out.cell
  have l0 := HK0.out.lt
  go_wp2_with fail
  refine (HC.out _ HB.out).mono ?_
  rintro e w1 ⟨s, rfl, ⟨A2, c2, A3, c3, Ab, nb, cb, Ai, ni, ci, Ao, no, co, rfl, ho, hsp⟩, hb⟩
  have HB1 := Lib.hid (bthen HB.out hb)
  have hba := below_alloc' w1 (.cells #[.int .i64 ns.length, .slice A0 ns.length c0, .slice A1 6 c1, .slice A2 ns.length c2, .slice A3 (acn ns us f) c3, .slice Ab nb cb, .slice Ai ni ci, .slice Ao no co] 59)
  have HSP := Lib.hid (hsp.below hba)
  have HB2 := Lib.hid (bthen HB1.out hba)
  have HK2 := Lib.hid (Blk.new w1 59 #[.int .i64 ns.length, .slice A0 ns.length c0, .slice A1 6 c1, .slice A2 ns.length c2, .slice A3 (acn ns us f) c3, .slice Ab nb cb, .slice Ai ni ci, .slice Ao no co])
  clear ho hsp hb k0 l0 hba
  go_upto_region 4 with fail
  generalize World.alloc w1 _ = w2 at *
  have k0 := HK2.out.cell
  have l0 := HK2.out.lt
  go_wp2_with fail
  refine (HCh.out _ _ _ _ _ _ _ _ _ _ _ _ _ _ HSP.out).mono ?_
  rintro e w3 ⟨rfl, hb⟩
  have HB3 := Lib.hid (bthen HB2.out hb)
  clear hb k0 l0
  have hk2 : (7 : Int) < ((chc ns us f : Nat) : Int) := by omega
  generalize chc ns us f = kc at *
  clear HCh
  go_wp2
  go_ret2
  exact ⟨rfl, HB3.out⟩
set_option maxRecDepth 100000 in
set_option maxHeartbeats 1000000 in
theorem spec_FiltrationFlags_ok (ns us : List Nat) (f : Fm) (A0 A1 : Option Addr) (c0 c1 : Nat) (v : Value) (w : World) (hm : Mdl w (.slice A0 ns.length c0) (.slice A1 6 c1) ns us) (h1 : MdN ns us) (h : Sl cN w v (enc f)) (hok : f.ok = true) (hl : (enc f).length ≤ 40) (hmk : mdOk ns.length (li ns) (li us) = true) (hfk : isF (enc f) = true) (h7 : chc ns us f ≤ 7) :
    Calls Tryz.prog 26 #[.agg #[.int .i64 ns.length, .slice A0 ns.length c0, .slice A1 6 c1], v] w fun e w' => ∃ u, e = .returned (.tuple #[u, .int .i64 0]) ∧ Ow cI 2 w.heap.size w' u (flL (cds (lst ns us f) (gre ns us f) (acn ns us f))) ∧ Below w.heap.size w w' := by
  have hb0 := below_alloc' w (.cells #[.int .i64 ns.length, .slice A0 ns.length c0, .slice A1 6 c1] 33)
  have hk0 := Blk.new w 33 #[.int .i64 ns.length, .slice A0 ns.length c0, .slice A1 6 c1]
  have HB := Lib.hid hb0
  have HK0 := Lib.hid hk0
  have HC := Lib.hid (fun W (hW : Below w.heap.size w W) => spec_l14Code_ok ns us f A0 A1 c0 c1 v W (hm.below hW) h1 (h.below hW) hok hl hmk hfk)
  have HCh := Lib.hid (fun A2 A3 c2 c3 Ab Ai Ao nb cb ni ci no co W (hS : SpR W ns us f A0 A1 c0 c1 (.slice A2 ns.length c2) (.slice A3 (acn ns us f) c3) (.slice Ab nb cb) (.slice Ai ni ci) (.slice Ao no co)) => spec_l14Room ns us f A0 A1 A2 A3 c0 c1 c2 c3 Ab Ai Ao nb cb ni ci no co W hS h1 (by omega))
  have HAl := Lib.hid (fun A2 A3 c2 c3 Ab Ai Ao nb cb ni ci no co W (hS : SpR W ns us f A0 A1 c0 c1 (.slice A2 ns.length c2) (.slice A3 (acn ns us f) c3) (.slice Ab nb cb) (.slice Ai ni ci) (.slice Ao no co)) => spec_l14All ns us f A0 A1 A2 A3 c0 c1 c2 c3 Ab Ai Ao nb cb ni ci no co W hS h1 (by omega) h7)
  have hn8 : acn ns us f ≤ 8 := Nat.le_trans (acn_le ns us f) h1.r.1
  have HRel := Lib.hid (cds_rel ns us f h1)
  have HLen : Hid ((cds (lst ns us f) (gre ns us f) (acn ns us f)).length ≤ 128) := Lib.hid (by
    rw [cds_length _ _ (fun i => Nat.lt_of_lt_of_le (getD_lt (gre_lt ns us f) i) (two_pow_256 hn8))]
    exact Nat.pow_le_pow_right (n := 2) (j := 7) (by omega) h7)
  have HFs : Hid (fsl (lst ns us f) (gre ns us f) (acn ns us f) = (cds (lst ns us f) (gre ns us f) (acn ns us f)).map fun c => ((acn ns us f : Int), li c)) := Lib.hid rfl
  clear hb0 hk0 hm h hmk hfk h1 hl
  generalize cds (lst ns us f) (gre ns us f) (acn ns us f) = cs at *
  go_enter Tryz.func26, Tryz.ntmps26
  go_upto_region 1 with fail
  generalize World.alloc w _ = W at *
  have k0 := HK0.out.cell
  have l0 := HK0.out.lt
  go_wp2_with fail
  refine (HC.out _ HB.out).mono ?_
  rintro e w1 ⟨s, rfl, ⟨A2, c2, A3, c3, Ab, nb, cb, Ai, ni, ci, Ao, no, co, rfl, ho, hsp⟩, hb⟩
  have HB1 := Lib.hid (bthen HB.out hb)
  have hba := below_alloc' w1 (.cells #[.int .i64 ns.length, .slice A0 ns.length c0, .slice A1 6 c1, .slice A2 ns.length c2, .slice A3 (acn ns us f) c3, .slice Ab nb cb, .slice Ai ni ci, .slice Ao no co] 59)
  have HSP := Lib.hid (hsp.below hba)
  have HB2 := Lib.hid (bthen HB1.out hba)
  have HK2 := Lib.hid (Blk.new w1 59 #[.int .i64 ns.length, .slice A0 ns.length c0, .slice A1 6 c1, .slice A2 ns.length c2, .slice A3 (acn ns us f) c3, .slice Ab nb cb, .slice Ai ni ci, .slice Ao no co])
  clear ho hsp hb k0 l0 hba
  go_upto_region 4 with fail
  generalize World.alloc w1 _ = w2 at *
  have k0 := HK2.out.cell
  have l0 := HK2.out.lt
  go_wp2_with fail
  refine (HCh.out _ _ _ _ _ _ _ _ _ _ _ _ _ _ HSP.out).mono ?_
  rintro e w3 ⟨rfl, hb⟩
  have HB3 := Lib.hid (bthen HB2.out hb)
  have HSP3 := Lib.hid (HSP.out.below hb)
  have HK3 := Lib.hid (HK2.out.below hb HK2.out.lt)
  clear hb k0 l0
  have hk2 : ¬ (7 : Int) < ((chc ns us f : Nat) : Int) := by omega
  have HA2 := Lib.hid (fun X (hX : Below w3.heap.size w3 X) => HAl.out _ _ _ _ _ _ _ _ _ _ _ _ _ _ (HSP3.out.below hX))
  rw [HFs.out] at HA2
  have k0 := HK3.out.cell
  have l0 := HK3.out.lt
  generalize chc ns us f = kc at *
  clear HAl HCh HC HSP HSP3 HK0 HK2 HFs HB HB1 HB2
  generalize acn ns us f = n at *
  have hfl : (cs.map fun c => ((n : Int), li c)).length = cs.length := List.length_map ..
  go_upto_region 6 with fail
  go_cut [8, 9] (fun p q X => ∃ A4 c4 g B H, p = .slice A4 cs.length c4 ∧ q = .slice (some ⟨g, 0, none⟩) 11 11 ∧ ObF B H X (.slice A4 cs.length c4) (cs.map fun c => ((n : Int), li c)) ∧ (H ≤ g ∨ g + 1 ≤ B) ∧ w3.heap.size ≤ g ∧ Blk X g 2 (arr fun _ => 0) ∧ Below w3.heap.size w3 X)
  case first =>
    have HR : ∀ w : World, (Instr.makeSlice 22 (.int .i64 11) (.int .i64 11)).run Tryz.prog w = .ok (.slice (some ⟨w.heap.size, 0, none⟩) 11 11) (w.alloc (.cells (arr fun _ => 0) 2)) := run_mk11
    have be0 : Below w3.heap.size w3 w3.drew := (Below.refl _ _).drew
    go_region_law (go_simp; go_at_call 53; refine (HA2.out _ (by first | exact be0 | exact be0.alloc (Nat.le_refl _) _)).mono ?_; rintro e w5 ⟨u, rfl, ho, hb⟩; obtain ⟨A6, c6, rfl⟩ := ho.opn; have hs5 := hb.size)
    all_goals go_wp2_with fail
    all_goals go_meet
    all_goals try rw [hfl] at ho
    all_goals first
      | (have e1 : (w3.alloc (.cells (arr fun _ => 0) 2)).drew.heap.size = w3.heap.size + 1 := size_alloc' w3 _
         have hk9 := ((Blk.new w3 2 (arr fun _ => 0)).below (Below.refl _ _).drew (by show w3.heap.size < (w3.alloc (.cells (arr fun _ => 0) 2)).drew.heap.size; rw [e1]; omega)).below hb (by rw [e1]; omega)
         exact ⟨_, _, _, _, _, rfl, rfl, ho, .inr (by rw [e1]; omega), Nat.le_refl _, hk9, ((Below.refl _ _).alloc (Nat.le_refl _) _).drew.trans (hb.mono (by rw [e1]; omega))⟩)
      | (have hs6 : w3.heap.size ≤ w5.heap.size := hs5
         exact ⟨_, _, _, _, _, rfl, rfl, ho.below (below_alloc' w5 _), .inl (Nat.le_refl _), hs6, Blk.new w5 _ _, (be0.trans hb).alloc hs6 _⟩)
  case rest =>
    obtain ⟨A4, c4, g, B, H, rfl, rfl, hf, hsep, hg, hbk, hb⟩ := hcut
    have HO : Hid (ObF B H _ (.slice A4 cs.length c4) (cs.map fun c => ((n : Int), li c))) := Lib.hid hf
    have HBk : Hid (Blk _ g 2 (arr fun j => fl1 (anF cs 0 j))) := Lib.hid (by have e : (fun _ : Nat => (0 : Int)) = fun j => fl1 (anF cs 0 j) := (by funext j; simp [anF, fl1]); rw [← e]; exact hbk)
    have HBx := Lib.hid hb
    have HIn : Hid (∀ k, (fun i => fl1 (anF cs k i)) = fun i => fl1 (if i < 0 then anF cs (k + 1) i else anF cs k i)) := Lib.hid fun k => by funext i; rw [if_neg (Nat.not_lt_zero i)]
    have HOut : Hid (∀ k, (arr fun i => fl1 (if i < 11 then anF cs (k + 1) i else anF cs k i)) = arr fun i => fl1 (anF cs (k + 1) i)) := Lib.hid fun k => rfl
    have HStep : Hid (∀ k (hk : k < cs.length) j, flg cs[k] j = true → (fun i => if i = j then 1 else fl1 (if i < j then anF cs (k + 1) i else anF cs k i)) = fun i => fl1 (if i < j + 1 then anF cs (k + 1) i else anF cs k i)) := Lib.hid fun k hk j hj => by
      funext i
      by_cases h1 : i = j
      · subst h1; rw [if_pos rfl, if_pos (by omega), anF_succ cs k i hk, hj]; simp [fl1]
      · rw [if_neg h1]
        by_cases h2 : i < j
        · rw [if_pos h2, if_pos (by omega)]
        · rw [if_neg h2, if_neg (by omega)]
    have HStay : Hid (∀ k (hk : k < cs.length) j, flg cs[k] j = false → (fun i => fl1 (if i < j then anF cs (k + 1) i else anF cs k i)) = fun i => fl1 (if i < j + 1 then anF cs (k + 1) i else anF cs k i)) := Lib.hid fun k hk j hj => by
      funext i
      by_cases h1 : i = j
      · subst h1; rw [if_neg (Nat.lt_irrefl i), if_pos (by omega), anF_succ cs k i hk, hj]; simp
      · by_cases h2 : i < j
        · rw [if_pos h2, if_pos (by omega)]
        · rw [if_neg h2, if_neg (by omega)]
    have HSep := Lib.hid hsep
    have HFl := Lib.hid (fun c (hc : c ∈ cs) k (hk : k < 11) W v (hv : Sl cI W v (li c)) => spec_l05Flag_all c k hk v W hv (HRel.out c hc).2)
    have HCl := Lib.hid (fun c (hc : c ∈ cs) => (HRel.out c hc).1)
    have hlen := HLen.out
    clear hf hbk hb HRel
    go_wp2
    go_loopw [10, 11] (fun ix _ wr => ∃ k : Nat, k ≤ cs.length ∧ ix = .int .i64 k ∧ Blk wr g 2 (arr fun j => fl1 (anF cs k j)) ∧ ObF B H wr (.slice A4 cs.length c4) (cs.map fun c => ((n : Int), li c)) ∧ Below w3.heap.size w3 wr) (fun ix _ _ => cs.length - (intOf ix).toNat)
    case atStart => exact ⟨0, Nat.zero_le _, rfl, HBk.out, HO.out, HBx.out⟩
    case round =>
      obtain ⟨k, hk, rfl, hbk, hf, hb⟩ := hrel
      have HBk1 := Lib.hid hbk
      have HBr := Lib.hid hb
      have HO1 := Lib.hid hf
      by_cases hkl : k < cs.length
      · have HStk := Lib.hid (HStep.out k hkl)
        have HSyk := Lib.hid (HStay.out k hkl)
        have HIk := Lib.hid (HIn.out k)
        have HOk := Lib.hid (HOut.out k)
        have hmem := List.getElem_mem hkl
        have HFk := Lib.hid (HFl.out _ hmem)
        have hcl := HCl.out _ hmem
        rw [hcl] at HFk
        have HAt : Hid (∀ X, ObF B H X (.slice A4 cs.length c4) (cs.map fun c => ((n : Int), li c)) → ∃ b o Ai ci, A4 = some ⟨b, o, none⟩ ∧ b < X.heap.size ∧ X.cell? ⟨b, o + k * 2, none⟩ = some (.int .i64 n) ∧ X.cell? ⟨b, o + k * 2 + 1, none⟩ = some (.slice Ai n ci) ∧ Sl cI X (.slice Ai n ci) (li cs[k])) := Lib.hid fun X hX => by
          obtain ⟨b, o, Ai, ci, e1, hbl, hc0, hc1, hs⟩ := hX.sl.at_ (k := k) (by rw [List.length_map]; exact hkl)
          rw [List.getElem_map] at hc0 hc1 hs
          dsimp only at hc0 hc1 hs
          rw [li_length, hcl] at hc1 hs
          exact ⟨b, o, Ai, ci, e1, hbl, hc0, hc1, hs⟩
        generalize cs[k] = c at *
        clear hbk hf hb hmem
        go_wp2
        go_loopw [11] (fun ix wr => ∃ j : Nat, j ≤ 11 ∧ ix = .int .i64 j ∧ Blk wr g 2 (arr fun i => fl1 (if i < j then anF cs (k + 1) i else anF cs k i)) ∧ ObF B H wr (.slice A4 cs.length c4) (cs.map fun c => ((n : Int), li c)) ∧ Below w3.heap.size w3 wr) (fun ix _ => 11 - (intOf ix).toNat)
        case atStart => exact ⟨0, Nat.zero_le _, rfl, by rw [← HIk.out]; exact HBk1.out, HO1.out, HBr.out⟩
        case round =>
          obtain ⟨j, hj, rfl, hbk, hf, hb⟩ := hrel
          have HBr := Lib.hid hb
          have HO1 := Lib.hid hf
          by_cases hjl : j < 11
          · obtain ⟨b, o, Ai, ci, e1, hbl, hc0, hc1, hs⟩ := HAt.out _ hf
            subst e1
            have HC5 := Lib.hid (HFk.out j hjl wr _ hs)
            have HBk1 := Lib.hid hbk
            have HSt1 := Lib.hid (HStk.out j)
            have HSy1 := Lib.hid (HSyk.out j)
            generalize flg c j = fb at *
            have hjd : decide ((j : Int) < 11) = true := decide_eq_true (by omega)
            clear hbk hf hb
            go_wp2_with fail
            refine HC5.out.mono ?_
            rintro e w4 ⟨rfl, hb4⟩
            have HB4 := Lib.hid (bthen HBr.out hb4)
            have HO4 := Lib.hid (HO1.out.below hb4)
            have hk4 := HBk1.out.below hb4 HBk1.out.lt
            have HK4 := Lib.hid hk4
            have hfj := hk4.frozen j
            have hlj := hk4.lt
            have hcj := (hk4.cell j).trans (arr_get _ hjl)
            clear hb4 hk4 hs hc0 hc1 hbl
            cases fb with
            | true =>
              have HSet : Hid (Blk (w4.setCell ⟨g, j, none⟩ (.int .i64 1)) g 2 (arr fun i => fl1 (if i < j + 1 then anF cs (k + 1) i else anF cs k i))) := Lib.hid (by
                have := HK4.out.set_ j (.int .i64 1)
                rw [arr_set _ hjl, HSt1.out rfl] at this
                exact this)
              have HOs := Lib.hid (HO4.out.keep (Keep.setCell g j w4 (.int .i64 1)) HSep.out)
              have HBs := Lib.hid (fun u => HB4.out.setCell (p := ⟨g, j, none⟩) hg u)
              generalize fl1 _ = yc at *
              go_wp2
              go_roundw
              case rel => exact ⟨j + 1, by omega, by go_num, HSet.out, HOs.out, HBs.out _⟩
              case measure => simp [intOf]; omega
            | false =>
              have HSet : Hid (Blk w4 g 2 (arr fun i => fl1 (if i < j + 1 then anF cs (k + 1) i else anF cs k i))) := Lib.hid (by
                rw [← HSy1.out rfl]
                exact HK4.out)
              generalize fl1 _ = yc at *
              go_wp2
              go_roundw
              case rel => exact ⟨j + 1, by omega, by go_num, HSet.out, HO4.out, HB4.out⟩
              case measure => simp [intOf]; omega
          · obtain rfl : j = 11 := by omega
            have HBk1 := Lib.hid hbk
            rw [HOk.out] at HBk1
            clear hbk hf hb
            go_wp2
            go_roundw
            case rel => exact ⟨k + 1, by omega, by go_num, HBk1.out, HO1.out, HBr.out⟩
            case measure => simp [intOf]; omega
      · obtain rfl : k = cs.length := by omega
        have HBE := Lib.hid (bthen HB3.out hb)
        have HOw : Hid (Ow cI 2 w.heap.size wr (.slice (some ⟨g, 0, none⟩) 11 11) (flL cs)) := Lib.hid (Ow.ofArr hbk (Nat.le_trans HB3.out.size hg))
        clear hbk hf hb
        go_wp2
        go_ret2
        exact ⟨.slice (some ⟨g, 0, none⟩) 11 11, rfl, HOw.out, HBE.out⟩
/-- marks of an own list of any element type -/
theorem mark_int64S_e {e : TypeId} (v : Value) (xs : List Int) (k : Int) (B : Nat) (w : World) (h : Ow cI e B w v xs) (hl : xs.length ≤ 1073741824) (hk : 0 ≤ k ∧ k ≤ 1073741824) :
    Calls Tryz.prog 29 #[v, .int .i64 k] w fun r w' => r = .returned (.int .i64 (k + xs.length)) ∧ Ow cI e B w' v (numL xs.length k) ∧ w.grownBy w' v.ownBlock := by
  obtain ⟨⟨A, c, rfl, hc, hm⟩, ho'⟩ := id h
  have ho1 : Ow cI e B w (.slice A xs.length c) xs := h
  clear h ho'
  go_enter Tryz.func29, Tryz.ntmps29
  go_wp2
  go_loopw [1, 5] (fun q i wr => ∃ j : Nat, j ≤ xs.length ∧ i = .int .i64 j ∧ q = .int .i64 (k + j) ∧ Ow cI e B wr (.slice A xs.length c) (numL j k ++ xs.drop j) ∧ w.grownBy wr (Value.ownBlock (.slice A xs.length c))) (fun _ i _ => xs.length - (intOf i).toNat)
  case atStart => exact ⟨0, Nat.zero_le _, rfl, by simp, by simpa [numL] using ho1, World.grownBy.refl _ _⟩
  case round =>
    obtain ⟨j, hj, rfl, rfl, ho, hg⟩ := hrel
    by_cases hlt : j < xs.length
    · obtain ⟨g, rfl, -, -⟩ := ho.head (by simp [numL_length]; omega)
      obtain ⟨hc1, hf1, hB1, hg1'⟩ := ho.at1 rfl (j := j) (by simp [numL_length]; omega) rfl
      obtain ⟨old, hc1'⟩ : ∃ old, wr.cell? ⟨g, j, none⟩ = some old := ⟨_, hc1⟩
      have hset := ho.set1 (j := j) (x := k + j) (u := .int .i64 (k + j)) rfl rfl (by simp [numL_length]; omega)
      rw [set_numL xs k j hlt] at hset
      have H := Lib.hid ho
      clear ho hc1
      go_wp2
      go_roundw
      case rel =>
        exact ⟨j + 1, by omega, by go_num, by go_num, hset, hg.trans ⟨rfl, rfl, rfl, by simp [World.setCell], fun i _ hne => Below.heap_setCell _ _ _ _ (fun e => hne (by simp [Value.ownBlock, e]))⟩⟩
      case measure => simp [intOf]; omega
    · obtain rfl : j = xs.length := by omega
      have ho2 : Ow cI e B wr (.slice A xs.length c) (numL xs.length k) := by simpa using ho
      clear ho
      go_wp2
      go_ret
      exact ⟨rfl, ho2, hg⟩
theorem u_mark_SIe {e : TypeId} (v : Value) (xs : List Int) (k : Int) (B H : Nat) (w : World) (h : Ob cI e B H w v xs) (hl : xs.length ≤ 268435456) (hk : 0 ≤ k ∧ k ≤ 268435456) :
    Calls Tryz.prog 29 #[v, .int .i64 k] w fun r w' => r = .returned (.int .i64 (k + xs.length)) ∧ Ob cI e B H w' v (numL xs.length k) ∧ Keep B H w w' :=
  (mark_int64S_e v xs k B w h.1 (by omega) (by omega)).mono fun e w' ⟨he, ho, hg⟩ => ⟨he, h.inv ho, Keep.of_grown hg fun g hk => ⟨(h.1.block g hk).1, h.2 g hk⟩⟩
end Go.Proofs.YtgdmfihnbbgcoaaGreatDoor
