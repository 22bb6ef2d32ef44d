/- Joined of several texts: 05h, 05g. -/
import Derived.Test.Ytkllbehdmlbhaaa05f
namespace Go.Proofs.Ytkllbehdmlbhaaa
open Go.RowKit
set_option linter.unusedVariables false
set_option linter.unusedSimpArgs false
/- Contracts of chapter 5: two flags of a frame, of the reference. -/
theorem q_l01Image {v : Value} {ns : List Nat} {m : Nat} {W : World} (h : Sl cI W v (li ns)) (hr : RelN ns) (hm : m < 256) (n : Nat) :
    Calls Try.prog 46 #[v, .int .i64 m] (W.drewN n) fun e w'' => e = .returned (.int .i64 (img ns m : Nat)) ∧ ∃ m, w'' = W.drewN m :=
  (spec_l01Image v ns m _ (h.drewN n) hr hm).mono fun e w' hh => ⟨hh.1, n, hh.2.symm⟩
/- Contracts of chapter 5: two flags of a frame, of the program. -/
theorem li_eq_iff (a b : List Nat) : decide (li a = li b) = decide (a = b) := by
  have : li a = li b ↔ a = b := by
    unfold li
    constructor
    · intro h
      exact (List.map_inj_right (fun x y h => Int.ofNat.inj h)).1 h
    · intro h; rw [h]
  rw [Bool.eq_iff_iff, decide_eq_true_eq, decide_eq_true_eq, this]
theorem impl_hasFlag_6 (x : Nat) (B : Nat) (A : Option Addr) (n c : Nat) (cs : List Nat) (w : World) (hc : w.cell? ⟨B, 0, none⟩ = some (.slice A n c)) (h : Sl cI w (.slice A n c) (li cs)) (hx : x < cs.length) (h8 : cs.length ≤ 8) (hb : cs.getD x 0 < 256) :
    Calls Try.prog 94 #[.int .i64 x, .pointer (some ⟨B, 0, none⟩)] w fun e w' => e = .returned (.bool (!(cs.getD x 0).testBit x)) ∧ Below w.heap.size w w' := by
  have hx' : x < (li cs).length := by rw [li_length]; exact hx
  have hn : n = (li cs).length := by
    obtain ⟨A', c', hv⟩ := h.opn
    injection hv
  subst hn
  obtain ⟨b, o, rfl, hbl, hc0⟩ := h.atI hx'
  rw [li_get] at hc0
  have hxl : (x : Int) < ((li cs).length : Int) := by omega
  generalize (li cs).length = L at *
  generalize cs.getD x 0 = y at *
  clear h
  go_enter Try.func94, Try.ntmps94
  go_wp2_with fail
  refine (impl_has y x _ (by omega) (by omega)).mono ?_
  rintro e w1 ⟨rfl, rfl⟩
  go_wp2
  go_ret
  exact ⟨rfl, Below.refl _ _⟩
theorem en_hasFlag_6 : ∀ (args : Array Value) (w : World), (callFunc 94 args).run Try.prog w = .ok (.enter 94 args) w := enters Try.func94 (by kernel_rfl) (by kernel_rfl)
set_option maxRecDepth 100000 in
theorem impl_hasFlag_2 (ns : List Nat) (v : Value) (w : World) (h : Sl cI w v (li ns)) (hr : RelN ns) :
    Calls Try.prog 76 #[.agg #[.int .i64 ns.length, v], .int .i64 2] w fun e w' => e = .returned (.bool (trv ns)) ∧ Below w.heap.size w w' := by
  obtain ⟨A, c, rfl⟩ := h.opn
  have h8 := hr.1
  have EL := Lib.hid (li_length ns)
  rw [EL.out] at h ⊢
  have hb0 := below_alloc' w (.cells #[.int .i64 ns.length, .slice A ns.length c] 77)
  have hk0 := Blk.new w 77 #[.int .i64 ns.length, .slice A ns.length c]
  have hkl := hk0.lt
  have HK := Lib.hid hk0
  have HS := Lib.hid (h.below hb0)
  have HB := Lib.hid hb0
  have HN := Lib.hid hr
  obtain ⟨cs, hcs⟩ : ∃ cs, cs = clo ns ns.length := ⟨_, rfl⟩
  have EC : Hid (cs.length = ns.length) := Lib.hid (by rw [hcs, clo_length])
  have HC : Hid (∀ i, cs.getD i 0 < 256) := Lib.hid (fun i => Nat.lt_of_lt_of_le (getD_lt (by rw [hcs]; exact clo_lt hr.2 _) i) (two_pow_256 h8))
  have HT := Lib.hid (fun W (hW : Sl cI W (.slice A ns.length c) (li ns)) => hcs ▸ impl_transitive _ ns W hW hr)
  have HE := Lib.hid (fun W vB (hW : Sl cI W vB (li cs)) (hW2 : Sl cI W (.slice A ns.length c) (li ns)) => slices_Equal_int64 _ _ _ _ W hW hW2 (by rw [li_length, EC.out]; omega) (by rw [li_length, li_length, EC.out]))
  have ET : Hid (trv ns = decide (li cs = li ns)) := Lib.hid (by rw [li_eq_iff, trv_clo, hcs])
  have EA : Hid (acy ns = (List.range ns.length).all fun x => !(cs.getD x 0).testBit x) := Lib.hid (by rw [hcs]; rfl)
  clear h hb0 hk0 hr hcs
  go_enter Try.func76, Try.ntmps76
  go_wp2_with fail
  refine (impl_inverse _ ns _ HS.out HN.out).mono ?_
  rintro e w1 ⟨A1, m1, c1, rfl, hb⟩
  have HS1 := Lib.hid (HS.out.below hb)
  have HK1 := Lib.hid (HK.out.below hb hkl)
  have HB1 := Lib.hid (HB.out.trans (hb.mono HB.out.size))
  clear hb
  go_upto_region 8 with fail
  have hb2 := below_alloc' w1 (.cells #[.slice A1 m1 c1] 26)
  have HS2 := Lib.hid (HS1.out.below hb2)
  have hk2 := HK1.out.below hb2 HK1.out.lt
  have HK2 := Lib.hid hk2
  have HB2 := Lib.hid (bthen HB1.out hb2)
  clear hb2 HS1 HK1 HB1
  generalize w1.alloc (.cells #[.slice A1 m1 c1] 26) = W at *
  have d0 : W.cell? ⟨w.heap.size, 0, none⟩ = some (.int .i64 ns.length) := hk2.cell 0
  have d1 : W.cell? ⟨w.heap.size, 1, none⟩ = some (.slice A ns.length c) := hk2.cell 1
  have hlt := hk2.lt
  clear hk2
  go_region_held3 (fun w' => w'.cell? ⟨w.heap.size, 1, none⟩ = some (.slice A ns.length c)) (first | exact d1'' | exact d1' | exact d1 | (simp [*]; done)) (first | (go_at_call 89; refine (HT.out _ (HS2.out.below (below_drewN (Below.refl _ _) 1))).mono ?_; rintro e w2 ⟨u, rfl, ho, hb2⟩; have hb3 : Below W.heap.size W w2 := (below_drewN (Below.refl _ _) 1).trans hb2; have d1' := (hb3.cell (p := ⟨w.heap.size, 1, none⟩) hlt).trans d1; have hs3 := HS2.out.below hb3) | (go_at_call 81; refine (HE.out _ _ ho.sl hs3).mono ?_; rintro e w3 ⟨rfl, hb4⟩; have d1'' := (hb4.cell (p := ⟨w.heap.size, 1, none⟩) (Nat.lt_of_lt_of_le hlt hb3.size)).trans d1'))
  all_goals
    have HB3 := Lib.hid (bthen (bthen HB2.out hb3) hb4)
    clear d1'' d1' hb2 hb3 hb4 hs3
    go_wp2
    go_ret
    exact ⟨by rw [ET.out]; rfl, HB3.out⟩
set_option maxRecDepth 100000 in
theorem impl_hasFlag_7 (ns : List Nat) (v : Value) (w : World) (h : Sl cI w v (li ns)) (hr : RelN ns) :
    Calls Try.prog 76 #[.agg #[.int .i64 ns.length, v], .int .i64 7] w fun e w' => e = .returned (.bool (acy ns)) ∧ Below w.heap.size w w' := by
  obtain ⟨A, c, rfl⟩ := h.opn
  have h8 := hr.1
  have EL := Lib.hid (li_length ns)
  rw [EL.out] at h ⊢
  have hb0 := below_alloc' w (.cells #[.int .i64 ns.length, .slice A ns.length c] 77)
  have hk0 := Blk.new w 77 #[.int .i64 ns.length, .slice A ns.length c]
  have hkl := hk0.lt
  have HK := Lib.hid hk0
  have HS := Lib.hid (h.below hb0)
  have HB := Lib.hid hb0
  have HN := Lib.hid hr
  obtain ⟨cs, hcs⟩ : ∃ cs, cs = clo ns ns.length := ⟨_, rfl⟩
  have EC : Hid (cs.length = ns.length) := Lib.hid (by rw [hcs, clo_length])
  have HC : Hid (∀ i, cs.getD i 0 < 256) := Lib.hid (fun i => Nat.lt_of_lt_of_le (getD_lt (by rw [hcs]; exact clo_lt hr.2 _) i) (two_pow_256 h8))
  have HT := Lib.hid (fun W (hW : Sl cI W (.slice A ns.length c) (li ns)) => hcs ▸ impl_transitive _ ns W hW hr)
  have HE := Lib.hid (fun W vB (hW : Sl cI W vB (li cs)) (hW2 : Sl cI W (.slice A ns.length c) (li ns)) => slices_Equal_int64 _ _ _ _ W hW hW2 (by rw [li_length, EC.out]; omega) (by rw [li_length, li_length, EC.out]))
  have ET : Hid (trv ns = decide (li cs = li ns)) := Lib.hid (by rw [li_eq_iff, trv_clo, hcs])
  have EA : Hid (acy ns = (List.range ns.length).all fun x => !(cs.getD x 0).testBit x) := Lib.hid (by rw [hcs]; rfl)
  clear h hb0 hk0 hr hcs
  go_enter Try.func76, Try.ntmps76
  go_wp2_with fail
  refine (impl_inverse _ ns _ HS.out HN.out).mono ?_
  rintro e w1 ⟨A1, m1, c1, rfl, hb⟩
  have HS1 := Lib.hid (HS.out.below hb)
  have HK1 := Lib.hid (HK.out.below hb hkl)
  have HB1 := Lib.hid (HB.out.trans (hb.mono HB.out.size))
  clear hb
  go_upto_region 18 with fail
  have hb2 := below_alloc' w1 (.cells #[.slice A1 m1 c1] 26)
  have HS2 := Lib.hid (HS1.out.below hb2)
  have hk2 := HK1.out.below hb2 HK1.out.lt
  have HK2 := Lib.hid hk2
  have HB2 := Lib.hid (bthen HB1.out hb2)
  clear hb2 HS1 HK1 HB1
  generalize w1.alloc (.cells #[.slice A1 m1 c1] 26) = W at *
  have d0 : W.cell? ⟨w.heap.size, 0, none⟩ = some (.int .i64 ns.length) := hk2.cell 0
  have d1 : W.cell? ⟨w.heap.size, 1, none⟩ = some (.slice A ns.length c) := hk2.cell 1
  have hlt := hk2.lt
  clear hk2
  go_wp2_with fail
  refine (HT.out _ HS2.out).mono ?_
  rintro e w2 ⟨u, rfl, ho, hb⟩
  obtain ⟨B2, c2, rfl⟩ := ho.opn
  have HB3 := Lib.hid (bthen HB2.out hb)
  have hk3 := HK2.out.below hb hlt
  have hos := ho.sl
  have hb5 := below_alloc' w2 (.cells #[.slice B2 (li cs).length c2] 26)
  have hkn := Blk.new w2 26 #[.slice B2 (li cs).length c2]
  have hknl := hkn.lt
  have HW := Lib.hid (impl_everyWorld ns.length (.slice A ns.length c) A ns.length c rfl 94 #[.pointer (some ⟨w2.heap.size, 0, none⟩)] (fun x => !(cs.getD x 0).testBit x) (w2.alloc (.cells #[.slice B2 (li cs).length c2] 26)) h8 en_hasFlag_6 (fun w' hw' i hi => by
    rw [show (#[Value.int .i64 (i : Int)] ++ #[Value.pointer (some ⟨w2.heap.size, 0, none⟩)] : Array Value) = #[.int .i64 i, .pointer (some ⟨w2.heap.size, 0, none⟩)] from rfl]
    exact impl_hasFlag_6 i w2.heap.size B2 (li cs).length c2 cs w' ((hkn.below hw' hknl).cell 0) ((hos.below hb5).below hw') (by rw [EC.out]; exact hi) (by rw [EC.out]; exact h8) (HC.out i)))
  have HB5 := Lib.hid (bthen HB3.out hb5)
  have hk5 := hk3.below hb5 hk3.lt
  have k1 := hk5.cell
  have k2 := hk5.lt
  clear ho hos hb hb5 hkn hk3 hk5 d0 d1
  go_wp2_with fail
  refine HW.out.mono ?_
  rintro e w4 ⟨rfl, hb⟩
  have HB6 := Lib.hid (bthen HB5.out hb)
  clear hb k1
  go_wp2
  go_ret
  exact ⟨by rw [EA.out]; rfl, HB6.out⟩
end Go.Proofs.Ytkllbehdmlbhaaa
