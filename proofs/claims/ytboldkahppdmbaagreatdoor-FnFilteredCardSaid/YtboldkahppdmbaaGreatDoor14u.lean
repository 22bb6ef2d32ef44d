/- Contracts of chapter 14: the code of a model and a formula, the space with its code, a frame of a list. -/
import Derived.Test.YtboldkahppdmbaaGreatDoor14q
import Derived.Test.YtboldkahppdmbaaGreatDoorED
namespace Go.Proofs.YtboldkahppdmbaaGreatDoor
open Go.RowKit
set_option linter.unusedVariables false
set_option linter.unusedSimpArgs false
/-- the code of a model and a formula -/
def fcode (n : Int) (xs vs : List Int) (zs : List Nd) : Int := if mdOk n xs vs && isF zs then 0 else 1
theorem fcode_zero {n : Int} {xs vs : List Int} {zs : List Nd} (h : fcode n xs vs zs = 0) : (∃ ns us : List Nat, xs = li ns ∧ vs = li us ∧ n = ns.length ∧ MdN ns us) ∧ (∃ f : Fm, f.ok = true ∧ zs = enc f ∧ (enc f).length ≤ 40) ∧ mdOk n xs vs = true ∧ isF zs = true := by
  unfold fcode at h
  cases h1 : mdOk n xs vs
  · rw [h1] at h; simp at h
  · cases h2 : isF zs
    · rw [h1, h2] at h; simp at h
    · obtain ⟨ns, us, rfl, rfl, rfl, hr, hu, hb⟩ := mdOk_iff h1
      have hv : vcode zs 0 = 0 := by unfold vcode; rw [h2]; rfl
      exact ⟨⟨ns, us, rfl, rfl, rfl, ⟨hr, hu, hb⟩⟩, (vcode_zero hv).1, rfl, rfl⟩
theorem fcode_cases (n : Int) (xs vs : List Int) (zs : List Nd) : fcode n xs vs zs = 0 ∨ (fcode n xs vs zs = 1 ∧ (mdOk n xs vs = false ∨ (mdOk n xs vs = true ∧ isF zs = false))) := by
  unfold fcode
  cases mdOk n xs vs <;> cases isF zs <;> simp
theorem impl_modelCode (n : Int) (va vu vf : Value) (xs vs : List Int) (zs : List Nd) (w : World) (ha : Sl cI w va xs) (hu : Sl cI w vu vs) (hf : Sl cN w vf zs) (hl : xs.length ≤ 1048576) (hl' : vs.length ≤ 1048576) (hl2 : zs.length ≤ 1048576) :
    Calls Tryz.prog 20 #[.agg #[.int .i64 n, va, vu], vf] w fun e w' => e = .returned (.int .i64 (fcode n xs vs zs)) ∧ Below w.heap.size w w' := by
  obtain ⟨A0, c0, rfl⟩ := ha.opn
  obtain ⟨A1, c1, rfl⟩ := hu.opn
  have hb0 := below_alloc' w (.cells #[.int .i64 n, .slice A0 xs.length c0, .slice A1 vs.length c1] 28)
  have hk0 := Blk.new w 28 #[.int .i64 n, .slice A0 xs.length c0, .slice A1 vs.length c1]
  have H1 := Lib.hid (impl_isModel n _ _ xs vs _ (ha.below hb0) (hu.below hb0) (by omega) (by omega))
  have H2 := Lib.hid (fun W (hW : Sl cN W vf zs) => impl_isFormula vf zs W hW (by omega))
  have Hf := Lib.hid (hf.below hb0)
  have HB := Lib.hid hb0
  have HK0 := Lib.hid hk0
  clear ha hu hf hb0 hk0
  cases hm : mdOk n xs vs
  · have E : Hid (fcode n xs vs zs = 1) := Lib.hid (by unfold fcode; rw [hm]; rfl)
    rw [hm] at H1
    clear hm
    go_enter Tryz.func20, Tryz.ntmps20
    go_upto_region 1 with fail
    generalize World.alloc w _ = W at *
    have k0 := HK0.out.cell
    have l0 := HK0.out.lt
    go_wp2_with fail
    refine H1.out.mono ?_
    rintro e w1 ⟨rfl, hb⟩
    have HB1 := Lib.hid (bthen HB.out hb)
    clear hb
    go_wp2
    go_ret
    exact ⟨by rw [E.out]; rfl, HB1.out⟩
  · have E : Hid (fcode n xs vs zs = if isF zs then 0 else 1) := Lib.hid (by unfold fcode; rw [hm]; rfl)
    rw [hm] at H1
    clear hm
    go_enter Tryz.func20, Tryz.ntmps20
    go_upto_region 1 with fail
    generalize World.alloc w _ = W at *
    have k0 := HK0.out.cell
    have l0 := HK0.out.lt
    go_wp2_with fail
    refine H1.out.mono ?_
    rintro e w1 ⟨rfl, hb⟩
    have HB1 := Lib.hid (bthen HB.out hb)
    have Hf1 := Lib.hid (Hf.out.below hb)
    clear hb k0
    go_wp2_with fail
    refine (H2.out _ Hf1.out).mono ?_
    rintro e w2 ⟨rfl, hb⟩
    have HB2 := Lib.hid (bthen HB1.out hb)
    clear hb
    cases hz : isF zs
    · have E2 := E.out
      rw [hz] at E2
      have E3 := Lib.hid E2
      clear hz E2 E
      go_wp2
      go_ret
      exact ⟨by rw [E3.out]; rfl, HB2.out⟩
    · have E2 := E.out
      rw [hz] at E2
      have E3 := Lib.hid E2
      clear hz E2 E
      go_wp2
      go_ret
      exact ⟨by rw [E3.out]; rfl, HB2.out⟩
/-- what l14Code gives where there is no error -/
def SpOk (w w' : World) (ns us : List Nat) (f : Fm) (A0 A1 : Option Addr) (c0 c1 : Nat) (s : Value) : Prop :=
  ∃ (A2 : Option Addr) (c2 : Nat) (A3 : Option Addr) (c3 : Nat) (Ab : Option Addr) (nb cb : Nat) (Ai : Option Addr) (ni ci : Nat) (Ao : Option Addr) (no co : Nat),
    s = .agg #[.int .i64 ns.length, .slice A0 ns.length c0, .slice A1 6 c1, .slice A2 ns.length c2, .slice A3 (acn ns us f) c3, .slice Ab nb cb, .slice Ai ni ci, .slice Ao no co] ∧
    Ow cI 2 w.heap.size w' (.slice A2 ns.length c2) (li (acl ns us f)) ∧
    SpR w' ns us f A0 A1 c0 c1 (.slice A2 ns.length c2) (.slice A3 (acn ns us f) c3) (.slice Ab nb cb) (.slice Ai ni ci) (.slice Ao no co)
theorem spec_l14Code_ok (ns us : List Nat) (f : Fm) (A0 A1 : Option Addr) (c0 c1 : Nat) (v : Value) (w : World) (hm : Mdl w (.slice A0 ns.length c0) (.slice A1 6 c1) ns us) (h1 : MdN ns us) (h : Sl cN w v (enc f)) (hok : f.ok = true) (hl : (enc f).length ≤ 40) (hmk : mdOk ns.length (li ns) (li us) = true) (hfk : isF (enc f) = true) :
    Calls Tryz.prog 28 #[.agg #[.int .i64 ns.length, .slice A0 ns.length c0, .slice A1 6 c1], v] w
      fun e w' => ∃ s, e = .returned (.tuple #[s, .int .i64 0]) ∧ SpOk w w' ns us f A0 A1 c0 c1 s ∧ Below w.heap.size w w' := by
  have hb0 := below_alloc' w (.cells #[.int .i64 ns.length, .slice A0 ns.length c0, .slice A1 6 c1] 28)
  have hk0 := Blk.new w 28 #[.int .i64 ns.length, .slice A0 ns.length c0, .slice A1 6 c1]
  have hb1 := below_alloc' (w.alloc (.cells #[.int .i64 ns.length, .slice A0 ns.length c0, .slice A1 6 c1] 28)) (.cells #[.int .i64 0, .slice none 0 0, .slice none 0 0, .slice none 0 0, .slice none 0 0, .slice none 0 0, .slice none 0 0, .slice none 0 0] 59)
  have hk1 : Blk _ (w.heap.size + 1) _ _ := Blk.new' (w.alloc (.cells #[.int .i64 ns.length, .slice A0 ns.length c0, .slice A1 6 c1] 28)) 59 #[.int .i64 0, .slice none 0 0, .slice none 0 0, .slice none 0 0, .slice none 0 0, .slice none 0 0, .slice none 0 0, .slice none 0 0] (by simp)
  have HB := Lib.hid (bthen hb0 hb1)
  have HK0 := Lib.hid (hk0.below hb1 hk0.lt)
  have HK1 := Lib.hid hk1
  have HM := Lib.hid hm
  have HF := Lib.hid h
  have E1 := Lib.hid (li_length ns)
  have E2 := Lib.hid (show (li us).length = 6 by rw [li_length, h1.l])
  have HI := Lib.hid (fun W (hW : Below w.heap.size w W) => hmk ▸ spec_l06Is ns.length _ _ (li ns) (li us) W (hm.a.below hW) (hm.u.below hW) (by rw [E1.out]; have := h1.r.1; omega) (by rw [E2.out]; omega))
  have HJ := Lib.hid (fun W (hW : Below w.heap.size w W) => hfk ▸ spec_l02Is v (enc f) W (h.below hW) (by omega))
  have HC := Lib.hid (fun W (hW : Below w.heap.size w W) => spec_l14Make ns us f A0 A1 c0 c1 v W (hm.below hW) h1 (h.below hW) hok hl)
  clear hb0 hb1 hk0 hk1 hm h hmk hfk h1
  go_enter Tryz.func28, Tryz.ntmps28
  go_upto_region 1 with fail
  generalize World.alloc (w.alloc _) _ = W at *
  have k0 := HK0.out.cell
  have l0 := HK0.out.lt
  go_wp2_with fail
  refine (HI.out _ HB.out).mono ?_
  rintro e w1 ⟨rfl, hb⟩
  have HB1 := Lib.hid (bthen HB.out hb)
  have HK2 := Lib.hid (HK0.out.below hb l0)
  have HK3 := Lib.hid (HK1.out.below hb HK1.out.lt)
  clear hb k0 l0
  have k0 := HK2.out.cell
  have l0 := HK2.out.lt
  go_wp2_with fail
  refine (HJ.out _ HB1.out).mono ?_
  rintro e w2 ⟨rfl, rfl⟩
  go_wp2_with fail
  refine (HC.out _ HB1.out).mono ?_
  rintro e w2 ⟨cls, fst, bo, inn, out, rfl, ho1, ho2, ho3, ho4, ho5, hb⟩
  obtain ⟨A2, c2, rfl⟩ := ho1.opn
  obtain ⟨A3, c3, rfl⟩ := ho2.opn
  obtain ⟨Ab, nb, cb, rfl⟩ : ∃ a n c, bo = .slice a n c := by obtain ⟨a, c, e⟩ := ho3.opn; exact ⟨a, _, c, e⟩
  obtain ⟨Ai, ni, ci, rfl⟩ : ∃ a n c, inn = .slice a n c := by obtain ⟨a, c, e⟩ := ho4.opn; exact ⟨a, _, c, e⟩
  obtain ⟨Ao, no, co, rfl⟩ : ∃ a n c, out = .slice a n c := by obtain ⟨a, c, e⟩ := ho5.opn; exact ⟨a, _, c, e⟩
  have e1 : (li (acl ns us f)).length = ns.length := by rw [li_length, acl_length]
  have e2 : (li (afw ns us f)).length = acn ns us f := by rw [li_length, afw_length]
  rw [e1] at ho1 ⊢
  rw [e2] at ho2 ⊢
  have hr := HK3.out.below hb HK3.out.lt
  have rc := hr.cell
  have rf := hr.frozen
  have rl := hr.lt
  have lt1 := HK3.out.lt
  have L1 := Lib.hid lt1
  have O1 := Lib.hid ho1
  have O2 := Lib.hid ho2
  have O3 := Lib.hid ho3
  have O4 := Lib.hid ho4
  have O5 := Lib.hid ho5
  have HB2 := Lib.hid (bthen HB1.out hb)
  clear ho1 ho2 ho3 ho4 ho5 hb hr e1 e2 k0 l0 lt1
  go_wp2
  have hz : ∀ {α : Type} {K : Cod α} {e : TypeId} {v : Value} {xs : List α} (W3 : World) (u0 u1 u2 u3 u4 u5 u6 u7 : Value), Ow K e w1.heap.size W3 v xs → Ow K e w1.heap.size ((((((((W3.setCell ⟨w.heap.size + 1, 0, none⟩ u0).setCell ⟨w.heap.size + 1, 1, none⟩ u1).setCell ⟨w.heap.size + 1, 2, none⟩ u2).setCell ⟨w.heap.size + 1, 3, none⟩ u3).setCell ⟨w.heap.size + 1, 4, none⟩ u4).setCell ⟨w.heap.size + 1, 5, none⟩ u5).setCell ⟨w.heap.size + 1, 6, none⟩ u6).setCell ⟨w.heap.size + 1, 7, none⟩ u7) v xs := fun W3 u0 u1 u2 u3 u4 u5 u6 u7 h => by
    iterate 8 refine Ow.setBelow ?_ (show w.heap.size + 1 < w1.heap.size from L1.out) _
    exact h
  have hbb : ∀ (u0 u1 u2 u3 u4 u5 u6 u7 : Value), Below w.heap.size w ((((((((w2.setCell ⟨w.heap.size + 1, 0, none⟩ u0).setCell ⟨w.heap.size + 1, 1, none⟩ u1).setCell ⟨w.heap.size + 1, 2, none⟩ u2).setCell ⟨w.heap.size + 1, 3, none⟩ u3).setCell ⟨w.heap.size + 1, 4, none⟩ u4).setCell ⟨w.heap.size + 1, 5, none⟩ u5).setCell ⟨w.heap.size + 1, 6, none⟩ u6).setCell ⟨w.heap.size + 1, 7, none⟩ u7) := fun u0 u1 u2 u3 u4 u5 u6 u7 => by
    iterate 8 refine Below.setCell ?_ (show w.heap.size ≤ w.heap.size + 1 from Nat.le_succ _) _
    exact HB2.out
  refine bodyPost_ret (v := .tuple #[.agg #[.int .i64 ns.length, .slice A0 ns.length c0, .slice A1 6 c1, .slice A2 ns.length c2, .slice A3 (acn ns us f) c3, .slice Ab nb cb, .slice Ai ni ci, .slice Ao no co], .int .i64 0]) (by simp [results, Tryz.results28, go_sem, rc, rf, rl]) rfl ⟨_, rfl, ⟨A2, c2, A3, c3, Ab, nb, cb, Ai, ni, ci, Ao, no, co, rfl, ?_, ⟨?_, ?_, ?_, ?_, ?_, ?_⟩⟩, ?_⟩
  · exact (hz w2 _ _ _ _ _ _ _ _ O1.out).mono HB1.out.size
  · exact HM.out.below (hbb _ _ _ _ _ _ _ _)
  · exact (hz w2 _ _ _ _ _ _ _ _ O1.out).sl
  · exact (hz w2 _ _ _ _ _ _ _ _ O2.out).sl
  · exact (hz w2 _ _ _ _ _ _ _ _ O3.out).sl
  · exact (hz w2 _ _ _ _ _ _ _ _ O4.out).sl
  · exact (hz w2 _ _ _ _ _ _ _ _ O5.out).sl
  · exact hbb _ _ _ _ _ _ _ _
theorem spec_l14Code_bad (n : Int) (va vu vf : Value) (xs vs : List Int) (zs : List Nd) (w : World) (ha : Sl cI w va xs) (hu : Sl cI w vu vs) (hf : Sl cN w vf zs) (hl : xs.length ≤ 1048576) (hl' : vs.length ≤ 1048576) (hl2 : zs.length ≤ 1048576) (hc : mdOk n xs vs = false ∨ (mdOk n xs vs = true ∧ isF zs = false)) :
    Calls Tryz.prog 28 #[.agg #[.int .i64 n, va, vu], vf] w fun e w' => e = .returned (.tuple #[.agg #[.int .i64 0, .slice none 0 0, .slice none 0 0, .slice none 0 0, .slice none 0 0, .slice none 0 0, .slice none 0 0, .slice none 0 0], .int .i64 1]) ∧ Below w.heap.size w w' := by
  obtain ⟨A0, c0, rfl⟩ := ha.opn
  obtain ⟨A1, c1, rfl⟩ := hu.opn
  have hb0 := below_alloc' w (.cells #[.int .i64 n, .slice A0 xs.length c0, .slice A1 vs.length c1] 28)
  have hk0 := Blk.new w 28 #[.int .i64 n, .slice A0 xs.length c0, .slice A1 vs.length c1]
  have hb1 := below_alloc' (w.alloc (.cells #[.int .i64 n, .slice A0 xs.length c0, .slice A1 vs.length c1] 28)) (.cells #[.int .i64 0, .slice none 0 0, .slice none 0 0, .slice none 0 0, .slice none 0 0, .slice none 0 0, .slice none 0 0, .slice none 0 0] 59)
  have hk1 : Blk _ (w.heap.size + 1) _ _ := Blk.new' (w.alloc (.cells #[.int .i64 n, .slice A0 xs.length c0, .slice A1 vs.length c1] 28)) 59 #[.int .i64 0, .slice none 0 0, .slice none 0 0, .slice none 0 0, .slice none 0 0, .slice none 0 0, .slice none 0 0, .slice none 0 0] (by simp)
  have HB := Lib.hid (bthen hb0 hb1)
  have HK0 := Lib.hid (hk0.below hb1 hk0.lt)
  have HK1 := Lib.hid hk1
  have HF := Lib.hid hf
  have H1 := Lib.hid (fun W (hW : Below w.heap.size w W) => spec_l06Is n _ _ xs vs W (ha.below hW) (hu.below hW) (by omega) (by omega))
  have H2 := Lib.hid (fun W (hW : Below w.heap.size w W) => spec_l02Is vf zs W (hf.below hW) (by omega))
  have HC := Lib.hid hc
  clear ha hu hf hb0 hb1 hk0 hk1 hc
  go_enter Tryz.func28, Tryz.ntmps28
  go_upto_region 1 with fail
  generalize World.alloc (w.alloc _) _ = W at *
  have k0 := HK0.out.cell
  have l0 := HK0.out.lt
  go_wp2_with fail
  refine (H1.out _ HB.out).mono ?_
  rintro e w1 ⟨rfl, hb⟩
  have HB1 := Lib.hid (bthen HB.out hb)
  have hr := HK1.out.below hb HK1.out.lt
  have rc := hr.cell
  have rf := hr.frozen
  have rl := hr.lt
  clear hb k0 hr
  have hh := HC.out
  rcases hh with hh | ⟨hh, hz⟩
  · rw [hh]
    clear hh
    go_wp2
    refine bodyPost_ret (v := .tuple #[.agg #[.int .i64 0, .slice none 0 0, .slice none 0 0, .slice none 0 0, .slice none 0 0, .slice none 0 0, .slice none 0 0, .slice none 0 0], .int .i64 1]) (by simp [results, Tryz.results28, go_sem, rc, rf, rl]) rfl ⟨rfl, ?_⟩
    iterate 8 refine Below.setCell ?_ (show w.heap.size ≤ w.heap.size + 1 from Nat.le_succ _) _
    exact HB1.out
  · rw [hh]
    clear hh
    have HZ := Lib.hid hz
    clear hz
    go_wp2_with fail
    refine (H2.out _ HB1.out).mono ?_
    rintro e w2 ⟨rfl, rfl⟩
    rw [HZ.out]
    go_wp2
    refine bodyPost_ret (v := .tuple #[.agg #[.int .i64 0, .slice none 0 0, .slice none 0 0, .slice none 0 0, .slice none 0 0, .slice none 0 0, .slice none 0 0, .slice none 0 0], .int .i64 1]) (by simp [results, Tryz.results28, go_sem, rc, rf, rl]) rfl ⟨rfl, ?_⟩
    iterate 8 refine Below.setCell ?_ (show w.heap.size ≤ w.heap.size + 1 from Nat.le_succ _) _
    exact HB1.out
end Go.Proofs.YtboldkahppdmbaaGreatDoor
