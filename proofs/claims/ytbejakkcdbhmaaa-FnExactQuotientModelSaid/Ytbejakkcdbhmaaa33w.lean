/- Contracts of CountSolutions, of the program and of the reference. -/
import Derived.Test.Ytbejakkcdbhmaaa05d
import Derived.Test.Ytbejakkcdbhmaaa06t
namespace Go.Proofs.Ytbejakkcdbhmaaa
open Go.RowKit
set_option linter.unusedVariables false
set_option linter.unusedSimpArgs false
/-- the code of a frame, a formula, a variable and values -/
def scode (n : Int) (xs vs : List Int) (zs : List Nd) (v : Int) : Int := if mdOk n xs vs then vcode zs v else 1
/-- the worlds at which a formula is true where a variable is at those of a mask -/
def slv (ns us : List Nat) (f : Fm) (s m : Nat) : Nat := tv ns (us.set s m) f
def csTo (ns us : List Nat) (f : Fm) (s k : Nat) : Nat := (List.range k).countP fun m => slv ns us f s m == m
theorem csTo_succ (ns us : List Nat) (f : Fm) (s k : Nat) : csTo ns us f s (k + 1) = csTo ns us f s k + if slv ns us f s k = k then 1 else 0 := by
  unfold csTo
  rw [List.range_succ, List.countP_append, List.countP_singleton]
  by_cases h : slv ns us f s k = k <;> simp [h]
theorem csTo_le (ns us : List Nat) (f : Fm) (s k : Nat) : csTo ns us f s k ≤ k := by
  have := List.countP_le_length (p := fun m => slv ns us f s m == m) (l := List.range k)
  simpa [csTo] using this
theorem li_set (us : List Nat) (s m : Nat) : (li us).set s (m : Int) = li (us.set s m) := by
  unfold li
  rw [List.map_set]
theorem set_lt {us : List Nat} {k : Nat} (h : ∀ x ∈ us, x < 2 ^ k) (s m : Nat) (hm : m < 2 ^ k) : ∀ x ∈ us.set s m, x < 2 ^ k := by
  intro x hx
  rcases List.mem_or_eq_of_mem_set hx with h1 | h1
  · exact h x h1
  · rw [h1]; exact hm
theorem impl_solveCode (n v : Int) (va vu vf : Value) (xs vs : List Int) (zs : List Nd) (w : World) (ha : Sl cI w va xs) (hu : Sl cI w vu vs) (hf : Sl cN w vf zs) (hl : xs.length ≤ 1048576) (hl' : vs.length ≤ 1048576) (hl2 : zs.length ≤ 1048576) :
    Calls Try.prog 95 #[.agg #[.int .i64 n, va], vf, .int .i64 v, vu] w fun e w' => e = .returned (.int .i64 (scode n xs vs zs v)) ∧ Below w.heap.size w w' := by
  obtain ⟨A0, c0, rfl⟩ := ha.opn
  obtain ⟨A1, c1, rfl⟩ := hu.opn
  have hb0 := below_alloc' w (.cells #[.int .i64 n, .slice A0 xs.length c0] 37)
  have H1 := Lib.hid (impl_isModel n _ _ xs vs _ (ha.below hb0) (hu.below hb0) (by omega) (by omega))
  have H2 := Lib.hid (fun W (hW : Sl cN W vf zs) => impl_variableCode vf zs v W hW hl2)
  have Hf := Lib.hid (hf.below hb0)
  have HB := Lib.hid hb0
  clear ha hu hf hb0
  cases hm : mdOk n xs vs
  · have E : Hid (scode n xs vs zs v = 1) := Lib.hid (by unfold scode; rw [hm]; rfl)
    rw [hm] at H1
    clear hm
    go_enter Try.func95, Try.ntmps95
    go_wp2_with fail
    refine H1.out.mono ?_
    rintro e w1 ⟨rfl, hb⟩
    have HB1 := Lib.hid (HB.out.trans (hb.mono HB.out.size))
    clear hb
    go_wp2
    go_ret
    exact ⟨by rw [E.out]; rfl, HB1.out⟩
  · have E : Hid (scode n xs vs zs v = vcode zs v) := Lib.hid (by unfold scode; rw [hm]; rfl)
    rw [hm] at H1
    clear hm
    go_enter Try.func95, Try.ntmps95
    go_wp2_with fail
    refine H1.out.mono ?_
    rintro e w1 ⟨rfl, hb⟩
    have HB1 := Lib.hid (HB.out.trans (hb.mono HB.out.size))
    have Hf1 := Lib.hid (Hf.out.below hb)
    clear hb
    go_wp2_with fail
    refine (H2.out _ Hf1.out).mono ?_
    rintro e w2 ⟨rfl, hb⟩
    have HB2 := Lib.hid (bthen HB1.out hb)
    clear hb
    go_wp2
    go_ret
    exact ⟨by rw [E.out]; rfl, HB2.out⟩
theorem impl_solvedWith (ns us : List Nat) (f : Fm) (s m : Nat) (va vu v : Value) (w : World) (ha : Sl cI w va (li ns)) (hu : Sl cI w vu (li us)) (h : Sl cN w v (enc f)) (hr : RelN ns) (hu6 : us.length = 6) (hus : ∀ x ∈ us, x < 2 ^ ns.length) (hok : f.ok = true) (hl : (enc f).length ≤ 40) (hs : s ≤ 5) (hm : m < 2 ^ ns.length) :
    Calls Try.prog 98 #[.agg #[.int .i64 (ns.length : Int), va], v, .int .i64 s, vu, .int .i64 m] w fun e w' => e = .returned (.int .i64 (slv ns us f s m : Nat)) ∧ Below w.heap.size w w' := by
  obtain ⟨A0, c0, rfl⟩ := ha.opn
  have en : (li ns).length = ns.length := li_length ns
  rw [en] at ha ⊢
  have hb0 := below_alloc' w (.cells #[.int .i64 (ns.length : Int), .slice A0 ns.length c0] 37)
  have Ha := Lib.hid (ha.below hb0)
  have Hu := Lib.hid (hu.below hb0)
  have Hh := Lib.hid (h.below hb0)
  have HB := Lib.hid hb0
  have hk0 := Blk.new w 37 #[.int .i64 (ns.length : Int), .slice A0 ns.length c0]
  have HK := Lib.hid hk0
  have hkl := hk0.lt
  have e6 : (li us).length = 6 := by rw [li_length, hu6]
  have E6 := Lib.hid e6
  have HT := Lib.hid (fun (W : World) (vu' : Value) (ha : Sl cI W (.slice A0 ns.length c0) (li ns)) (hu' : Sl cI W vu' (li (us.set s m))) (hf : Sl cN W v (enc f)) => impl_truthSet ns (us.set s m) f _ vu' v W ha hu' hf hr (by simpa using hu6) (set_lt hus s m hm) hok (by omega))
  have HS := Lib.hid (li_set us s m)
  clear ha hu h hb0 hk0 e6 en hr hus hok
  go_enter Try.func98, Try.ntmps98
  go_wp2_with fail
  refine (slices_Clone_int64 _ _ _ Hu.out (by rw [E6.out]; omega)).mono ?_
  rintro e w1 ⟨u, rfl, ho, hb⟩
  obtain ⟨g, c, rfl, hg, hg2, -, -⟩ := ho.form (by rw [E6.out]; omega)
  rw [E6.out] at ho ⊢
  obtain ⟨hc1, hf1, -, -⟩ := ho.at1 rfl (j := s) (by rw [E6.out]; omega) rfl
  obtain ⟨old, hc1⟩ : ∃ old, w1.cell? ⟨g, s, none⟩ = some old := ⟨_, hc1⟩
  have hset := ho.set1 (j := s) (x := (m : Int)) (u := .int .i64 m) rfl rfl (by rw [E6.out]; omega)
  rw [HS.out] at hset
  have hBs : Below (w.alloc (.cells #[.int .i64 (ns.length : Int), .slice A0 ns.length c0] 37)).heap.size (w.alloc (.cells #[.int .i64 (ns.length : Int), .slice A0 ns.length c0] 37)) (w1.setCell ⟨g, s, none⟩ (.int .i64 m)) := hb.setCell hg _
  have k1 := (HK.out.below hBs hkl).cell
  have k2 := (HK.out.below hBs hkl).lt
  have HBs := Lib.hid hBs
  have HSet := Lib.hid hset
  have Ha1 := Lib.hid (Ha.out.below hBs)
  have Hh1 := Lib.hid (Hh.out.below hBs)
  have hne : ¬ g = w.heap.size := by simp at hg; omega
  have k0 := (HK.out.below hb hkl).cell
  clear ho hb hset hBs
  go_wp2_with fail
  refine (HT.out _ _ Ha1.out HSet.out.sl Hh1.out).mono ?_
  rintro e w2 ⟨rfl, hb⟩
  have HB2 := Lib.hid (HB.out.trans ((bthen HBs.out hb).mono HB.out.size))
  clear hb k0 k1
  go_wp2
  go_ret
  exact ⟨rfl, HB2.out⟩
end Go.Proofs.Ytbejakkcdbhmaaa
