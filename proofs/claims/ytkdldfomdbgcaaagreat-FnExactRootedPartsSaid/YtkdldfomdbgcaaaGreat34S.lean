/- slices.SortFunc at frames, at most twelve of them: the rows end sorted by compareFrames. -/
import Derived.Test.YtkdldfomdbgcaaaGreat34E
import Derived.Shelf.SlSortCmp.SmallK
import Derived.Shelf.SlSortCmp.Xorshift
namespace Go.Proofs.YtkdldfomdbgcaaaGreat
open Go.RowKit
set_option linter.unusedVariables false
set_option linter.unusedSimpArgs false
/- The shelf's laying, written out by the shelf's own program. -/
def Tryz.lSrF_ren : Go.Shelf.Ren := ⟨fun | 6 => 53 | 15 => 86 | 14 => 85 | 28 => 131 | 29 => 132 | 20 => 123 | 21 => 124 | 22 => 125 | 23 => 126 | 24 => 127 | 25 => 128 | 26 => 129 | 27 => 130 | 46 => 164 | 47 => 165 | 48 => 166 | 49 => 167 | 50 => 168 | 57 => 178 | n => n, fun | 22 => 66 | 24 => 68 | 25 => 72 | 3 => 3 | 39 => 93 | 0 => 0 | 53 => 127 | 55 => 129 | 4 => 4 | 46 => 120 | 45 => 119 | 50 => 124 | 5 => 5 | 9 => 9 | 66 => 142 | 70 => 146 | 76 => 157 | 77 => 158 | n => n, fun | n => n⟩
theorem Tryz.lSrF : Go.Proofs.SlLaysF0.n6 Tryz.prog Tryz.lSrF_ren := {
  mixed := by kernel_rfl
  f6 := ⟨Tryz.f53.name, by decide, Tryz.func53.trans (congrArg some (by kernel_rfl))⟩
  f14 := ⟨Tryz.f85.name, by decide, Tryz.func85.trans (congrArg some (by kernel_rfl))⟩
  f15 := Tryz.func86.trans (congrArg some (by kernel_rfl))
  f20 := ⟨Tryz.f123.name, by decide, Tryz.func123.trans (congrArg some (by kernel_rfl))⟩
  f21 := ⟨Tryz.f124.name, by decide, Tryz.func124.trans (congrArg some (by kernel_rfl))⟩
  f22 := ⟨Tryz.f125.name, by decide, Tryz.func125.trans (congrArg some (by kernel_rfl))⟩
  f23 := ⟨Tryz.f126.name, by decide, Tryz.func126.trans (congrArg some (by kernel_rfl))⟩
  f24 := ⟨Tryz.f127.name, by decide, Tryz.func127.trans (congrArg some (by kernel_rfl))⟩
  f25 := ⟨Tryz.f128.name, by decide, Tryz.func128.trans (congrArg some (by kernel_rfl))⟩
  f26 := ⟨Tryz.f129.name, by decide, Tryz.func129.trans (congrArg some (by kernel_rfl))⟩
  f27 := ⟨Tryz.f130.name, by decide, Tryz.func130.trans (congrArg some (by kernel_rfl))⟩
  f28 := Tryz.func131.trans (congrArg some (by kernel_rfl))
  f29 := Tryz.func132.trans (congrArg some (by kernel_rfl))
  f46 := ⟨Tryz.f164.name, by decide, Tryz.func164.trans (congrArg some (by kernel_rfl))⟩
  f47 := Tryz.func165.trans (congrArg some (by kernel_rfl))
  f48 := Tryz.func166.trans (congrArg some (by kernel_rfl))
  f49 := ⟨Tryz.f167.name, by decide, Tryz.func167.trans (congrArg some (by kernel_rfl))⟩
  f50 := ⟨Tryz.f168.name, by decide, Tryz.func168.trans (congrArg some (by kernel_rfl))⟩
  f57 := ⟨Tryz.f178.name, by decide, Tryz.func178.trans (congrArg some (by kernel_rfl))⟩
  t0 := Tryz.underlying0
  a0 := Tryz.isAgg0
  z0 := Tryz.sizeOf0
  v0 := Tryz.zeroValue0
  t3 := Tryz.underlying3
  a3 := Tryz.isAgg3
  z3 := Tryz.sizeOf3
  v3 := Tryz.zeroValue3
  t4 := Tryz.underlying4
  a4 := Tryz.isAgg4
  z4 := Tryz.sizeOf4
  v4 := Tryz.zeroValue4
  t5 := Tryz.underlying5
  a5 := Tryz.isAgg5
  z5 := Tryz.sizeOf5
  v5 := Tryz.zeroValue5
  t9 := Tryz.underlying9
  a9 := Tryz.isAgg9
  z9 := Tryz.sizeOf9
  v9 := Tryz.zeroValue9
  t22 := Tryz.underlying66
  a22 := Tryz.isAgg66
  z22 := Tryz.sizeOf66
  v22 := Tryz.zeroValue66
  t25 := Tryz.underlying72
  a25 := Tryz.isAgg72
  z25 := Tryz.sizeOf72
  v25 := Tryz.zeroValue72
  t39 := Tryz.underlying93
  a39 := Tryz.isAgg93
  z39 := Tryz.sizeOf93
  v39 := Tryz.zeroValue93
  t45 := Tryz.underlying119
  a45 := Tryz.isAgg119
  z45 := Tryz.sizeOf119
  v45 := Tryz.zeroValue119
  t46 := Tryz.underlying120
  a46 := Tryz.isAgg120
  z46 := Tryz.sizeOf120
  v46 := Tryz.zeroValue120
  t50 := Tryz.underlying124
  a50 := Tryz.isAgg124
  z50 := Tryz.sizeOf124
  v50 := Tryz.zeroValue124
  t53 := Tryz.underlying127
  a53 := Tryz.isAgg127
  z53 := Tryz.sizeOf127
  v53 := Tryz.zeroValue127
  t55 := Tryz.underlying129
  a55 := Tryz.isAgg129
  z55 := Tryz.sizeOf129
  v55 := Tryz.zeroValue129
  t66 := Tryz.underlying142
  a66 := Tryz.isAgg142
  z66 := Tryz.sizeOf142
  v66 := Tryz.zeroValue142
  t70 := Tryz.underlying146
  a70 := Tryz.isAgg146
  z70 := Tryz.sizeOf146
  v70 := Tryz.zeroValue146
  t76 := Tryz.underlying157
  a76 := Tryz.isAgg157
  z76 := Tryz.sizeOf157
  v76 := Tryz.zeroValue157
  t77 := Tryz.underlying158
  a77 := Tryz.isAgg158
  z77 := Tryz.sizeOf158
  v77 := Tryz.zeroValue158 }
theorem bits_Len12 (n : Nat) (W : World) (h : n ≤ 12) : Calls Tryz.prog 86 #[.int .u64 n] W fun e w' => (∃ l : Int, e = .returned (.int .i64 l)) ∧ w' = W :=
  (Any.bits_Len (SlLaysF0.n15.bits (P := Tryz.prog) (ρ := Tryz.lSrF_ren) { Tryz.lSrF with }) n W (by omega) (by omega)).mono fun _ _ ⟨he, hw⟩ => ⟨⟨_, he⟩, hw⟩
/-- frames' headers put in another order -/
def pmH (hs : List (Int × Hd)) (p : List Nat) : List (Int × Hd) := p.map fun i => hs.getD i (0, ⟨none, 0, 0⟩)
set_option maxRecDepth 100000 in
set_option maxHeartbeats 1000000 in
theorem slices_SortFunc_frames (hs : List (Int × Hd)) (xss : List (List Nat)) (B : Nat) (v : Value) (w : World) (h : Ow cF 68 B w v hs) (hl : hs.length = xss.length) (hn : 0 < xss.length) (h12 : xss.length ≤ 12) (hlen : ∀ i (hi : i < xss.length), xss[i].length ≤ 1000)
    (hr : ∀ i (p : i < hs.length) (q : i < xss.length), hs[i].1 = (xss[i].length : Int) ∧ Sl cI w hs[i].2.val (li xss[i]) ∧ ∀ k, hs[i].2.val.ownBlock = some k → v.ownBlock ≠ some k) :
    Calls Tryz.prog 53 #[v, .func (.func 54) #[] #[]] w fun e w' => e = .returned (.tuple #[]) ∧ ∃ p : List Nat, p.Perm (List.range xss.length) ∧ Sl cF w' v (pmH hs p) ∧ (∀ i j, i < j → j < p.length → ¬ cmf (xss.getD (p.getD j 0) []) (xss.getD (p.getD i 0) []) < 0) ∧ KpS (fun k => v.ownBlock = some k) w w' := by
  obtain ⟨g, c, rfl, hgB, hgz, hfz, hcell⟩ := h.form (by omega)
  obtain ⟨-, hc, hm⟩ := h.sl.cap
  have hN : ∀ i : Fin xss.length, i.val < hs.length := fun i => by rw [hl]; exact i.isLt
  let enc : Fin xss.length → List Value := fun i => [.int .i64 (hs[i.val]'(hN i)).1, (hs[i.val]'(hN i)).2.val]
  let cf : Fin xss.length → Fin xss.length → Int := fun i j => cmf (xss[i.val]'i.isLt) (xss[j.val]'j.isLt)
  haveI : Inhabited (Fin xss.length) := ⟨⟨0, hn⟩⟩
  have hcf : ∀ i j, ltOf cf i j = decide (cmf (xss[i.val]'i.isLt) (xss[j.val]'j.isLt) < 0) := fun i j => rfl
  have hO : Go.Sort.SWO (ltOf cf) := ⟨fun x => by rw [hcf, cmf_refl]; rfl, fun x y z a b => by
      rw [hcf] at *
      simp only [decide_eq_true_eq] at *
      exact cmf_trans a b, fun x y z a b => by
      rw [hcf] at *
      simp only [decide_eq_false_iff_not] at *
      intro h3
      have e1 := cmf_anti (xss[y.val]'y.isLt) (xss[z.val]'z.isLt)
      have e2 := cmf_anti (xss[x.val]'x.isLt) (xss[y.val]'y.isLt)
      by_cases h4 : cmf (xss[y.val]'y.isLt) (xss[z.val]'z.isLt) = 0
      · rw [← cmf_zero h4] at h3; exact a h3
      · exact a (cmf_trans h3 (by rw [e1]; omega))⟩
  let d : Array (Fin xss.length) := Array.ofFn (fun i => i)
  have hd : d.size = xss.length := Array.size_ofFn
  have hdj : ∀ j (hj : j < xss.length), d[j]! = ⟨j, hj⟩ := fun j hj => by
    rw [getElem!_pos d j (by rw [hd]; exact hj)]
    exact Array.getElem_ofFn _
  have hH : Go.Sort.HoldsK enc 2 w g 0 d := fun t ht => by
    rw [Go.Sort.size_flatK, hd] at ht
    have h1 : t / 2 < xss.length := by omega
    rw [Go.Sort.get_flatK enc 2 d t (by rw [hd]; exact ht), hdj _ h1, Nat.zero_add]
    refine ⟨?_, hfz t⟩
    rw [hcell t (by rw [hl]; show t < xss.length * 2; omega)]
    have h2 := flat_get (K := cF) hs (t / 2) (by omega) (t % 2) (by show t % 2 < 2; omega)
    rw [show t / 2 * cF.size + t % 2 = t by show t / 2 * 2 + t % 2 = t; omega] at h2
    rw [h2]
    rcases (by omega : t % 2 = 0 ∨ t % 2 = 1) with e | e <;> rw [e] <;> rfl
  have hcmp : CmpLays Tryz.prog 54 #[] enc 2 cf g 0 d.size w := fun m os dk hsz x y => by
    have key : ∀ i : Fin xss.length, Sl cI (sortWorldK enc 2 w g 0 m dk os) (hs[i.val]'(hN i)).2.val (li (xss[i.val]'i.isLt)) := fun i => by
      obtain ⟨-, q1, q2⟩ := hr i.val (hN i) i.isLt
      refine q1.keptAt (by simp [sortWorldK, Go.Sort.grow, Go.Sort.ahead, Go.Sort.putRowK]) fun p hp hpb => ?_
      have hne : p.block ≠ g := fun e => (q2 _ hpb) (by rw [e]; rfl)
      unfold sortWorldK
      rw [Go.Sort.cell?_grow _ _ _ (by simpa [Go.Sort.ahead, Go.Sort.putRowK] using hp)]
      exact Go.Sort.cell?_putRow_other id (Go.Sort.ahead w m) g 0 _ p (Or.inl hne)
    have h3 := impl_compareFrames _ _ _ _ _ (key x) (key y) (hlen _ x.isLt) (hlen _ y.isLt)
    rw [← (hr x.val (hN x) x.isLt).1, ← (hr y.val (hN y) y.isLt).1] at h3
    exact h3
  have hS := AnyQ.slices_SortFunc_small_sorted Tryz.lSrF 2 Tryz.isAgg68 Tryz.sizeOf68 enc (fun x => rfl) (fun x v hv => by simp [enc] at hv; rcases hv with rfl | rfl <;> rfl) cf 54 #[] hO g 0 c d w (fun args w => rfl) hcmp hH hgz (by rw [hd]; exact h12) (fun n W hn => bits_Len12 n W hn)
  rw [hd] at hS
  rw [hl]
  refine hS.mono fun e w' ⟨he, d', n, os, hp, hso, hw⟩ => ?_
  have hsz : d'.size = xss.length := hp.1.trans hd
  have hpl : (d'.toList.map (·.val)).length = xss.length := by simp [hsz]
  have hpg : ∀ i (hi : i < xss.length), (d'.toList.map (·.val)).getD i 0 = (d'[i]'(by omega)).val := fun i hi => by
    rw [List.getD_eq_getElem?_getD, List.getElem?_eq_getElem (by rw [hpl]; exact hi), Option.getD_some]
    simp
  refine ⟨he, d'.toList.map (·.val), ?_, ?_, ?_, ?_⟩
  · have h1 := hp.2.2
    have e1 : d'.extract 0 xss.length = d' := Array.extract_eq_self_of_le (by omega)
    have e2 : d.extract 0 xss.length = d := Array.extract_eq_self_of_le (by omega)
    rw [e1, e2] at h1
    have h2 := h1.map (·.val)
    have e3 : d.toList.map (·.val) = List.range xss.length := by
      apply List.ext_getElem (by simp [d])
      intro i h3 h4
      simp [d]
    rw [e3] at h2
    exact h2
  · have hK : Go.Sort.HoldsK enc 2 w' g 0 d' := by
      rw [hw]
      unfold sortWorldK
      exact Go.Sort.holdsK_grow enc 2 _ _ _ _ _ (by simpa [Go.Sort.ahead, Go.Sort.putRowK] using hgz) (Go.Sort.holdsK_putRowK enc 2 _ _ _ d d' (Go.Sort.holdsK_ahead enc 2 _ _ _ _ _ hH) (by rw [hsz, hd]))
    have hml : (pmH hs (d'.toList.map (·.val))).length = xss.length := by simp [pmH, hsz]
    refine ⟨some ⟨g, 0, none⟩, c, by rw [hml], by rw [hml]; omega, hm, .inr ⟨g, 0, rfl, ?_, fun t u ht => ?_⟩⟩
    · rw [hw]; simp [sortWorldK, Go.Sort.grow, Go.Sort.ahead, Go.Sort.putRowK]; omega
    · have htl : t < xss.length * 2 := by
        rcases Nat.lt_or_ge t (xss.length * 2) with h1 | h1
        · exact h1
        · rw [List.getElem?_eq_none (by rw [flat_length, hml]; exact h1)] at ht
          cases ht
      have h1 : t / 2 < xss.length := by omega
      have h2 := flat_get (K := cF) (pmH hs (d'.toList.map (·.val))) (t / 2) (by omega) (t % 2) (by show t % 2 < 2; omega)
      rw [show t / 2 * cF.size + t % 2 = t by show t / 2 * 2 + t % 2 = t; omega, ht] at h2
      have h3 := (hK.cell (i := t / 2) (c := t % 2) (by omega) (by omega)).1
      rw [show 0 + t / 2 * 2 + t % 2 = 0 + t by omega] at h3
      rw [h3]
      have e4 : d'[t / 2]! = d'[t / 2]'(by omega) := getElem!_pos d' (t / 2) (by omega)
      have e5 : (pmH hs (d'.toList.map (·.val)))[t / 2]'(by omega) = hs[(d'[t / 2]'(by omega)).val]'(hN _) := by
        simp only [pmH, List.getElem_map, Array.getElem_toList]
        rw [List.getD_eq_getElem?_getD, List.getElem?_eq_getElem (hN _), Option.getD_some]
      rw [e5] at h2
      rw [e4]
      rcases (by omega : t % 2 = 0 ∨ t % 2 = 1) with e | e <;> rw [e] at h2 ⊢ <;> exact h2.symm
  · intro i j hij hj
    rw [hpl] at hj
    have h1 := hso i j (Nat.zero_le _) hij hj
    rw [getElem!_pos d' i (by omega), getElem!_pos d' j (by omega), hcf] at h1
    rw [hpg i (by omega), hpg j hj, List.getD_eq_getElem?_getD, List.getElem?_eq_getElem (d'[j]'(by omega)).isLt, Option.getD_some, List.getD_eq_getElem?_getD, List.getElem?_eq_getElem (d'[i]'(by omega)).isLt, Option.getD_some]
    exact of_decide_eq_false h1
  · rw [hw]
    refine ⟨rfl, rfl, rfl, by simp [sortWorldK, Go.Sort.grow, Go.Sort.ahead, Go.Sort.putRowK], fun k hk hne => ?_⟩
    have hkg : g ≠ k := fun e => hne (by rw [e]; rfl)
    simp only [sortWorldK, Go.Sort.grow, Go.Sort.putRowK, Go.Sort.putRow, Go.Sort.mapBlock, Go.Sort.ahead]
    rw [Array.getElem?_append_left (by simpa using hk), Array.getElem?_modify, if_neg hkg]
theorem insertionSort_nil (f : Value) (w : World) : Calls Tryz.prog 123 #[.slice none 0 0, .int .i64 0, .int .i64 0, f] w fun e w' => e = .returned (.tuple #[]) ∧ w = w' := by
  go_enter Tryz.func123, Tryz.ntmps123
  go_wp2
  refine wp_loop_rounds 1 ?_
  rw [rounds_succ]
  go_wp2
  go_end0
  exact ⟨rfl, rfl⟩
theorem pdqsort_nil (l : Int) (f : Value) (w : World) : Calls Tryz.prog 85 #[.slice none 0 0, .int .i64 0, .int .i64 0, .int .i64 l, f] w fun e w' => e = .returned (.tuple #[]) ∧ w = w' := by
  have HI := Lib.hid (fun W => insertionSort_nil f W)
  go_enter Tryz.func85, Tryz.ntmps85
  go_wp2
  refine wp_loop_rounds 1 ?_
  rw [rounds_succ]
  go_wp2_with fail
  refine (HI.out _).mono ?_
  rintro e w' ⟨rfl, rfl⟩
  go_wp2
  (try simp only [Exit.inBlock, Exit.then]); refine bodyPost_ret (results_none rfl _ _ _) rfl ?_
  exact ⟨rfl, rfl⟩
theorem slices_SortFunc_nil (f : Value) (w : World) : Calls Tryz.prog 53 #[.slice none 0 0, f] w fun e w' => e = .returned (.tuple #[]) ∧ w = w' := by
  have HB := Lib.hid (fun W => bits_Len12 0 W (by omega))
  have HP := Lib.hid (fun l W => pdqsort_nil l f W)
  rw [show ((0 : Nat) : Int) = 0 from rfl] at HB
  go_enter Tryz.func53, Tryz.ntmps53
  go_wp2_with fail
  refine (HB.out _).mono ?_
  rintro e w' ⟨⟨l, rfl⟩, rfl⟩
  go_wp2_with fail
  refine (HP.out _ _).mono ?_
  rintro e w' ⟨rfl, rfl⟩
  go_wp2
  go_end0
  exact ⟨rfl, rfl⟩
end Go.Proofs.YtkdldfomdbgcaaaGreat
