/- Contracts of the program: a side without a text; is a text in a side? -/
import Derived.Test.YtaigiopoogbbbaaGreatY20
import Derived.Shelf.SlicesE.DeleteFunc
namespace Go.Proofs.YtaigiopoogbbbaaGreat
open Go.RowKit
set_option linter.unusedVariables false
set_option linter.unusedSimpArgs false
def Tryz.lDelS_ren : Go.Shelf.Ren := ⟨fun | 10 => 124 | 6 => 115 | n => n, fun | 22 => 62 | 23 => 9 | 25 => 113 | 3 => 3 | 4 => 4 | 0 => 0 | n => n, fun | n => n⟩
theorem Tryz.lDelS : Go.Proofs.SlLaysH.n10 Tryz.prog Tryz.lDelS_ren := {
  mixed := by kernel_rfl
  f6 := ⟨Tryz.f115.name, by decide, Tryz.func115.trans (congrArg some (by kernel_rfl))⟩
  f10 := ⟨Tryz.f124.name, by decide, Tryz.func124.trans (congrArg some (by kernel_rfl))⟩
  t0 := Tryz.underlying0
  a0 := Tryz.isAgg0
  z0 := Tryz.sizeOf0
  v0 := Tryz.zeroValue0
  t3 := Tryz.underlying3
  a3 := Tryz.isAgg3
  z3 := Tryz.sizeOf3
  v3 := Tryz.zeroValue3
  t4 := Tryz.underlying4
  a4 := Tryz.isAgg4
  z4 := Tryz.sizeOf4
  v4 := Tryz.zeroValue4
  t22 := Tryz.underlying62
  a22 := Tryz.isAgg62
  z22 := Tryz.sizeOf62
  v22 := Tryz.zeroValue62
  a23 := Tryz.isAgg9
  z23 := Tryz.sizeOf9
  t25 := Tryz.underlying113
  a25 := Tryz.isAgg113
  z25 := Tryz.sizeOf113
  v25 := Tryz.zeroValue113 }
/-- slices.DeleteFunc of a row of the call's own, with a predicate that reads what lies below B -/
theorem slices_DeleteFuncS (v : Value) (xs : List T8) (p : T8 → Bool) (gp : FuncId) (lb : Array Value) (B : Nat) (w : World) (h : Ow cL8 9 B w v xs) (hB : B ≤ w.heap.size) (hl : xs.length ≤ 1048576)
    (eg : ∀ args w, (callFunc gp args).run Tryz.prog w = .ok (.enter gp args) w)
    (hp : ∀ (W : World) (x : T8), Below B w W → Calls Tryz.prog gp (#[.string ⟨⟨x⟩⟩] ++ lb) W fun e w' => e = .returned (.bool (p x)) ∧ ∃ q, w' = W.drewN q) :
    Calls Tryz.prog 124 #[v, .func (.func gp) #[] lb] w fun e w' => ∃ u, e = .returned u ∧ Ow cL8 9 B w' u (xs.filter fun x => !p x) ∧ Below B w w' := by
  rcases h.cases8 with ⟨rfl, rfl⟩ | ⟨g, c, rfl⟩
  · have hcon := AnyE.slices_IndexFunc_empty { Tryz.lDelS with } none 0 (.func (.func gp) #[] lb) w
    change Calls Tryz.prog 115 _ _ _ at hcon
    have HC := Lib.hid hcon
    clear hcon h hp eg
    go_enter Tryz.func124, Tryz.ntmps124
    go_wp2_with fail
    refine HC.out.mono ?_
    rintro e w1 ⟨rfl, rfl⟩
    go_wp2
    go_ret
    exact ⟨_, rfl, Ow.nil _ _, Below.refl _ _⟩
  · obtain ⟨h1, h2, h3, h4, h5⟩ := h.holds8
    have hcon := AnyE.slices_DeleteFunc Tryz.lDelS Go.Proofs.encStr (fun _ => rfl) p gp lb eg [] Tryz.zeroValue9 g 0 c xs.toArray w
      (fun W x hW => hp W x (hW.mono hB)) (fun n os dk x hd => hp _ x ?_) h1 (by simp; omega) (by simpa using h4)
    · change Calls Tryz.prog 124 _ _ _ at hcon
      refine hcon.mono fun e w' ⟨he, q, hw⟩ => ?_
      subst hw
      have hlen := List.length_filter_le (fun x => !p x) xs
      have := h.put8 (ys := xs.filter fun x => !p x) (zs := List.replicate (xs.length - (xs.filter fun x => !p x).length) []) (q := q) (os := #[]) (by simp; omega)
      simp only [Go.Sort.grow_empty] at this
      refine ⟨_, he, ?_⟩
      simpa using this
    · have := h.put8 (ys := dk.toList) (zs := []) (q := n) (os := os) (by simpa using hd)
      simpa [sortWorld] using this.2
theorem slices_CloneS (v : Value) (xs : List ByteArray) (w : World) (h : Sl cS w v xs) (hl : xs.length ≤ 1048576) :
    Calls Tryz.prog 125 #[v] w fun e w' => ∃ u, e = .returned u ∧ Ow cS 9 w.heap.size w' u xs ∧ Below w.heap.size w w' := by
  obtain ⟨A, c, rfl⟩ := h.opn
  by_cases hA : A = none
  · subst hA
    obtain rfl := h.none_nil
    have hq := fun W : World => Lib.run_eql_slice_nil (P := Tryz.prog) W 62 9 none 0 c 0 0 Tryz.underlying62
    go_enter Tryz.func125, Tryz.ntmps125
    go_wp2_with (at_builtin; refine stopHere ?_)
    go_ret
    exact ⟨_, rfl, Ow.nil _ _, Below.refl _ _⟩
  · obtain ⟨ad, rfl⟩ := Option.ne_none_iff_exists'.1 hA
    clear hA
    have hq := fun W : World => Lib.run_eql_slice_nil (P := Tryz.prog) W 62 9 (some ad) xs.length c 0 0 Tryz.underlying62
    go_enter Tryz.func125, Tryz.ntmps125
    go_wp2_with (at_builtin; refine stopHere ?_)
    refine goHere ?_
    refine ap_sl (K := cS) _ ty_str rfl _ _ rfl rfl rfl (B := w.heap.size) (xs := []) (news := xs) (Ow.lit [] rfl rfl (Nat.le_refl _)) (h.alloc _) (by simp <;> omega) (by simp) ?_
    intro v1 w1 ho hg hb hat
    have hb' : Below w.heap.size w w1 := ((Below.refl _ _).alloc (Nat.le_refl _) _).trans hb
    have O := Lib.hid ho; clear ho hg hb hat
    go_wp2
    go_ret
    exact ⟨_, rfl, O.out, hb'⟩
theorem en_drop_1 : ∀ (args : Array Value) (w : World), (callFunc 126 args).run Tryz.prog w = .ok (.enter 126 args) w := enters Tryz.func126 (by kernel_rfl) (by kernel_rfl)
theorem impl_drop_1 (x t : T8) (b : Nat) (w : World) (h : w.cell? ⟨b, 0, none⟩ = some (.string ⟨⟨t⟩⟩)) (hb : b < w.heap.size) :
    Calls Tryz.prog 126 #[.string ⟨⟨x⟩⟩, .pointer (some ⟨b, 0, none⟩)] w fun e w' => e = .returned (.bool (decide (x = t))) ∧ ∃ q, w' = w.drewN q := by
  by_cases hx : x = t
  · subst hx
    go_enter Tryz.func126, Tryz.ntmps126
    go_wp2
    go_ret
    exact ⟨by simp, 0, rfl⟩
  · have hne : ¬ (⟨⟨x⟩⟩ : ByteArray) = (⟨⟨t⟩⟩ : ByteArray) := fun e => hx (by injection e with e; injection e)
    have hne2 := ba_ne hne
    have HD := Lib.hid (decide_eq_false hx)
    go_enter Tryz.func126, Tryz.ntmps126
    go_wp2
    go_ret
    exact ⟨by rw [HD.out]; simp_all, 0, rfl⟩
set_option maxRecDepth 100000 in
theorem impl_drop (v : Value) (L : List T8) (t : T8) (w : World) (h : Sl cS w v (bs L)) (hl : L.length ≤ 1048576) :
    Calls Tryz.prog 114 #[v, .string ⟨⟨t⟩⟩] w fun e w' => ∃ r, e = .returned r ∧ Ow cS 9 w.heap.size w' r (bs (L.filter fun x => !decide (x = t))) ∧ Below w.heap.size w w' := by
  have hb0 := below_alloc' w (.cells #[.string ⟨⟨t⟩⟩] 9)
  have hk0 := Blk.new w 9 #[.string ⟨⟨t⟩⟩]
  have H1 := Lib.hid (h.below hb0)
  have HB := Lib.hid hb0
  have HK := Lib.hid hk0
  clear hb0 hk0 h
  go_enter Tryz.func114, Tryz.ntmps114
  go_upto_region 1 with fail
  generalize World.alloc w _ = w1 at *
  have l0 := HK.out.lt
  have HD : Hid (∀ u w2, Ow cL8 9 w1.heap.size w2 u L → w1.heap.size ≤ w2.heap.size → Below w1.heap.size w1 w2 → Calls Tryz.prog 124 #[u, .func (.func 126) #[] #[.pointer (some ⟨w.heap.size, 0, none⟩)]] w2 fun e w' => ∃ r, e = .returned r ∧ Ow cL8 9 w1.heap.size w' r (L.filter fun x => !decide (x = t)) ∧ Below w1.heap.size w2 w') := Lib.hid fun u w2 O2 hz HB2 =>
    slices_DeleteFuncS u L (fun x => decide (x = t)) 126 #[.pointer (some ⟨w.heap.size, 0, none⟩)] w1.heap.size w2 O2 hz hl en_drop_1 (fun W x hW => impl_drop_1 x t w.heap.size W ((hW.cell (p := ⟨w.heap.size, 0, none⟩) l0).trans ((HB2.cell (p := ⟨w.heap.size, 0, none⟩) l0).trans (HK.out.cell 0))) (by have := hW.size; omega))
  go_wp2_with fail
  refine (slices_CloneS v (bs L) _ H1.out (by rw [bs_length]; exact hl)).mono ?_
  rintro e w2 ⟨u, rfl, ho, hb⟩
  have O2 := Lib.hid (Ow.l8 ho)
  have HB2 := Lib.hid hb
  have hz := hb.size
  clear ho hb H1
  go_wp2_with fail
  refine (HD.out u w2 O2.out hz HB2.out).mono ?_
  rintro e w3 ⟨r, rfl, ho, hb⟩
  have O3 := Lib.hid ((Ow.s8 ho).mono HB.out.size)
  have HB3 := Lib.hid (bthen HB.out (HB2.out.trans hb))
  clear ho hb O2 HB2
  go_wp2
  go_ret
  exact ⟨_, rfl, O3.out, HB3.out⟩
theorem slices_IndexS (v : Value) (xs : List ByteArray) (x : ByteArray) (w : World) (h : Sl cS w v xs) (hl : xs.length ≤ 1048576) :
    Calls Tryz.prog 88 #[v, .string x] w fun e w' => (∃ k : Int, e = .returned (.int .i64 k) ∧ (0 ≤ k ↔ x ∈ xs) ∧ -1 ≤ k ∧ k ≤ 1048576) ∧ w = w' := by
  obtain ⟨A, c, rfl⟩ := h.opn
  have H := Lib.hid h
  clear h
  go_enter Tryz.func88, Tryz.ntmps88
  go_wp2
  go_loop [8] (fun i => ∃ j : Nat, j ≤ xs.length ∧ i = .int .i64 j ∧ x ∉ xs.take j) (fun i => xs.length - (intOf i).toNat)
  case atStart => exact ⟨0, Nat.zero_le _, rfl, by simp⟩
  case round =>
    obtain ⟨j, hj, rfl, hh⟩ := hrel
    have Hh := Lib.hid hh; clear hh
    by_cases hlt : j < xs.length
    · obtain ⟨g, o, rfl, hb, hc0⟩ := H.out.atS hlt
      by_cases hx : x = xs[j]
      · have HM := Lib.hid (show x ∈ xs from hx ▸ List.getElem_mem hlt)
        rw [← hx] at hc0
        clear hx
        go_wp2
        go_ret
        exact ⟨⟨j, rfl, ⟨fun _ => HM.out, fun _ => by omega⟩, by omega, by omega⟩, rfl⟩
      · have hne : (x.toList == xs[j].toList) = false := beq_eq_false_iff_ne.2 (ba_ne hx)
        have HM : Hid (x ∉ xs.take (j + 1)) := Lib.hid (by
          rw [List.take_succ_eq_append_getElem hlt, List.mem_append, List.mem_singleton]
          rintro (h | h)
          · exact Hh.out h
          · exact hx h)
        clear hx
        generalize xs[j] = y at *
        go_wp2
        go_round
        case rel => exact ⟨j + 1, by omega, by go_num, HM.out⟩
        case measure => simp [intOf]; omega
    · obtain rfl : j = xs.length := by omega
      rw [List.take_length] at Hh
      go_wp2
      go_ret
      exact ⟨⟨-1, rfl, ⟨fun h => by omega, fun h => absurd h Hh.out⟩, by omega, by omega⟩, rfl⟩
theorem slices_ContainsS (v : Value) (xs : List ByteArray) (x : ByteArray) (b : Bool) (hbb : b = true ↔ x ∈ xs) (w : World) (h : Sl cS w v xs) (hl : xs.length ≤ 1048576) :
    Calls Tryz.prog 77 #[v, .string x] w fun e w' => e = .returned (.bool b) ∧ w = w' := by
  have HC := Lib.hid (slices_IndexS v xs x w h hl)
  have HB := Lib.hid hbb
  clear h hbb
  go_enter Tryz.func77, Tryz.ntmps77
  go_wp2_with fail
  refine HC.out.mono ?_
  rintro e w1 ⟨⟨k, rfl, hk, h1, h2⟩, rfl⟩
  cases b
  · have h3 : ¬ 0 ≤ k := fun h => by have := HB.out.2 (hk.1 h); cases this
    have h4 := Lib.hid (decide_eq_false h3)
    clear hk
    go_wp2
    go_ret
    exact ⟨by first | rfl | (show Ending.returned (.bool (decide (0 ≤ k))) = _; rw [h4.out]), rfl⟩
  · have h3 : 0 ≤ k := hk.2 (HB.out.1 rfl)
    have h4 := Lib.hid (decide_eq_true h3)
    clear hk
    go_wp2
    go_ret
    exact ⟨by first | rfl | (show Ending.returned (.bool (decide (0 ≤ k))) = _; rw [h4.out]), rfl⟩
end Go.Proofs.YtaigiopoogbbbaaGreat
