/- Joined of several texts. -/
import Derived.Test.YtcikenffeekkeaaGreatDoorY00
import Derived.Test.YtcikenffeekkeaaGreatDoorY01
import Derived.Test.YtcikenffeekkeaaGreatDoorY08
import Derived.Test.YtcikenffeekkeaaGreatDoorY28
import Derived.Shelf.SlicesE.DeleteFunc
import Derived.Shelf.SlicesE.Compact
import Derived.Shelf.SortM.Plain
import Derived.Shelf.SortM.SortNone
import Derived.Sort.OwnSortedInts
import Derived.Test.YtcikenffeekkeaaGreatDoorY26
import Derived.Test.YtcikenffeekkeaaGreatDoorY27
import Derived.Test.YtcikenffeekkeaaGreatDoorY06
namespace Go.Proofs.YtcikenffeekkeaaGreatDoor
/- The library's contracts at []int64 that MeetTraces wants: slices.Contains, Concat, DeleteFunc, Sort, Compact, in the words of Mem. -/
open Go.RowKit
set_option linter.unusedVariables false
set_option linter.unusedSimpArgs false
/-- an owned row of int64s behind the library's change of it, cut to its first ys -/
theorem Ow.put {e : TypeId} {B g c q : Nat} {w : World} {xs ys zs : List Int} {os : Array Obj} (h : Ow cI e B w (.slice (some ⟨g, 0, none⟩) xs.length c) xs) (hd : (ys ++ zs).length = xs.length) :
    Ow cI e B (Go.Sort.grow (Go.Sort.putRow (Value.int .i64) (Go.Sort.ahead w q) g 0 (ys ++ zs).toArray) os) (.slice (some ⟨g, 0, none⟩) ys.length c) ys ∧ Below B w (Go.Sort.grow (Go.Sort.putRow (Value.int .i64) (Go.Sort.ahead w q) g 0 (ys ++ zs).toArray) os) := by
  obtain ⟨⟨A, c', hv, hc, hm⟩, h1, h2⟩ := h
  injection hv with _ _ hcc
  subst hcc
  rcases h2 with ⟨h0, _⟩ | ⟨g', cap, cur, hg, hB, hr, hn, hcap, hsz, htk⟩
  · cases h0
  · injection hg with hg _ hcap'
    injection hg with hg
    have hg' : g = g' := by injection hg
    subst hg'
    subst hcap'
    have hyl : ys.length ≤ xs.length := by rw [← hd, List.length_append]; omega
    refine ⟨⟨⟨_, _, rfl, by omega, hm⟩, ?_, ?_⟩, ?_⟩
    · rw [flat_length]
    · refine .inr ⟨g, c, _, rfl, hB, heap_sortedI _ hr, by omega, hcap, by simpa [Go.Sort.putCells] using hsz, ?_⟩
      have hcs : (ys ++ zs).length ≤ cur.size := by
        have e1 : cI.size = 1 := rfl
        rw [hsz, e1, hd]; omega
      have := take_putCellsI cur (ys ++ zs) hcs
      have e2 := congrArg (List.take ys.length) this
      rw [List.take_take, Nat.min_eq_left (by simp)] at e2
      rw [show ys.length * cI.size = ys.length from Nat.mul_one _, e2, flat_cI, ← List.map_take, List.take_left']
      rfl
    · have hgb := grownBy_sortedI (w := w) (g := g) (n := q) (os := os) (ys ++ zs).toArray
      exact ⟨hgb.os, hgb.tape, hgb.output, hgb.size, fun k hk => hgb.block k (Nat.lt_of_lt_of_le hk (Nat.le_trans hB (Nat.le_of_lt (Array.getElem?_eq_some_iff.1 hr).1))) (fun e => by injection e; omega)⟩
theorem Ow.holds {e : TypeId} {B g c : Nat} {w : World} {xs : List Int} (h : Ow cI e B w (.slice (some ⟨g, 0, none⟩) xs.length c) xs) : Go.Sort.Holds (Value.int .i64) w g 0 xs.toArray ∧ g < w.heap.size ∧ B ≤ g ∧ xs.length ≤ c ∧ c ≤ 9223372036854775807 := by
  obtain ⟨⟨A, c', hv, hc, hm⟩, h1, h2⟩ := h
  injection hv with _ _ hcc
  subst hcc
  rcases h2 with ⟨h0, _⟩ | ⟨g', cap, cur, hg, hB, hr, hn, hcap, hsz, htk⟩
  · cases h0
  · injection hg with hg _ hcap'
    injection hg with hg
    have hg' : g = g' := by injection hg
    subst hg'
    refine ⟨holds_of_blockI hr (by rw [← flat_cI, ← htk, show xs.length * cI.size = xs.length from Nat.mul_one _]), (Array.getElem?_eq_some_iff.1 hr).1, hB, hc, hm⟩
/-- an owned slice is nil, or lies at the head of a block -/
theorem Ow.cases' {e : TypeId} {B : Nat} {w : World} {v : Value} {xs : List Int} (h : Ow cI e B w v xs) : (v = .slice none 0 0 ∧ xs = []) ∨ ∃ g c, v = .slice (some ⟨g, 0, none⟩) xs.length c := by
  obtain ⟨hv, h1, h2⟩ := h
  rcases h2 with ⟨h0, hn⟩ | ⟨g', cap, cur, hg, -⟩
  · exact .inl ⟨h0, List.eq_nil_of_length_eq_zero hn⟩
  · exact .inr ⟨g', cap, hg⟩
def Tryz.lCmp_ren : Go.Shelf.Ren := ⟨fun | 43 => 89 | n => n, fun | 22 => 54 | 23 => 2 | 3 => 3 | 4 => 4 | 0 => 0 | n => n, fun | n => n⟩
theorem Tryz.lCmp : Go.Proofs.SlLaysE.n43 Tryz.prog Tryz.lCmp_ren := {
  mixed := by kernel_rfl
  f43 := ⟨Tryz.f89.name, by decide, Tryz.func89.trans (congrArg some (by kernel_rfl))⟩
  t0 := Tryz.underlying0
  a0 := Tryz.isAgg0
  z0 := Tryz.sizeOf0
  v0 := Tryz.zeroValue0
  t3 := Tryz.underlying3
  a3 := Tryz.isAgg3
  z3 := Tryz.sizeOf3
  v3 := Tryz.zeroValue3
  t4 := Tryz.underlying4
  a4 := Tryz.isAgg4
  z4 := Tryz.sizeOf4
  v4 := Tryz.zeroValue4
  t22 := Tryz.underlying54
  a22 := Tryz.isAgg54
  z22 := Tryz.sizeOf54
  v22 := Tryz.zeroValue54
  a23 := Tryz.isAgg2
  z23 := Tryz.sizeOf2 }

theorem slices_Index_yes (v : Value) (xs : List Int) (x : Int) (w : World) (h : Sl cI w v xs) (hl : xs.length ≤ 1048576) (hx : x ∈ xs) :
    Calls Tryz.prog 105 #[v, .int .i64 x] w fun e w' => (∃ k : Nat, k ≤ 1048576 ∧ e = .returned (.int .i64 k)) ∧ w = w' := by
  obtain ⟨A, c, rfl⟩ := h.opn
  have H := Lib.hid h
  have HX := Lib.hid hx
  clear h hx
  go_enter Tryz.func105, Tryz.ntmps105
  go_wp2
  go_loop [8] (fun i => ∃ j : Nat, j ≤ xs.length ∧ i = .int .i64 j ∧ x ∉ xs.take j) (fun i => xs.length - (intOf i).toNat)
  case atStart => exact ⟨0, Nat.zero_le _, rfl, by simp⟩
  case round =>
    obtain ⟨j, hj, rfl, hh⟩ := hrel
    have Hh := Lib.hid hh; clear hh
    by_cases hlt : j < xs.length
    · obtain ⟨g, o, rfl, hb, hc0⟩ := H.out.atI hlt
      by_cases hx : x = xs[j]
      · have hx' : (x == xs[j]) = true := by simpa using hx
        clear hx
        go_wp2
        go_ret
        exact ⟨⟨j, by omega, rfl⟩, rfl⟩
      · have hx' : (x == xs[j]) = false := by simpa using hx
        have HM : Hid (x ∉ xs.take (j + 1)) := Lib.hid (by
          rw [List.take_succ_eq_append_getElem hlt, List.mem_append, List.mem_singleton]
          rintro (h | h)
          · exact Hh.out h
          · exact hx h)
        clear hx
        go_wp2
        go_round
        case rel => exact ⟨j + 1, by omega, by go_num, HM.out⟩
        case measure => simp [intOf]; omega
    · obtain rfl : j = xs.length := by omega
      exact absurd HX.out (by have := Hh.out; rwa [List.take_length] at this)
theorem slices_Index_no (v : Value) (xs : List Int) (x : Int) (w : World) (h : Sl cI w v xs) (hl : xs.length ≤ 1048576) (hx : x ∉ xs) :
    Calls Tryz.prog 105 #[v, .int .i64 x] w fun e w' => e = .returned (.int .i64 (-1)) ∧ w = w' := by
  obtain ⟨A, c, rfl⟩ := h.opn
  have H := Lib.hid h
  have HX := Lib.hid (fun j (h : j < xs.length) => (show (x == xs[j]) = false by
    have : x ≠ xs[j] := fun e => hx (e ▸ List.getElem_mem h)
    simpa using this))
  clear h hx
  go_enter Tryz.func105, Tryz.ntmps105
  go_wp2
  go_loop [8] (fun i => ∃ j : Nat, j ≤ xs.length ∧ i = .int .i64 j) (fun i => xs.length - (intOf i).toNat)
  case atStart => exact ⟨0, Nat.zero_le _, rfl⟩
  case round =>
    obtain ⟨j, hj, rfl⟩ := hrel
    by_cases hlt : j < xs.length
    · obtain ⟨g, o, rfl, hb, hc0⟩ := H.out.atI hlt
      have hx' := HX.out j hlt
      go_wp2
      go_round
      case rel => exact ⟨j + 1, by omega, by go_num⟩
      case measure => simp [intOf]; omega
    · obtain rfl : j = xs.length := by omega
      go_wp2
      go_ret
      exact ⟨rfl, rfl⟩
theorem slices_Contains (v : Value) (xs : List Int) (x : Int) (w : World) (h : Sl cI w v xs) (hl : xs.length ≤ 1048576) :
    Calls Tryz.prog 96 #[v, .int .i64 x] w fun e w' => e = .returned (.bool (decide (x ∈ xs))) ∧ w = w' := by
  by_cases hx : x ∈ xs
  · have HC := Lib.hid (slices_Index_yes v xs x w h hl hx)
    have HD := Lib.hid (decide_eq_true hx)
    clear h hx
    go_enter Tryz.func96, Tryz.ntmps96
    go_wp2_with fail
    refine HC.out.mono ?_
    rintro e w1 ⟨⟨k, hk, rfl⟩, rfl⟩
    go_wp2
    go_ret
    exact ⟨by rw [HD.out]; simp, rfl⟩
  · have HC := Lib.hid (slices_Index_no v xs x w h hl hx)
    have HD := Lib.hid (decide_eq_false hx)
    clear h hx
    go_enter Tryz.func96, Tryz.ntmps96
    go_wp2_with fail
    refine HC.out.mono ?_
    rintro e w1 ⟨rfl, rfl⟩
    go_wp2
    go_ret
    exact ⟨by rw [HD.out]; rfl, rfl⟩
/-- appending a make to nil: an empty slice of the call's own, with room -/
theorem grown_nilI (w : World) (n : Nat) (h0 : 0 < n) (hn : n ≤ 1048576) :
    ∃ w' cap, (∀ (ty : TypeId), (Builtin.append_ #[54, 3] ty #[.slice none 0 0, .int .i64 n]).run Tryz.prog w = .ok (.slice (some ⟨w.heap.size, 0, none⟩) n cap) w') ∧ n ≤ cap ∧ cap ≤ maxLen ∧
      Ow cI 2 w.heap.size w' (.slice (some ⟨w.heap.size, 0, none⟩) 0 cap) [] ∧ Below w.heap.size w w' := by
  obtain ⟨i, hi, hz, hsize, hby⟩ := ty_int64.info
  have hs : i.size = 1 := hsize
  have hb : i.bytes = 8 := hby
  have hge := grownCap_ge w n 0 2
  have hle := grownCap_le_maxLen w n 0 2 (by simp only [maxLen]; omega)
  refine ⟨_, _, fun ty => Lib.run_append_nil_zeros w 54 3 ty 2 i _ .i64 .i64 ty_int64.under Tryz.underlying3 hi hz n h0 (by omega) (by omega) (by rw [hb]; omega), hge, hle, ⟨⟨_, _, rfl, Nat.zero_le _, by have := hle; simp only [maxLen] at this; omega⟩, ?_⟩, ?_⟩
  · refine World.ownsRow_made _ _ _ (Nat.le_refl _) hle ?_
    show _ = grownCap w n 0 2 * 1
    have hc : (Value.int .i64 0).cells.size = 1 := rfl
    simp only [Array.size_append, size_zeroCells, hc]
    omega
  · exact (below_drewN (Below.refl _ _) 1).alloc (Nat.le_refl _) _
/-- slices.Compact of a row of the call's own -/
theorem slices_Compact (v : Value) (xs : List Int) (B : Nat) (w : World) (h : Ow cI 2 B w v xs) (hl : xs.length ≤ 1048576) :
    Calls Tryz.prog 89 #[v] w fun e w' => ∃ u, e = .returned u ∧ Ow cI 2 B w' u (Lib.compactUpTo xs.toArray xs.length) ∧ Below B w w' := by
  rcases h.cases' with ⟨rfl, rfl⟩ | ⟨g, c, rfl⟩
  · clear h
    go_enter Tryz.func89, Tryz.ntmps89
    go_wp2
    go_ret
    exact ⟨_, rfl, Ow.nil _ _, Below.refl _ _⟩
  · obtain ⟨h1, h2, h3, h4, h5⟩ := h.holds
    have hcon := AnyE.slices_Compact Tryz.lCmp (Value.int .i64) (fun _ => rfl) (EqlAt.intD _ _ _) (NeqAt.intD _ _ _) 0 Tryz.zeroValue2 g 0 c xs.toArray w h1 (by simp; omega) (by simpa using h4)
    change Calls Tryz.prog 89 _ _ _ at hcon
    refine hcon.mono fun e w' ⟨he, q, hw⟩ => ?_
    subst hw
    have hlen : (Lib.compactUpTo xs.toArray xs.length).length ≤ xs.length := by
      unfold Lib.compactUpTo
      rw [List.length_map]
      have := List.length_filter_le (Lib.keeps xs.toArray) (List.range xs.length)
      simpa using this
    have := h.put (ys := Lib.compactUpTo xs.toArray xs.length) (zs := List.replicate (xs.length - (Lib.compactUpTo xs.toArray xs.length).length) 0) (q := q) (os := #[]) (by simp; omega)
    simp only [Go.Sort.grow_empty] at this
    refine ⟨_, he, ?_⟩
    simpa using this
def Tryz.lSort_ren : Go.Shelf.Ren := ⟨fun | 5 => 88 | 8 => 101 | 7 => 100 | 19 => 118 | 20 => 119 | 10 => 109 | 11 => 110 | 12 => 111 | 13 => 112 | 14 => 113 | 15 => 114 | 16 => 115 | 17 => 116 | 18 => 117 | 30 => 126 | 31 => 127 | 32 => 128 | 33 => 129 | 34 => 130 | 35 => 131 | 40 => 135 | n => n, fun | 23 => 54 | 25 => 2 | 3 => 3 | 32 => 122 | 22 => 54 | 0 => 0 | 44 => 141 | 46 => 143 | 4 => 4 | 36 => 133 | 35 => 132 | 41 => 138 | 5 => 5 | 9 => 9 | 53 => 149 | 57 => 153 | 63 => 158 | 64 => 159 | n => n, fun | n => n⟩
theorem Tryz.lSort : Go.Proofs.SlLaysM.n5 Tryz.prog Tryz.lSort_ren := {
  mixed := by kernel_rfl
  f5 := ⟨Tryz.f88.name, by decide, Tryz.func88.trans (congrArg some (by kernel_rfl))⟩
  f7 := ⟨Tryz.f100.name, by decide, Tryz.func100.trans (congrArg some (by kernel_rfl))⟩
  f8 := Tryz.func101.trans (congrArg some (by kernel_rfl))
  f10 := ⟨Tryz.f109.name, by decide, Tryz.func109.trans (congrArg some (by kernel_rfl))⟩
  f11 := ⟨Tryz.f110.name, by decide, Tryz.func110.trans (congrArg some (by kernel_rfl))⟩
  f12 := ⟨Tryz.f111.name, by decide, Tryz.func111.trans (congrArg some (by kernel_rfl))⟩
  f13 := ⟨Tryz.f112.name, by decide, Tryz.func112.trans (congrArg some (by kernel_rfl))⟩
  f14 := ⟨Tryz.f113.name, by decide, Tryz.func113.trans (congrArg some (by kernel_rfl))⟩
  f15 := ⟨Tryz.f114.name, by decide, Tryz.func114.trans (congrArg some (by kernel_rfl))⟩
  f16 := ⟨Tryz.f115.name, by decide, Tryz.func115.trans (congrArg some (by kernel_rfl))⟩
  f17 := ⟨Tryz.f116.name, by decide, Tryz.func116.trans (congrArg some (by kernel_rfl))⟩
  f18 := ⟨Tryz.f117.name, by decide, Tryz.func117.trans (congrArg some (by kernel_rfl))⟩
  f19 := Tryz.func118.trans (congrArg some (by kernel_rfl))
  f20 := Tryz.func119.trans (congrArg some (by kernel_rfl))
  f30 := ⟨Tryz.f126.name, by decide, Tryz.func126.trans (congrArg some (by kernel_rfl))⟩
  f31 := Tryz.func127.trans (congrArg some (by kernel_rfl))
  f32 := Tryz.func128.trans (congrArg some (by kernel_rfl))
  f33 := ⟨Tryz.f129.name, by decide, Tryz.func129.trans (congrArg some (by kernel_rfl))⟩
  f34 := ⟨Tryz.f130.name, by decide, Tryz.func130.trans (congrArg some (by kernel_rfl))⟩
  f35 := ⟨Tryz.f131.name, by decide, Tryz.func131.trans (congrArg some (by kernel_rfl))⟩
  f40 := ⟨Tryz.f135.name, by decide, Tryz.func135.trans (congrArg some (by kernel_rfl))⟩
  t0 := Tryz.underlying0
  a0 := Tryz.isAgg0
  z0 := Tryz.sizeOf0
  v0 := Tryz.zeroValue0
  t3 := Tryz.underlying3
  a3 := Tryz.isAgg3
  z3 := Tryz.sizeOf3
  v3 := Tryz.zeroValue3
  t4 := Tryz.underlying4
  a4 := Tryz.isAgg4
  z4 := Tryz.sizeOf4
  v4 := Tryz.zeroValue4
  t5 := Tryz.underlying5
  a5 := Tryz.isAgg5
  z5 := Tryz.sizeOf5
  v5 := Tryz.zeroValue5
  t9 := Tryz.underlying9
  a9 := Tryz.isAgg9
  z9 := Tryz.sizeOf9
  v9 := Tryz.zeroValue9
  t22 := Tryz.underlying54
  a22 := Tryz.isAgg54
  z22 := Tryz.sizeOf54
  v22 := Tryz.zeroValue54
  t23 := Tryz.underlying54
  a23 := Tryz.isAgg54
  z23 := Tryz.sizeOf54
  v23 := Tryz.zeroValue54
  t25 := Tryz.underlying2
  a25 := Tryz.isAgg2
  z25 := Tryz.sizeOf2
  v25 := Tryz.zeroValue2
  t32 := Tryz.underlying122
  a32 := Tryz.isAgg122
  z32 := Tryz.sizeOf122
  v32 := Tryz.zeroValue122
  t35 := Tryz.underlying132
  a35 := Tryz.isAgg132
  z35 := Tryz.sizeOf132
  v35 := Tryz.zeroValue132
  t36 := Tryz.underlying133
  a36 := Tryz.isAgg133
  z36 := Tryz.sizeOf133
  v36 := Tryz.zeroValue133
  t41 := Tryz.underlying138
  a41 := Tryz.isAgg138
  z41 := Tryz.sizeOf138
  v41 := Tryz.zeroValue138
  t44 := Tryz.underlying141
  a44 := Tryz.isAgg141
  z44 := Tryz.sizeOf141
  v44 := Tryz.zeroValue141
  t46 := Tryz.underlying143
  a46 := Tryz.isAgg143
  z46 := Tryz.sizeOf143
  v46 := Tryz.zeroValue143
  t53 := Tryz.underlying149
  a53 := Tryz.isAgg149
  z53 := Tryz.sizeOf149
  v53 := Tryz.zeroValue149
  t57 := Tryz.underlying153
  a57 := Tryz.isAgg153
  z57 := Tryz.sizeOf153
  v57 := Tryz.zeroValue153
  t63 := Tryz.underlying158
  a63 := Tryz.isAgg158
  z63 := Tryz.sizeOf158
  v63 := Tryz.zeroValue158
  t64 := Tryz.underlying159
  a64 := Tryz.isAgg159
  z64 := Tryz.sizeOf159
  v64 := Tryz.zeroValue159 }

/-- slices.Sort of a row of the call's own -/
theorem slices_Sort (v : Value) (xs : List Int) (B : Nat) (w : World) (h : Ow cI 2 B w v xs) (hl : xs.length ≤ 1048576) :
    Calls Tryz.prog 88 #[v] w fun e w' => e = .returned (.tuple #[]) ∧ Ow cI 2 B w' v (xs.mergeSort fun x y => decide (x ≤ y)) ∧ Below B w w' := by
  rcases h.cases' with ⟨rfl, rfl⟩ | ⟨g, c, rfl⟩
  · have hcon := AnyM.slices_Sort_int_none Tryz.lSort none 0 w
    change Calls Tryz.prog 88 _ _ _ at hcon
    exact hcon.mono fun e w' ⟨he, hw⟩ => ⟨he, by simpa using Ow.nil _ _, hw ▸ Below.refl _ _⟩
  · obtain ⟨h1, h2, h3, h4, h5⟩ := h.holds
    have hcon := AnyM.slices_Sort_int Tryz.lSort g 0 c xs w h1 h2 (by omega)
    change Calls Tryz.prog 88 _ _ _ at hcon
    refine hcon.mono fun e w' ⟨he, n, os, hw⟩ => ?_
    subst hw
    have := h.put (ys := xs.mergeSort fun x y => decide (x ≤ y)) (zs := []) (q := n) (os := os) (by rw [List.append_nil, List.length_mergeSort])
    rw [List.append_nil, List.length_mergeSort] at this
    exact ⟨he, this⟩
/- Contracts of the program: is a line without premises right? -/
open Go.RowKit
set_option linter.unusedVariables false
set_option linter.unusedSimpArgs false
theorem impl_size_nds (A : Option Addr) (n c : Nat) (w : World) : Calls Tryz.prog 49 #[.slice A n c] w fun e w' => e = .returned (.int .i64 n) ∧ w = w' := by
  go_enter Tryz.func49, Tryz.ntmps49
  go_wp2
  go_ret
  exact ⟨rfl, rfl⟩
theorem impl_size_lns (A : Option Addr) (n c : Nat) (w : World) : Calls Tryz.prog 70 #[.slice A n c] w fun e w' => e = .returned (.int .i64 n) ∧ w = w' := by
  go_enter Tryz.func70, Tryz.ntmps70
  go_wp2
  go_ret
  exact ⟨rfl, rfl⟩
theorem impl_isGood_1 (x : Int) (k g : Nat) (w : World) (hg : g < w.heap.size) (hc : w.cell? ⟨g, 0, none⟩ = some (.int .i64 (k : Int))) (hk : k ≤ 1048576) :
    Calls Tryz.prog 82 #[.int .i64 x, .pointer (some ⟨g, 0, none⟩)] w fun e w' => e = .returned (.bool (inR x 0 ((k : Int) - 1))) ∧ w = w' := by
  have HI := Lib.hid (impl_inRange x 0 ((k : Int) - 1) w)
  go_enter Tryz.func82, Tryz.ntmps82
  go_wp2_with fail
  refine HI.out.mono ?_
  rintro e w1 ⟨rfl, rfl⟩
  go_wp2
  go_ret
  exact ⟨rfl, rfl⟩
/-- is a line without premises right? -/
noncomputable def axP (t : List UInt8) (hy : List (List Nd)) (l : Ln) : Bool :=
  decide (l.s = 0) && (if l.r = 2 then inR l.f 0 ((hy.length : Int) - 1) && decide (hy.getD l.f.toNat [] = l.x) else ((sysS t).getD []).contains l.f && instX l.f l.x)
theorem sysS_lt {t : List UInt8} {x : Int} (h : ((sysS t).getD []).contains x = true) : ∃ k : Nat, x = k ∧ k < 19 := by
  have hx : x ∈ (sysS t).getD [] := by simpa using h
  have key : ∀ l : List Int, (∀ y ∈ l, 0 ≤ y ∧ y < 19) → x ∈ l → ∃ k : Nat, x = k ∧ k < 19 := fun l hl hx => by
    obtain ⟨h1, h2⟩ := hl x hx
    exact ⟨x.toNat, by omega, by omega⟩
  revert hx
  unfold sysS
  repeat' split
  all_goals (intro hx; first | exact key _ (by decide) hx | (simp at hx))
set_option maxRecDepth 100000 in
set_option maxHeartbeats 2000000 in
theorem impl_isAxiomatic (D : Nat) (t : List UInt8) (hy : List (List Nd)) (l : Ln) (g : Fm) (vh vl vu : Value) (A : Option Addr) (c : Nat) (w : World) (hT : TabS w) (hD : Blk w D 85 #[.string ⟨⟨t⟩⟩, vh, vl, vu]) (hH : Sl2 cN w vh hy) (hhl : hy.length ≤ 1048576) (hhy : ∀ xs ∈ hy, xs.length ≤ 1048576)
    (hx : l.x = enc g) (hl : (enc g).length ≤ 1000) (hf : Sl cN w (.slice A l.x.length c) l.x) :
    Calls Tryz.prog 84 #[.pointer (some ⟨D, 0, none⟩), .agg #[.int .i64 l.r, .int .i64 l.f, .int .i64 l.s, .slice A l.x.length c]] w fun e w' => e = .returned (.bool (axP t hy l)) ∧ Below w.heap.size w w' := by
  obtain ⟨r, f, s, x⟩ := l
  simp only at hx hf ⊢
  subst hx
  obtain ⟨Ah, ch, rfl⟩ := hH.opn
  have hb0 := below_alloc' w (.cells #[.int .i64 r, .int .i64 f, .int .i64 s, .slice A (enc g).length c] 46)
  have HK := Lib.hid (Blk.new w 46 #[.int .i64 r, .int .i64 f, .int .i64 s, .slice A (enc g).length c])
  have HD := Lib.hid (hD.below hb0 hD.lt)
  have HH := Lib.hid (hH.below hb0)
  have HF := Lib.hid (hf.below hb0)
  have HT := Lib.hid (hT.below hb0)
  have HB := Lib.hid hb0
  have HHY := Lib.hid hhy
  obtain ⟨b, hb⟩ : ∃ b, axP t hy ⟨r, f, s, enc g⟩ = b := ⟨_, rfl⟩
  rw [hb]
  have HV : Hid ((decide (s = 0) && (if r = 2 then inR f 0 ((hy.length : Int) - 1) && decide (hy.getD f.toNat [] = enc g) else ((sysS t).getD []).contains f && instX f (enc g))) = b) := Lib.hid hb
  clear hb hD hH hf hT hb0 hhy
  by_cases hs : s = 0
  · subst hs
    by_cases hr : r = 2
    · subst hr
      rw [decide_eq_true rfl, Bool.true_and, if_pos rfl] at HV
      have HIn := Lib.hid (fun W => impl_inRange f 0 ((hy.length : Int) - 1) W)
      have HSz := Lib.hid (fun W => impl_size_nds Ah hy.length ch W)
      have HWr : Hid (IntKind.i64.wrap ((hy.length : Int) - 1) = (hy.length : Int) - 1) := Lib.hid (IntWalk.i64_in _ ⟨by omega, by omega⟩)
      have HGet : Hid (inR f 0 ((hy.length : Int) - 1) = true → ∃ i : Nat, f = i ∧ i < hy.length) := Lib.hid fun h => by
        unfold inR at h
        simp only [Bool.and_eq_true, decide_eq_true_eq] at h
        exact ⟨f.toNat, by omega, by omega⟩
      have d1 := HD.out.cell 1
      have ld := HD.out.lt
      have k1 := HK.out.cell 1
      have k2 := HK.out.cell 2
      have k0 := HK.out.cell 0
      have k3 := HK.out.cell 3
      have l1 := HK.out.lt
      go_enter Tryz.func84, Tryz.ntmps84
      go_upto_region 4 with fail
      generalize World.alloc w _ = w1 at *
      have hb : Below w1.heap.size w1 w1.drew := (Below.refl _ _).drew
      cases hin : inR f 0 ((hy.length : Int) - 1) with
      | false =>
        rw [hin] at HIn HV
        clear HGet
        refine wp_region_sched (Below w1.heap.size w1) 22 [0, 1, 2, 3, 4, 5, 7, 9, 10, 11, 12, 13, 14, 15, 16, 17, 18, 19, 21] [0, 1, 2, 3, 4, 5, 6, 7, 8, 9, 10, 11, 12, 13, 14, 15, 16, 17, 18, 19, 20, 21] (by kernel_rfl) (by kernel_rfl) (Below.refl _ _).drew ?_
        repeat
          apply wpSched_q rfl rfl
          case h =>
            intro w' hI K hK
            have k1' := (hI.cell (p := ⟨w.heap.size, 1, none⟩) l1).trans k1
            have d1' := (hI.cell (p := ⟨D, 1, none⟩) ld).trans d1
            simp only [quietV, stillV]
            go_simp
            exact hK
          go_simp
        refine wpSched_r rfl rfl ?_ (Below.refl _ _).drew
        intro K hK hI
        go_simp
        refine (HSz.out _).mono ?_
        rintro e wa ⟨rfl, rfl⟩
        refine hK _ _ hI ?_
        clear hK K hI
        have hwr := HWr.out
        repeat
          apply wpSched_q rfl rfl
          case h =>
            intro w' hI K hK
            have k1' := (hI.cell (p := ⟨w.heap.size, 1, none⟩) l1).trans k1
            simp only [quietV, stillV]
            go_simp
            exact hK
          go_simp
        refine wpSched_r rfl rfl ?_ (Below.refl _ _).drew
        intro K hK hI
        go_simp
        refine (HIn.out _).mono ?_
        rintro e wa ⟨rfl, rfl⟩
        refine hK _ _ hI ?_
        clear hK K hI
        repeat
          apply wpSched_q rfl rfl
          case h =>
            intro w' hI K hK
            have k1' := (hI.cell (p := ⟨w.heap.size, 1, none⟩) l1).trans k1
            simp only [quietV, stillV]
            go_simp
            exact hK
          go_simp
        repeat
          refine wpSched_r rfl rfl ?_ (Below.refl _ _).drew
          intro K hK hI
          go_simp
          refine hK _ _ hI ?_
          clear hK K hI
        repeat
          apply wpSched_q rfl rfl
          case h =>
            intro w' hI K hK
            have k1' := (hI.cell (p := ⟨w.heap.size, 1, none⟩) l1).trans k1
            simp only [quietV, stillV]
            go_simp
            exact hK
          go_simp
        refine wpSched_nil ?_
        try simp only [List.drop_succ_cons, List.drop_zero, List.drop_nil]
        clear d1 k0 k1 k2 k3
        go_wp2
        go_ret
        exact ⟨by rw [← HV.out]; rfl, (HB.out.drew)⟩
      | true =>
        rw [hin] at HIn HV
        obtain ⟨i, rfl, hi⟩ := HGet.out hin
        rw [Bool.true_and] at HV
        have hgd : hy.getD ((i : Int)).toNat [] = hy[i]'hi := by rw [Int.toNat_natCast, List.getD_eq_getElem?_getD, List.getElem?_eq_getElem hi]; rfl
        rw [hgd] at HV
        have hni := HHY.out _ (List.getElem_mem hi)
        obtain ⟨bh, oh, Ai, ci, rfl, hbh, hch, hsh⟩ := HH.out.atM hi
        have HSm := Lib.hid (fun W (hW : Below w1.heap.size w1 W) => impl_same _ _ (hy[i]'hi) (enc g) W (hsh.below hW) (HF.out.below hW) (by omega) (by omega))
        generalize (hy[i]'hi).length = ni at *
        generalize decide (hy[i]'hi = enc g) = bb at *
        clear HGet hgd hsh hin
        refine wp_region_sched (Below w1.heap.size w1) 22 [0, 1, 2, 3, 4, 5, 7, 9, 10, 11, 12, 13, 14, 15, 16, 17, 18, 19, 21] [0, 1, 2, 3, 4, 5, 6, 7, 8, 9, 10, 11, 12, 13, 14, 15, 16, 17, 18, 19, 20, 21] (by kernel_rfl) (by kernel_rfl) (Below.refl _ _).drew ?_
        repeat
          apply wpSched_q rfl rfl
          case h =>
            intro w' hI K hK
            have k1' := (hI.cell (p := ⟨w.heap.size, 1, none⟩) l1).trans k1
            have d1' := (hI.cell (p := ⟨D, 1, none⟩) ld).trans d1
            simp only [quietV, stillV]
            go_simp
            exact hK
          go_simp
        refine wpSched_r rfl rfl ?_ (Below.refl _ _).drew
        intro K hK hI
        go_simp
        refine (HSz.out _).mono ?_
        rintro e wa ⟨rfl, rfl⟩
        refine hK _ _ hI ?_
        clear hK K hI
        have hwr := HWr.out
        repeat
          apply wpSched_q rfl rfl
          case h =>
            intro w' hI K hK
            have k1' := (hI.cell (p := ⟨w.heap.size, 1, none⟩) l1).trans k1
            simp only [quietV, stillV]
            go_simp
            exact hK
          go_simp
        refine wpSched_r rfl rfl ?_ (Below.refl _ _).drew
        intro K hK hI
        go_simp
        refine (HIn.out _).mono ?_
        rintro e wa ⟨rfl, rfl⟩
        refine hK _ _ hI ?_
        clear hK K hI
        repeat
          apply wpSched_q rfl rfl
          case h =>
            intro w' hI K hK
            have k1' := (hI.cell (p := ⟨w.heap.size, 1, none⟩) l1).trans k1
            have k3' := (hI.cell (p := ⟨w.heap.size, 3, none⟩) l1).trans k3
            have d1' := (hI.cell (p := ⟨D, 1, none⟩) ld).trans d1
            have hch' := (hI.cell (p := ⟨bh, oh + i, none⟩) hbh).trans hch
            simp only [quietV, stillV]
            go_simp
            exact hK
          go_simp
        refine wpSched_r rfl rfl ?_ (Below.refl _ _).drew
        intro K hK hI
        go_simp
        refine (HSm.out _ hI).mono ?_
        rintro e wa ⟨rfl, hb2⟩
        have hI2 := hI.trans (hb2.mono hI.size)
        refine hK _ _ hI2 ?_
        clear hK K hI hb2
        repeat
          apply wpSched_q rfl rfl
          case h =>
            intro w' hI K hK
            have k1' := (hI.cell (p := ⟨w.heap.size, 1, none⟩) l1).trans k1
            simp only [quietV, stillV]
            go_simp
            exact hK
          go_simp
        refine wpSched_nil ?_
        try simp only [List.drop_succ_cons, List.drop_zero, List.drop_nil]
        have HE := Lib.hid (bthen HB.out hI2)
        clear d1 k0 k1 k2 k3 hch hI2 hwr
        go_wp2
        go_ret
        exact ⟨by rw [← HV.out]; rfl, HE.out⟩
    · have hr2 : (r == 2) = false := by simpa using hr
      rw [decide_eq_true rfl, Bool.true_and, if_neg hr] at HV
      have HSy := Lib.hid (fun W => impl_schemesOf t W)
      have HCn := Lib.hid (fun W v (hW : Sl cI W v ((sysS t).getD [])) => slices_Contains v ((sysS t).getD []) f W hW (by
        have : ∀ t, ((sysS t).getD []).length ≤ 1048576 := fun t => by unfold sysS; repeat' split
                                                                       all_goals simp
        exact this t))
      have HLt : Hid (((sysS t).getD []).contains f = true → ∃ k : Nat, f = k ∧ k < 19) := Lib.hid sysS_lt
      have HIs := Lib.hid (fun (k : Nat) (hk : k < 19) W (hT : TabS W) (h : Sl cN W (.slice A (enc g).length c) (enc g)) => impl_isInstance k hk g _ W hT h hl)
      have hdc : decide (f ∈ (sysS t).getD []) = ((sysS t).getD []).contains f := by rw [Bool.eq_iff_iff]; simp
      rw [hdc] at HCn
      have HIX : Hid (∀ k : Nat, instX (k : Int) (enc g) = inst (schF k) g) := Lib.hid fun k => by rw [instX_enc]; rfl
      have hso : ∃ z, (sysS t).isSome = z := ⟨_, rfl⟩
      obtain ⟨z, hz⟩ := hso
      rw [hz] at HSy
      clear hdc hz
      generalize (sysS t).getD [] = sl at *
      have d0 := HD.out.cell 0
      have ld := HD.out.lt
      have k0 := HK.out.cell 0
      have k1 := HK.out.cell 1
      have k2 := HK.out.cell 2
      have k3 := HK.out.cell 3
      have l1 := HK.out.lt
      go_enter Tryz.func84, Tryz.ntmps84
      go_upto_region 1 with fail
      generalize World.alloc w _ = w1 at *
      go_wp2_with fail
      refine (HSy.out w1).mono ?_
      rintro e w2 ⟨r2, rfl, ho, hb⟩
      obtain ⟨A2, c2, rfl⟩ := ho.opn
      have HC := Lib.hid (HCn.out w2 _ ho.sl)
      have HB2 := Lib.hid (bthen HB.out hb)
      have HT2 := Lib.hid (HT.out.below hb)
      have HF2 := Lib.hid (HF.out.below hb)
      replace k1 := (hb.cell (p := ⟨w.heap.size, 1, none⟩) l1).trans k1
      replace k3 := (hb.cell (p := ⟨w.heap.size, 3, none⟩) l1).trans k3
      replace l1 := Nat.lt_of_lt_of_le l1 hb.size
      clear ho hb d0 k0 k2 HCn
      cases hct : sl.contains f with
      | false =>
        rw [hct] at HC HV
        clear hct HLt
        go_wp2_with fail
        refine HC.out.mono ?_
        rintro e w3 ⟨rfl, rfl⟩
        go_wp2
        go_ret
        exact ⟨by rw [← HV.out]; rfl, HB2.out⟩
      | true =>
        rw [hct] at HC HV
        obtain ⟨k, rfl, hk⟩ := HLt.out hct
        rw [Bool.true_and, HIX.out] at HV
        have HI2 := Lib.hid (HIs.out k hk w2 HT2.out HF2.out)
        generalize inst (schF k) g = bb at *
        clear hct HLt HIs HIX
        go_wp2_with fail
        refine HC.out.mono ?_
        rintro e w3 ⟨rfl, rfl⟩
        go_wp2_with fail
        refine HI2.out.mono ?_
        rintro e w4 ⟨rfl, hb⟩
        have HB4 := Lib.hid (bthen HB2.out hb)
        clear hb k1 k3
        go_wp2
        go_ret
        exact ⟨by rw [← HV.out]; rfl, HB4.out⟩
  · have hs2 : (s == 0) = false := by simpa using hs
    rw [decide_eq_false hs, Bool.false_and] at HV
    have k2 := HK.out.cell 2
    have l1 := HK.out.lt
    go_enter Tryz.func84, Tryz.ntmps84
    go_upto_region 1 with fail
    generalize World.alloc w _ = w1 at *
    go_wp2
    go_ret
    exact ⟨by rw [← HV.out]; rfl, HB.out⟩
end Go.Proofs.YtcikenffeekkeaaGreatDoor
