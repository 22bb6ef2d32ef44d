/- The library's contracts at []int64 that MeetTraces wants: slices.Contains, Concat, DeleteFunc, Sort, Compact, in the words of Mem. -/
import Derived.Test.YtgkogfjifcfkoaaGreatY00
import Derived.Test.YtgkogfjifcfkoaaGreatY01
import Derived.Test.YtgkogfjifcfkoaaGreatY26
import Derived.Test.YtgkogfjifcfkoaaGreatY27
import Derived.Shelf.SlicesE.DeleteFunc
import Derived.Shelf.SlicesE.Compact
import Derived.Shelf.SortM.Plain
import Derived.Shelf.SortM.SortNone
import Derived.Sort.OwnSortedInts
namespace Go.Proofs.YtgkogfjifcfkoaaGreat
open Go.RowKit
set_option linter.unusedVariables false
set_option linter.unusedSimpArgs false
/-- an owned row of int64s behind the library's change of it, cut to its first ys -/
theorem Ow.put {e : TypeId} {B g c q : Nat} {w : World} {xs ys zs : List Int} {os : Array Obj} (h : Ow cI e B w (.slice (some ⟨g, 0, none⟩) xs.length c) xs) (hd : (ys ++ zs).length = xs.length) :
    Ow cI e B (Go.Sort.grow (Go.Sort.putRow (Value.int .i64) (Go.Sort.ahead w q) g 0 (ys ++ zs).toArray) os) (.slice (some ⟨g, 0, none⟩) ys.length c) ys ∧ Below B w (Go.Sort.grow (Go.Sort.putRow (Value.int .i64) (Go.Sort.ahead w q) g 0 (ys ++ zs).toArray) os) := by
  obtain ⟨⟨A, c', hv, hc, hm⟩, h1, h2⟩ := h
  injection hv with _ _ hcc
  subst hcc
  rcases h2 with ⟨h0, _⟩ | ⟨g', cap, cur, hg, hB, hr, hn, hcap, hsz, htk⟩
  · cases h0
  · injection hg with hg _ hcap'
    injection hg with hg
    have hg' : g = g' := by injection hg
    subst hg'
    subst hcap'
    have hyl : ys.length ≤ xs.length := by rw [← hd, List.length_append]; omega
    refine ⟨⟨⟨_, _, rfl, by omega, hm⟩, ?_, ?_⟩, ?_⟩
    · rw [flat_length]
    · refine .inr ⟨g, c, _, rfl, hB, heap_sortedI _ hr, by omega, hcap, by simpa [Go.Sort.putCells] using hsz, ?_⟩
      have hcs : (ys ++ zs).length ≤ cur.size := by
        have e1 : cI.size = 1 := rfl
        rw [hsz, e1, hd]; omega
      have := take_putCellsI cur (ys ++ zs) hcs
      have e2 := congrArg (List.take ys.length) this
      rw [List.take_take, Nat.min_eq_left (by simp)] at e2
      rw [show ys.length * cI.size = ys.length from Nat.mul_one _, e2, flat_cI, ← List.map_take, List.take_left']
      rfl
    · have hgb := grownBy_sortedI (w := w) (g := g) (n := q) (os := os) (ys ++ zs).toArray
      exact ⟨hgb.os, hgb.tape, hgb.output, hgb.size, fun k hk => hgb.block k (Nat.lt_of_lt_of_le hk (Nat.le_trans hB (Nat.le_of_lt (Array.getElem?_eq_some_iff.1 hr).1))) (fun e => by injection e; omega)⟩
theorem Ow.holds {e : TypeId} {B g c : Nat} {w : World} {xs : List Int} (h : Ow cI e B w (.slice (some ⟨g, 0, none⟩) xs.length c) xs) : Go.Sort.Holds (Value.int .i64) w g 0 xs.toArray ∧ g < w.heap.size ∧ B ≤ g ∧ xs.length ≤ c ∧ c ≤ 9223372036854775807 := by
  obtain ⟨⟨A, c', hv, hc, hm⟩, h1, h2⟩ := h
  injection hv with _ _ hcc
  subst hcc
  rcases h2 with ⟨h0, _⟩ | ⟨g', cap, cur, hg, hB, hr, hn, hcap, hsz, htk⟩
  · cases h0
  · injection hg with hg _ hcap'
    injection hg with hg
    have hg' : g = g' := by injection hg
    subst hg'
    refine ⟨holds_of_blockI hr (by rw [← flat_cI, ← htk, show xs.length * cI.size = xs.length from Nat.mul_one _]), (Array.getElem?_eq_some_iff.1 hr).1, hB, hc, hm⟩
/-- an owned slice is nil, or lies at the head of a block -/
theorem Ow.cases' {e : TypeId} {B : Nat} {w : World} {v : Value} {xs : List Int} (h : Ow cI e B w v xs) : (v = .slice none 0 0 ∧ xs = []) ∨ ∃ g c, v = .slice (some ⟨g, 0, none⟩) xs.length c := by
  obtain ⟨hv, h1, h2⟩ := h
  rcases h2 with ⟨h0, hn⟩ | ⟨g', cap, cur, hg, -⟩
  · exact .inl ⟨h0, List.eq_nil_of_length_eq_zero hn⟩
  · exact .inr ⟨g', cap, hg⟩
def Tryz.lSort_ren : Go.Shelf.Ren := ⟨fun | 5 => 65 | 8 => 106 | 7 => 105 | 19 => 153 | 20 => 154 | 10 => 144 | 11 => 145 | 12 => 146 | 13 => 147 | 14 => 148 | 15 => 149 | 16 => 150 | 17 => 151 | 18 => 152 | 30 => 196 | 31 => 197 | 32 => 198 | 33 => 199 | 34 => 200 | 35 => 201 | 40 => 205 | n => n, fun | 23 => 27 | 25 => 2 | 3 => 3 | 32 => 70 | 22 => 27 | 0 => 0 | 44 => 144 | 46 => 39 | 4 => 4 | 36 => 137 | 35 => 136 | 41 => 141 | 5 => 5 | 9 => 9 | 53 => 165 | 57 => 169 | 63 => 172 | 64 => 173 | n => n, fun | n => n⟩
theorem Tryz.lSort : Go.Proofs.SlLaysM.n5 Tryz.prog Tryz.lSort_ren := {
  mixed := by kernel_rfl
  f5 := ⟨Tryz.f65.name, by decide, Tryz.func65.trans (congrArg some (by kernel_rfl))⟩
  f7 := ⟨Tryz.f105.name, by decide, Tryz.func105.trans (congrArg some (by kernel_rfl))⟩
  f8 := Tryz.func106.trans (congrArg some (by kernel_rfl))
  f10 := ⟨Tryz.f144.name, by decide, Tryz.func144.trans (congrArg some (by kernel_rfl))⟩
  f11 := ⟨Tryz.f145.name, by decide, Tryz.func145.trans (congrArg some (by kernel_rfl))⟩
  f12 := ⟨Tryz.f146.name, by decide, Tryz.func146.trans (congrArg some (by kernel_rfl))⟩
  f13 := ⟨Tryz.f147.name, by decide, Tryz.func147.trans (congrArg some (by kernel_rfl))⟩
  f14 := ⟨Tryz.f148.name, by decide, Tryz.func148.trans (congrArg some (by kernel_rfl))⟩
  f15 := ⟨Tryz.f149.name, by decide, Tryz.func149.trans (congrArg some (by kernel_rfl))⟩
  f16 := ⟨Tryz.f150.name, by decide, Tryz.func150.trans (congrArg some (by kernel_rfl))⟩
  f17 := ⟨Tryz.f151.name, by decide, Tryz.func151.trans (congrArg some (by kernel_rfl))⟩
  f18 := ⟨Tryz.f152.name, by decide, Tryz.func152.trans (congrArg some (by kernel_rfl))⟩
  f19 := Tryz.func153.trans (congrArg some (by kernel_rfl))
  f20 := Tryz.func154.trans (congrArg some (by kernel_rfl))
  f30 := ⟨Tryz.f196.name, by decide, Tryz.func196.trans (congrArg some (by kernel_rfl))⟩
  f31 := Tryz.func197.trans (congrArg some (by kernel_rfl))
  f32 := Tryz.func198.trans (congrArg some (by kernel_rfl))
  f33 := ⟨Tryz.f199.name, by decide, Tryz.func199.trans (congrArg some (by kernel_rfl))⟩
  f34 := ⟨Tryz.f200.name, by decide, Tryz.func200.trans (congrArg some (by kernel_rfl))⟩
  f35 := ⟨Tryz.f201.name, by decide, Tryz.func201.trans (congrArg some (by kernel_rfl))⟩
  f40 := ⟨Tryz.f205.name, by decide, Tryz.func205.trans (congrArg some (by kernel_rfl))⟩
  t0 := Tryz.underlying0
  a0 := Tryz.isAgg0
  z0 := Tryz.sizeOf0
  v0 := Tryz.zeroValue0
  t3 := Tryz.underlying3
  a3 := Tryz.isAgg3
  z3 := Tryz.sizeOf3
  v3 := Tryz.zeroValue3
  t4 := Tryz.underlying4
  a4 := Tryz.isAgg4
  z4 := Tryz.sizeOf4
  v4 := Tryz.zeroValue4
  t5 := Tryz.underlying5
  a5 := Tryz.isAgg5
  z5 := Tryz.sizeOf5
  v5 := Tryz.zeroValue5
  t9 := Tryz.underlying9
  a9 := Tryz.isAgg9
  z9 := Tryz.sizeOf9
  v9 := Tryz.zeroValue9
  t22 := Tryz.underlying27
  a22 := Tryz.isAgg27
  z22 := Tryz.sizeOf27
  v22 := Tryz.zeroValue27
  t23 := Tryz.underlying27
  a23 := Tryz.isAgg27
  z23 := Tryz.sizeOf27
  v23 := Tryz.zeroValue27
  t25 := Tryz.underlying2
  a25 := Tryz.isAgg2
  z25 := Tryz.sizeOf2
  v25 := Tryz.zeroValue2
  t32 := Tryz.underlying70
  a32 := Tryz.isAgg70
  z32 := Tryz.sizeOf70
  v32 := Tryz.zeroValue70
  t35 := Tryz.underlying136
  a35 := Tryz.isAgg136
  z35 := Tryz.sizeOf136
  v35 := Tryz.zeroValue136
  t36 := Tryz.underlying137
  a36 := Tryz.isAgg137
  z36 := Tryz.sizeOf137
  v36 := Tryz.zeroValue137
  t41 := Tryz.underlying141
  a41 := Tryz.isAgg141
  z41 := Tryz.sizeOf141
  v41 := Tryz.zeroValue141
  t44 := Tryz.underlying144
  a44 := Tryz.isAgg144
  z44 := Tryz.sizeOf144
  v44 := Tryz.zeroValue144
  t46 := Tryz.underlying39
  a46 := Tryz.isAgg39
  z46 := Tryz.sizeOf39
  v46 := Tryz.zeroValue39
  t53 := Tryz.underlying165
  a53 := Tryz.isAgg165
  z53 := Tryz.sizeOf165
  v53 := Tryz.zeroValue165
  t57 := Tryz.underlying169
  a57 := Tryz.isAgg169
  z57 := Tryz.sizeOf169
  v57 := Tryz.zeroValue169
  t63 := Tryz.underlying172
  a63 := Tryz.isAgg172
  z63 := Tryz.sizeOf172
  v63 := Tryz.zeroValue172
  t64 := Tryz.underlying173
  a64 := Tryz.isAgg173
  z64 := Tryz.sizeOf173
  v64 := Tryz.zeroValue173 }

/-- slices.Sort of a row of the call's own -/
theorem slices_Sort (v : Value) (xs : List Int) (B : Nat) (w : World) (h : Ow cI 2 B w v xs) (hl : xs.length ≤ 1048576) :
    Calls Tryz.prog 65 #[v] w fun e w' => e = .returned (.tuple #[]) ∧ Ow cI 2 B w' v (xs.mergeSort fun x y => decide (x ≤ y)) ∧ Below B w w' := by
  rcases h.cases' with ⟨rfl, rfl⟩ | ⟨g, c, rfl⟩
  · have hcon := AnyM.slices_Sort_int_none Tryz.lSort none 0 w
    change Calls Tryz.prog 65 _ _ _ at hcon
    exact hcon.mono fun e w' ⟨he, hw⟩ => ⟨he, by simpa using Ow.nil _ _, hw ▸ Below.refl _ _⟩
  · obtain ⟨h1, h2, h3, h4, h5⟩ := h.holds
    have hcon := AnyM.slices_Sort_int Tryz.lSort g 0 c xs w h1 h2 (by omega)
    change Calls Tryz.prog 65 _ _ _ at hcon
    refine hcon.mono fun e w' ⟨he, n, os, hw⟩ => ?_
    subst hw
    have := h.put (ys := xs.mergeSort fun x y => decide (x ≤ y)) (zs := []) (q := n) (os := os) (by rw [List.append_nil, List.length_mergeSort])
    rw [List.append_nil, List.length_mergeSort] at this
    exact ⟨he, this⟩
end Go.Proofs.YtgkogfjifcfkoaaGreat
