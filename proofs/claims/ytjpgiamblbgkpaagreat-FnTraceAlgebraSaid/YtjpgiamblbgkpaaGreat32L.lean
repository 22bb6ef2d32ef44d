/- The library's contracts at []int64 that MeetTraces wants: slices.Contains, Concat, DeleteFunc, Sort, Compact, in the words of Mem. -/
import Derived.Test.YtjpgiamblbgkpaaGreatMem
import Derived.Test.YtjpgiamblbgkpaaGreatLA
import Derived.Test.YtjpgiamblbgkpaaGreatB5
import Derived.Test.YtjpgiamblbgkpaaGreatM32T
import Derived.Shelf.SlicesE.DeleteFunc
import Derived.Shelf.SlicesE.Compact
import Derived.Shelf.SortM.Plain
import Derived.Shelf.SortM.SortNone
import Derived.Sort.OwnSortedInts
namespace Go.Proofs.YtjpgiamblbgkpaaGreat
open Go.RowKit
set_option linter.unusedVariables false
set_option linter.unusedSimpArgs false
/-- an owned row of int64s behind the library's change of it, cut to its first ys -/
theorem Ow.put {e : TypeId} {B g c q : Nat} {w : World} {xs ys zs : List Int} {os : Array Obj} (h : Ow cI e B w (.slice (some ⟨g, 0, none⟩) xs.length c) xs) (hd : (ys ++ zs).length = xs.length) :
    Ow cI e B (Go.Sort.grow (Go.Sort.putRow (Value.int .i64) (Go.Sort.ahead w q) g 0 (ys ++ zs).toArray) os) (.slice (some ⟨g, 0, none⟩) ys.length c) ys ∧ Below B w (Go.Sort.grow (Go.Sort.putRow (Value.int .i64) (Go.Sort.ahead w q) g 0 (ys ++ zs).toArray) os) := by
  obtain ⟨⟨A, c', hv, hc, hm⟩, h1, h2⟩ := h
  injection hv with _ _ hcc
  subst hcc
  rcases h2 with ⟨h0, _⟩ | ⟨g', cap, cur, hg, hB, hr, hn, hcap, hsz, htk⟩
  · cases h0
  · injection hg with hg _ hcap'
    injection hg with hg
    have hg' : g = g' := by injection hg
    subst hg'
    subst hcap'
    have hyl : ys.length ≤ xs.length := by rw [← hd, List.length_append]; omega
    refine ⟨⟨⟨_, _, rfl, by omega, hm⟩, ?_, ?_⟩, ?_⟩
    · rw [flat_length]
    · refine .inr ⟨g, c, _, rfl, hB, heap_sortedI _ hr, by omega, hcap, by simpa [Go.Sort.putCells] using hsz, ?_⟩
      have hcs : (ys ++ zs).length ≤ cur.size := by
        have e1 : cI.size = 1 := rfl
        rw [hsz, e1, hd]; omega
      have := take_putCellsI cur (ys ++ zs) hcs
      have e2 := congrArg (List.take ys.length) this
      rw [List.take_take, Nat.min_eq_left (by simp)] at e2
      rw [show ys.length * cI.size = ys.length from Nat.mul_one _, e2, flat_cI, ← List.map_take, List.take_left']
      rfl
    · have hgb := grownBy_sortedI (w := w) (g := g) (n := q) (os := os) (ys ++ zs).toArray
      exact ⟨hgb.os, hgb.tape, hgb.output, hgb.size, fun k hk => hgb.block k (Nat.lt_of_lt_of_le hk (Nat.le_trans hB (Nat.le_of_lt (Array.getElem?_eq_some_iff.1 hr).1))) (fun e => by injection e; omega)⟩
theorem Ow.holds {e : TypeId} {B g c : Nat} {w : World} {xs : List Int} (h : Ow cI e B w (.slice (some ⟨g, 0, none⟩) xs.length c) xs) : Go.Sort.Holds (Value.int .i64) w g 0 xs.toArray ∧ g < w.heap.size ∧ B ≤ g ∧ xs.length ≤ c ∧ c ≤ 9223372036854775807 := by
  obtain ⟨⟨A, c', hv, hc, hm⟩, h1, h2⟩ := h
  injection hv with _ _ hcc
  subst hcc
  rcases h2 with ⟨h0, _⟩ | ⟨g', cap, cur, hg, hB, hr, hn, hcap, hsz, htk⟩
  · cases h0
  · injection hg with hg _ hcap'
    injection hg with hg
    have hg' : g = g' := by injection hg
    subst hg'
    refine ⟨holds_of_blockI hr (by rw [← flat_cI, ← htk, show xs.length * cI.size = xs.length from Nat.mul_one _]), (Array.getElem?_eq_some_iff.1 hr).1, hB, hc, hm⟩
/-- an owned slice is nil, or lies at the head of a block -/
theorem Ow.cases' {e : TypeId} {B : Nat} {w : World} {v : Value} {xs : List Int} (h : Ow cI e B w v xs) : (v = .slice none 0 0 ∧ xs = []) ∨ ∃ g c, v = .slice (some ⟨g, 0, none⟩) xs.length c := by
  obtain ⟨hv, h1, h2⟩ := h
  rcases h2 with ⟨h0, hn⟩ | ⟨g', cap, cur, hg, -⟩
  · exact .inl ⟨h0, List.eq_nil_of_length_eq_zero hn⟩
  · exact .inr ⟨g', cap, hg⟩
/- The shelf's layings, written out by the shelf's own program. -/
def Tryz.lDel_ren : Go.Shelf.Ren := ⟨fun | 10 => 46 | 6 => 66 | n => n, fun | 22 => 24 | 23 => 2 | 25 => 69 | 3 => 3 | 4 => 4 | 0 => 0 | n => n, fun | n => n⟩
theorem Tryz.lDel : Go.Proofs.SlLaysH.n10 Tryz.prog Tryz.lDel_ren := {
  mixed := by kernel_rfl
  f6 := ⟨Tryz.f66.name, by decide, Tryz.func66.trans (congrArg some (by kernel_rfl))⟩
  f10 := ⟨Tryz.f46.name, by decide, Tryz.func46.trans (congrArg some (by kernel_rfl))⟩
  t0 := Tryz.underlying0
  a0 := Tryz.isAgg0
  z0 := Tryz.sizeOf0
  v0 := Tryz.zeroValue0
  t3 := Tryz.underlying3
  a3 := Tryz.isAgg3
  z3 := Tryz.sizeOf3
  v3 := Tryz.zeroValue3
  t4 := Tryz.underlying4
  a4 := Tryz.isAgg4
  z4 := Tryz.sizeOf4
  v4 := Tryz.zeroValue4
  t22 := Tryz.underlying24
  a22 := Tryz.isAgg24
  z22 := Tryz.sizeOf24
  v22 := Tryz.zeroValue24
  a23 := Tryz.isAgg2
  z23 := Tryz.sizeOf2
  t25 := Tryz.underlying69
  a25 := Tryz.isAgg69
  z25 := Tryz.sizeOf69
  v25 := Tryz.zeroValue69 }

def Tryz.lCmp_ren : Go.Shelf.Ren := ⟨fun | 43 => 25 | n => n, fun | 22 => 24 | 23 => 2 | 3 => 3 | 4 => 4 | 0 => 0 | n => n, fun | n => n⟩
theorem Tryz.lCmp : Go.Proofs.SlLaysE.n43 Tryz.prog Tryz.lCmp_ren := {
  mixed := by kernel_rfl
  f43 := ⟨Tryz.f25.name, by decide, Tryz.func25.trans (congrArg some (by kernel_rfl))⟩
  t0 := Tryz.underlying0
  a0 := Tryz.isAgg0
  z0 := Tryz.sizeOf0
  v0 := Tryz.zeroValue0
  t3 := Tryz.underlying3
  a3 := Tryz.isAgg3
  z3 := Tryz.sizeOf3
  v3 := Tryz.zeroValue3
  t4 := Tryz.underlying4
  a4 := Tryz.isAgg4
  z4 := Tryz.sizeOf4
  v4 := Tryz.zeroValue4
  t22 := Tryz.underlying24
  a22 := Tryz.isAgg24
  z22 := Tryz.sizeOf24
  v22 := Tryz.zeroValue24
  a23 := Tryz.isAgg2
  z23 := Tryz.sizeOf2 }

theorem slices_Index_yes (v : Value) (xs : List Int) (x : Int) (w : World) (h : Sl cI w v xs) (hl : xs.length ≤ 1048576) (hx : x ∈ xs) :
    Calls Tryz.prog 67 #[v, .int .i64 x] w fun e w' => (∃ k : Nat, k ≤ 1048576 ∧ e = .returned (.int .i64 k)) ∧ w = w' := by
  obtain ⟨A, c, rfl⟩ := h.opn
  have H := Lib.hid h
  have HX := Lib.hid hx
  clear h hx
  go_enter Tryz.func67, Tryz.ntmps67
  go_wp2
  go_loop [8] (fun i => ∃ j : Nat, j ≤ xs.length ∧ i = .int .i64 j ∧ x ∉ xs.take j) (fun i => xs.length - (intOf i).toNat)
  case atStart => exact ⟨0, Nat.zero_le _, rfl, by simp⟩
  case round =>
    obtain ⟨j, hj, rfl, hh⟩ := hrel
    have Hh := Lib.hid hh; clear hh
    by_cases hlt : j < xs.length
    · obtain ⟨g, o, rfl, hb, hc0⟩ := H.out.atI hlt
      by_cases hx : x = xs[j]
      · have hx' : (x == xs[j]) = true := by simpa using hx
        clear hx
        go_wp2
        go_ret
        exact ⟨⟨j, by omega, rfl⟩, rfl⟩
      · have hx' : (x == xs[j]) = false := by simpa using hx
        have HM : Hid (x ∉ xs.take (j + 1)) := Lib.hid (by
          rw [List.take_succ_eq_append_getElem hlt, List.mem_append, List.mem_singleton]
          rintro (h | h)
          · exact Hh.out h
          · exact hx h)
        clear hx
        go_wp2
        go_round
        case rel => exact ⟨j + 1, by omega, by go_num, HM.out⟩
        case measure => simp [intOf]; omega
    · obtain rfl : j = xs.length := by omega
      exact absurd HX.out (by have := Hh.out; rwa [List.take_length] at this)
theorem slices_Index_no (v : Value) (xs : List Int) (x : Int) (w : World) (h : Sl cI w v xs) (hl : xs.length ≤ 1048576) (hx : x ∉ xs) :
    Calls Tryz.prog 67 #[v, .int .i64 x] w fun e w' => e = .returned (.int .i64 (-1)) ∧ w = w' := by
  obtain ⟨A, c, rfl⟩ := h.opn
  have H := Lib.hid h
  have HX := Lib.hid (fun j (h : j < xs.length) => (show (x == xs[j]) = false by
    have : x ≠ xs[j] := fun e => hx (e ▸ List.getElem_mem h)
    simpa using this))
  clear h hx
  go_enter Tryz.func67, Tryz.ntmps67
  go_wp2
  go_loop [8] (fun i => ∃ j : Nat, j ≤ xs.length ∧ i = .int .i64 j) (fun i => xs.length - (intOf i).toNat)
  case atStart => exact ⟨0, Nat.zero_le _, rfl⟩
  case round =>
    obtain ⟨j, hj, rfl⟩ := hrel
    by_cases hlt : j < xs.length
    · obtain ⟨g, o, rfl, hb, hc0⟩ := H.out.atI hlt
      have hx' := HX.out j hlt
      go_wp2
      go_round
      case rel => exact ⟨j + 1, by omega, by go_num⟩
      case measure => simp [intOf]; omega
    · obtain rfl : j = xs.length := by omega
      go_wp2
      go_ret
      exact ⟨rfl, rfl⟩
theorem slices_Contains (v : Value) (xs : List Int) (x : Int) (w : World) (h : Sl cI w v xs) (hl : xs.length ≤ 1048576) :
    Calls Tryz.prog 48 #[v, .int .i64 x] w fun e w' => e = .returned (.bool (decide (x ∈ xs))) ∧ w = w' := by
  by_cases hx : x ∈ xs
  · have HC := Lib.hid (slices_Index_yes v xs x w h hl hx)
    have HD := Lib.hid (decide_eq_true hx)
    clear h hx
    go_enter Tryz.func48, Tryz.ntmps48
    go_wp2_with fail
    refine HC.out.mono ?_
    rintro e w1 ⟨⟨k, hk, rfl⟩, rfl⟩
    go_wp2
    go_ret
    exact ⟨by rw [HD.out]; simp, rfl⟩
  · have HC := Lib.hid (slices_Index_no v xs x w h hl hx)
    have HD := Lib.hid (decide_eq_false hx)
    clear h hx
    go_enter Tryz.func48, Tryz.ntmps48
    go_wp2_with fail
    refine HC.out.mono ?_
    rintro e w1 ⟨rfl, rfl⟩
    go_wp2
    go_ret
    exact ⟨by rw [HD.out]; rfl, rfl⟩
/-- appending a make to nil: an empty slice of the call's own, with room -/
theorem grown_nilI (w : World) (n : Nat) (h0 : 0 < n) (hn : n ≤ 1048576) :
    ∃ w' cap, (∀ (ty : TypeId), (Builtin.append_ #[24, 3] ty #[.slice none 0 0, .int .i64 n]).run Tryz.prog w = .ok (.slice (some ⟨w.heap.size, 0, none⟩) n cap) w') ∧ n ≤ cap ∧ cap ≤ maxLen ∧
      Ow cI 2 w.heap.size w' (.slice (some ⟨w.heap.size, 0, none⟩) 0 cap) [] ∧ Below w.heap.size w w' := by
  obtain ⟨i, hi, hz, hsize, hby⟩ := ty_int64.info
  have hs : i.size = 1 := hsize
  have hb : i.bytes = 8 := hby
  have hge := grownCap_ge w n 0 2
  have hle := grownCap_le_maxLen w n 0 2 (by simp only [maxLen]; omega)
  refine ⟨_, _, fun ty => Lib.run_append_nil_zeros w 24 3 ty 2 i _ .i64 .i64 ty_int64.under Tryz.underlying3 hi hz n h0 (by omega) (by omega) (by rw [hb]; omega), hge, hle, ⟨⟨_, _, rfl, Nat.zero_le _, by have := hle; simp only [maxLen] at this; omega⟩, ?_⟩, ?_⟩
  · refine World.ownsRow_made _ _ _ (Nat.le_refl _) hle ?_
    show _ = grownCap w n 0 2 * 1
    have hc : (Value.int .i64 0).cells.size = 1 := rfl
    simp only [Array.size_append, size_zeroCells, hc]
    omega
  · exact (below_drewN (Below.refl _ _) 1).alloc (Nat.le_refl _) _
theorem slices_Grow_nilI (n : Nat) (w : World) (hn : n ≤ 1048576) :
    Calls Tryz.prog 49 #[.slice none 0 0, .int .i64 n] w fun e w' => ∃ u, e = .returned u ∧ Ow cI 2 w.heap.size w' u [] ∧ Below w.heap.size w w' := by
  by_cases h0 : 0 < n
  · obtain ⟨w1, cap, hr, hge, hle, ho, hb⟩ := grown_nilI w n h0 hn
    have hle' : cap ≤ 9223372036854775807 := by simpa only [maxLen] using hle
    have HR := Lib.hid hr; have HO := Lib.hid ho; have HB := Lib.hid hb
    clear hr ho hb
    go_enter Tryz.func49, Tryz.ntmps49
    go_wp2_with (at_builtin; refine stopHere ?_)
    refine goHere ?_
    refine Lib.wpList_append_run _ rfl _ _ _ _ rfl _ _ rfl rfl _ _ (HR.out _) ?_
    go_wp2
    go_ret
    exact ⟨_, rfl, HO.out, HB.out⟩
  · obtain rfl : n = 0 := by omega
    go_enter Tryz.func49, Tryz.ntmps49
    go_wp2
    go_ret
    exact ⟨_, rfl, Ow.nil _ _, Below.refl _ _⟩

theorem slices_Concat_ints (v : Value) (xss : List (List Int)) (w : World) (h : Sl2 cI w v xss) (hl : xss.length ≤ 1048576) (hs : xss.flatten.length ≤ 1048576) :
    Calls Tryz.prog 23 #[v] w fun e w' => ∃ u, e = .returned u ∧ Ow cI 2 w.heap.size w' u xss.flatten ∧ Below w.heap.size w w' := by
  obtain ⟨A, c, rfl⟩ := h.opn
  have H := Lib.hid h; clear h
  go_enter Tryz.func23, Tryz.ntmps23
  go_wp2
  go_loop [3, 11] (fun s i => ∃ j : Nat, j ≤ xss.length ∧ i = .int .i64 j ∧ s = .int .i64 ((xss.take j).flatten.length : Nat)) (fun _ i => xss.length - (intOf i).toNat)
  case atStart => exact ⟨0, Nat.zero_le _, rfl, rfl⟩
  case round =>
    obtain ⟨j, hj, rfl, rfl⟩ := hrel
    by_cases hlt : j < xss.length
    · obtain ⟨b, o, Ai, ni, ci, rfl, hbl, hc0, hsj⟩ := H.out.at_ hlt
      obtain ⟨A', c', he⟩ := hsj.opn
      injection he with e1 e2 e3
      subst e1 e2 e3
      have h1 := congrArg List.length (flat_take_succ xss hlt)
      have h2 := flat_take_le xss (j + 1)
      rw [List.length_append] at h1
      obtain ⟨S, hS⟩ : ∃ S, (xss.take j).flatten.length = S := ⟨_, rfl⟩
      obtain ⟨T, hT⟩ : ∃ T, (xss.take (j + 1)).flatten.length = T := ⟨_, rfl⟩
      obtain ⟨M, hM⟩ : ∃ M, xss[j].length = M := ⟨_, rfl⟩
      rw [hS, hT, hM] at h1
      rw [hT] at h2
      rw [hM] at hc0
      rw [hS]
      have HT := Lib.hid hT
      have hb1 : S + M ≤ 1048576 := by omega
      have hw : IntKind.i64.wrap ((S : Int) + (M : Int)) = ((S + M : Nat) : Int) := by rw [IntWalk.i64_in _ ⟨by omega, by omega⟩]; omega
      have HTS := Lib.hid h1
      clear hS hT hM h1 h2 hsj
      go_wp2
      go_round
      case rel => exact ⟨j + 1, by omega, by go_num, by rw [HT.out, HTS.out, Int.natCast_add]⟩
      case measure => simp [intOf]; omega
    · obtain rfl : j = xss.length := by omega
      have h2 := flat_take_le xss xss.length
      obtain ⟨S, hS⟩ : ∃ S, (xss.take xss.length).flatten.length = S := ⟨_, rfl⟩
      rw [hS] at h2 ⊢
      clear hS
      have hS : S ≤ 1048576 := by omega
      clear h2
      go_wp2_with fail
      refine (slices_Grow_nilI S _ hS).mono ?_
      rintro e w1 ⟨u, rfl, ho, hb⟩
      have O := Lib.hid ho
      have HB := Lib.hid hb
      clear ho hb
      go_wp2
      go_loopw [6, 27] (fun v i wr => ∃ j : Nat, j ≤ xss.length ∧ i = .int .i64 j ∧ Ow cI 2 w.heap.size wr v (xss.take j).flatten ∧ Below w.heap.size w wr) (fun _ i _ => xss.length - (intOf i).toNat)
      case atStart => exact ⟨0, Nat.zero_le _, rfl, O.out, HB.out⟩
      case round =>
        obtain ⟨j, hj, rfl, ho, hb⟩ := hrel
        have HO := Lib.hid ho
        have HW := Lib.hid hb
        have hz := hb.size
        clear ho hb
        by_cases hlt : j < xss.length
        · obtain ⟨b, o, Ai, ni, ci, rfl, hbl, hc0, hsj⟩ := (H.out.below HW.out).at_ hlt
          have HS := Lib.hid hsj
          have HT := Lib.hid (flat_take_succ xss hlt)
          have h1 := congrArg List.length (flat_take_succ xss hlt)
          have h2 := flat_take_le xss (j + 1)
          rw [List.length_append] at h1
          have hsum : ((xss.take j).flatten.length + xss[j].length) ≤ 1048576 := by omega
          clear h1 h2 hsj
          go_wp2_with (at_builtin; refine stopHere ?_)
          refine goHere ?_
          refine ap_sl (K := cI) _ ty_int64 rfl _ _ rfl rfl rfl (B := w.heap.size) (xs := (xss.take j).flatten) (news := xss[j]) HO.out HS.out (by omega) hz ?_
          intro v1 w2 ho hg hb hat
          have HW2 := Lib.hid (HW.out.trans hb)
          have O2 := Lib.hid ho
          clear ho hg hb hat hsum
          go_wp2
          go_roundw
          case rel => exact ⟨j + 1, by omega, by go_num, by rw [HT.out]; exact O2.out, HW2.out⟩
          case measure => simp [intOf]; omega
        · obtain rfl : j = xss.length := by omega
          have HE : Hid ((xss.take xss.length).flatten = xss.flatten) := Lib.hid (by rw [List.take_length])
          go_wp2
          go_ret
          exact ⟨_, rfl, by rw [← HE.out]; exact HO.out, HW.out⟩
/-- slices.DeleteFunc of a row of the call's own, with a predicate that reads what lies below B -/
theorem slices_DeleteFunc (v : Value) (xs : List Int) (p : Int → Bool) (gp : FuncId) (lb : Array Value) (B : Nat) (w : World) (h : Ow cI 2 B w v xs) (hB : B ≤ w.heap.size) (hl : xs.length ≤ 1048576)
    (eg : ∀ args w, (callFunc gp args).run Tryz.prog w = .ok (.enter gp args) w)
    (hp : ∀ (W : World) (x : Int), Below B w W → Calls Tryz.prog gp (#[.int .i64 x] ++ lb) W fun e w' => e = .returned (.bool (p x)) ∧ ∃ q, w' = W.drewN q) :
    Calls Tryz.prog 46 #[v, .func (.func gp) #[] lb] w fun e w' => ∃ u, e = .returned u ∧ Ow cI 2 B w' u (xs.filter fun x => !p x) ∧ Below B w w' := by
  rcases h.cases' with ⟨rfl, rfl⟩ | ⟨g, c, rfl⟩
  · have hcon := AnyE.slices_IndexFunc_empty { Tryz.lDel with } none 0 (.func (.func gp) #[] lb) w
    change Calls Tryz.prog 66 _ _ _ at hcon
    have HC := Lib.hid hcon
    clear hcon h hp eg
    go_enter Tryz.func46, Tryz.ntmps46
    go_wp2_with fail
    refine HC.out.mono ?_
    rintro e w1 ⟨rfl, rfl⟩
    go_wp2
    go_ret
    exact ⟨_, rfl, Ow.nil _ _, Below.refl _ _⟩
  · obtain ⟨h1, h2, h3, h4, h5⟩ := h.holds
    have hcon := AnyE.slices_DeleteFunc Tryz.lDel (Value.int .i64) (fun _ => rfl) p gp lb eg 0 Tryz.zeroValue2 g 0 c xs.toArray w
      (fun W x hW => hp W x (hW.mono hB)) (fun n os dk x hd => hp _ x ?_) h1 (by simp; omega) (by simpa using h4)
    · change Calls Tryz.prog 46 _ _ _ at hcon
      refine hcon.mono fun e w' ⟨he, q, hw⟩ => ?_
      subst hw
      have hlen := List.length_filter_le (fun x => !p x) xs
      have := h.put (ys := xs.filter fun x => !p x) (zs := List.replicate (xs.length - (xs.filter fun x => !p x).length) 0) (q := q) (os := #[]) (by simp; omega)
      simp only [Go.Sort.grow_empty] at this
      refine ⟨_, he, ?_⟩
      simpa using this
    · have := h.put (ys := dk.toList) (zs := []) (q := n) (os := os) (by simpa using hd)
      simpa [sortWorld] using this.2
/-- slices.Compact of a row of the call's own -/
theorem slices_Compact (v : Value) (xs : List Int) (B : Nat) (w : World) (h : Ow cI 2 B w v xs) (hl : xs.length ≤ 1048576) :
    Calls Tryz.prog 25 #[v] w fun e w' => ∃ u, e = .returned u ∧ Ow cI 2 B w' u (Lib.compactUpTo xs.toArray xs.length) ∧ Below B w w' := by
  rcases h.cases' with ⟨rfl, rfl⟩ | ⟨g, c, rfl⟩
  · clear h
    go_enter Tryz.func25, Tryz.ntmps25
    go_wp2
    go_ret
    exact ⟨_, rfl, Ow.nil _ _, Below.refl _ _⟩
  · obtain ⟨h1, h2, h3, h4, h5⟩ := h.holds
    have hcon := AnyE.slices_Compact Tryz.lCmp (Value.int .i64) (fun _ => rfl) (EqlAt.intD _ _ _) (NeqAt.intD _ _ _) 0 Tryz.zeroValue2 g 0 c xs.toArray w h1 (by simp; omega) (by simpa using h4)
    change Calls Tryz.prog 25 _ _ _ at hcon
    refine hcon.mono fun e w' ⟨he, q, hw⟩ => ?_
    subst hw
    have hlen : (Lib.compactUpTo xs.toArray xs.length).length ≤ xs.length := by
      unfold Lib.compactUpTo
      rw [List.length_map]
      have := List.length_filter_le (Lib.keeps xs.toArray) (List.range xs.length)
      simpa using this
    have := h.put (ys := Lib.compactUpTo xs.toArray xs.length) (zs := List.replicate (xs.length - (Lib.compactUpTo xs.toArray xs.length).length) 0) (q := q) (os := #[]) (by simp; omega)
    simp only [Go.Sort.grow_empty] at this
    refine ⟨_, he, ?_⟩
    simpa using this
def Tryz.lSort_ren : Go.Shelf.Ren := ⟨fun | 5 => 24 | 8 => 51 | 7 => 50 | 19 => 77 | 20 => 78 | 10 => 68 | 11 => 69 | 12 => 70 | 13 => 71 | 14 => 72 | 15 => 73 | 16 => 74 | 17 => 75 | 18 => 76 | 30 => 96 | 31 => 97 | 32 => 98 | 33 => 99 | 34 => 100 | 35 => 101 | 40 => 111 | n => n, fun | 23 => 24 | 25 => 2 | 3 => 3 | 32 => 74 | 22 => 24 | 0 => 0 | 44 => 94 | 46 => 62 | 4 => 4 | 36 => 86 | 35 => 85 | 41 => 91 | 5 => 5 | 9 => 9 | 53 => 102 | 57 => 106 | 63 => 113 | 64 => 114 | n => n, fun | n => n⟩
theorem Tryz.lSort : Go.Proofs.SlLaysM.n5 Tryz.prog Tryz.lSort_ren := {
  mixed := by kernel_rfl
  f5 := ⟨Tryz.f24.name, by decide, Tryz.func24.trans (congrArg some (by kernel_rfl))⟩
  f7 := ⟨Tryz.f50.name, by decide, Tryz.func50.trans (congrArg some (by kernel_rfl))⟩
  f8 := Tryz.func51.trans (congrArg some (by kernel_rfl))
  f10 := ⟨Tryz.f68.name, by decide, Tryz.func68.trans (congrArg some (by kernel_rfl))⟩
  f11 := ⟨Tryz.f69.name, by decide, Tryz.func69.trans (congrArg some (by kernel_rfl))⟩
  f12 := ⟨Tryz.f70.name, by decide, Tryz.func70.trans (congrArg some (by kernel_rfl))⟩
  f13 := ⟨Tryz.f71.name, by decide, Tryz.func71.trans (congrArg some (by kernel_rfl))⟩
  f14 := ⟨Tryz.f72.name, by decide, Tryz.func72.trans (congrArg some (by kernel_rfl))⟩
  f15 := ⟨Tryz.f73.name, by decide, Tryz.func73.trans (congrArg some (by kernel_rfl))⟩
  f16 := ⟨Tryz.f74.name, by decide, Tryz.func74.trans (congrArg some (by kernel_rfl))⟩
  f17 := ⟨Tryz.f75.name, by decide, Tryz.func75.trans (congrArg some (by kernel_rfl))⟩
  f18 := ⟨Tryz.f76.name, by decide, Tryz.func76.trans (congrArg some (by kernel_rfl))⟩
  f19 := Tryz.func77.trans (congrArg some (by kernel_rfl))
  f20 := Tryz.func78.trans (congrArg some (by kernel_rfl))
  f30 := ⟨Tryz.f96.name, by decide, Tryz.func96.trans (congrArg some (by kernel_rfl))⟩
  f31 := Tryz.func97.trans (congrArg some (by kernel_rfl))
  f32 := Tryz.func98.trans (congrArg some (by kernel_rfl))
  f33 := ⟨Tryz.f99.name, by decide, Tryz.func99.trans (congrArg some (by kernel_rfl))⟩
  f34 := ⟨Tryz.f100.name, by decide, Tryz.func100.trans (congrArg some (by kernel_rfl))⟩
  f35 := ⟨Tryz.f101.name, by decide, Tryz.func101.trans (congrArg some (by kernel_rfl))⟩
  f40 := ⟨Tryz.f111.name, by decide, Tryz.func111.trans (congrArg some (by kernel_rfl))⟩
  t0 := Tryz.underlying0
  a0 := Tryz.isAgg0
  z0 := Tryz.sizeOf0
  v0 := Tryz.zeroValue0
  t3 := Tryz.underlying3
  a3 := Tryz.isAgg3
  z3 := Tryz.sizeOf3
  v3 := Tryz.zeroValue3
  t4 := Tryz.underlying4
  a4 := Tryz.isAgg4
  z4 := Tryz.sizeOf4
  v4 := Tryz.zeroValue4
  t5 := Tryz.underlying5
  a5 := Tryz.isAgg5
  z5 := Tryz.sizeOf5
  v5 := Tryz.zeroValue5
  t9 := Tryz.underlying9
  a9 := Tryz.isAgg9
  z9 := Tryz.sizeOf9
  v9 := Tryz.zeroValue9
  t22 := Tryz.underlying24
  a22 := Tryz.isAgg24
  z22 := Tryz.sizeOf24
  v22 := Tryz.zeroValue24
  t23 := Tryz.underlying24
  a23 := Tryz.isAgg24
  z23 := Tryz.sizeOf24
  v23 := Tryz.zeroValue24
  t25 := Tryz.underlying2
  a25 := Tryz.isAgg2
  z25 := Tryz.sizeOf2
  v25 := Tryz.zeroValue2
  t32 := Tryz.underlying74
  a32 := Tryz.isAgg74
  z32 := Tryz.sizeOf74
  v32 := Tryz.zeroValue74
  t35 := Tryz.underlying85
  a35 := Tryz.isAgg85
  z35 := Tryz.sizeOf85
  v35 := Tryz.zeroValue85
  t36 := Tryz.underlying86
  a36 := Tryz.isAgg86
  z36 := Tryz.sizeOf86
  v36 := Tryz.zeroValue86
  t41 := Tryz.underlying91
  a41 := Tryz.isAgg91
  z41 := Tryz.sizeOf91
  v41 := Tryz.zeroValue91
  t44 := Tryz.underlying94
  a44 := Tryz.isAgg94
  z44 := Tryz.sizeOf94
  v44 := Tryz.zeroValue94
  t46 := Tryz.underlying62
  a46 := Tryz.isAgg62
  z46 := Tryz.sizeOf62
  v46 := Tryz.zeroValue62
  t53 := Tryz.underlying102
  a53 := Tryz.isAgg102
  z53 := Tryz.sizeOf102
  v53 := Tryz.zeroValue102
  t57 := Tryz.underlying106
  a57 := Tryz.isAgg106
  z57 := Tryz.sizeOf106
  v57 := Tryz.zeroValue106
  t63 := Tryz.underlying113
  a63 := Tryz.isAgg113
  z63 := Tryz.sizeOf113
  v63 := Tryz.zeroValue113
  t64 := Tryz.underlying114
  a64 := Tryz.isAgg114
  z64 := Tryz.sizeOf114
  v64 := Tryz.zeroValue114 }

/-- slices.Sort of a row of the call's own -/
theorem slices_Sort (v : Value) (xs : List Int) (B : Nat) (w : World) (h : Ow cI 2 B w v xs) (hl : xs.length ≤ 1048576) :
    Calls Tryz.prog 24 #[v] w fun e w' => e = .returned (.tuple #[]) ∧ Ow cI 2 B w' v (xs.mergeSort fun x y => decide (x ≤ y)) ∧ Below B w w' := by
  rcases h.cases' with ⟨rfl, rfl⟩ | ⟨g, c, rfl⟩
  · have hcon := AnyM.slices_Sort_int_none Tryz.lSort none 0 w
    change Calls Tryz.prog 24 _ _ _ at hcon
    exact hcon.mono fun e w' ⟨he, hw⟩ => ⟨he, by simpa using Ow.nil _ _, hw ▸ Below.refl _ _⟩
  · obtain ⟨h1, h2, h3, h4, h5⟩ := h.holds
    have hcon := AnyM.slices_Sort_int Tryz.lSort g 0 c xs w h1 h2 (by omega)
    change Calls Tryz.prog 24 _ _ _ at hcon
    refine hcon.mono fun e w' ⟨he, n, os, hw⟩ => ?_
    subst hw
    have := h.put (ys := xs.mergeSort fun x y => decide (x ≤ y)) (zs := []) (q := n) (os := os) (by rw [List.append_nil, List.length_mergeSort])
    rw [List.append_nil, List.length_mergeSort] at this
    exact ⟨he, this⟩
end Go.Proofs.YtjpgiamblbgkpaaGreat
