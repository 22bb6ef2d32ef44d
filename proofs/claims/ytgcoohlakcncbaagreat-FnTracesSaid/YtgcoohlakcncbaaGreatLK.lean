/- The helpers of laws.go: big, hasInt, and the comparisons likeInts, likeTrace5, likeFormula5 where both arguments read alike; the argument of a law over bytes, opened. -/
import Derived.Test.YtgcoohlakcncbaaGreatDr
import Derived.Test.YtgcoohlakcncbaaGreatOA
import Derived.DataShut
namespace Go.Proofs.YtgcoohlakcncbaaGreat
open Go.RowKit
set_option linter.unusedVariables false
set_option linter.unusedSimpArgs false
theorem bytes_of (zs : List Int) (hwf : ∀ n ∈ zs, (Lit.int .u8 n).wf = true) : ∃ ys : List (Fin 256), ys.map (fun y => (y.val : Int)) = zs := by
  induction zs with
  | nil => exact ⟨[], rfl⟩
  | cons z zs ih =>
    obtain ⟨ys, h⟩ := ih fun n hn => hwf n (List.mem_cons_of_mem _ hn)
    have h1 := (Lit.wf_int_iff .u8 z).1 (hwf z List.mem_cons_self)
    have h2 : 0 ≤ z ∧ z ≤ 255 := h1
    refine ⟨⟨z.toNat, by omega⟩ :: ys, ?_⟩
    rw [List.map_cons, h]
    congr 1
    show ((z.toNat : Nat) : Int) = z
    omega
section
open Go.RowKit Go.ChangeShapes Go.WideShapes Go.Deep
variable {H : Type} {enc : TypeId × Value → H} {P : Program} {w : World} {base : Nat} {spare : Nat → Bool} {held : Bool}
/-- a slice of bytes that came in -/
theorem open_Y {t e : TypeId} (ht : P.underlying t = some (.slice e)) (he : P.underlying e = some (.int .u8)) (hc : P.cellsOf e = 1) {fuel : Nat} {v : Value} {x : DataW H × List MemPlace}
    (h : DataW.trod enc P w base spare held fuel t [v] = some x) : ∃ xs : List (Fin 256), Sl cY w v xs := by
  rcases open_ints ht he hc h with ⟨hcs, _⟩ | ⟨a, len, cap, zs, hcs, _, hl, hm, hz, _, hcell, hwf⟩
  · injection hcs with hv _
    subst hv
    exact ⟨[], Sl.nil⟩
  · injection hcs with hv _
    subst hv
    have hzl : len ≤ zs.length := by rw [hz]; split <;> omega
    obtain ⟨ys, hys⟩ := bytes_of zs hwf
    have hyl : ys.length = zs.length := by rw [← hys, List.length_map]
    refine ⟨ys.take len, sl_of_cells (by simp; omega) hl hm fun k u hu => ?_⟩
    have hk : k < (ys.take len).length := by
      have := (List.getElem?_eq_some_iff.1 hu).1
      rw [flat_length] at this
      simpa [cY] using this
    have h2 := flat_get (K := cY) (ys.take len) k hk 0 (by decide)
    rw [show k * cY.size + 0 = k from by simp [cY], hu] at h2
    have hk2 : k < zs.length := by simp at hk; omega
    have hk3 : k < ys.length := by omega
    rw [hcell k hk2, List.getD_eq_getElem?_getD, List.getElem?_eq_getElem hk2]
    have e1 : zs[k] = (ys[k].val : Int) := by simp [← hys]
    have e2 : (ys.take len)[k] = ys[k] := List.getElem_take
    rw [e2] at h2
    have h3 : u = .int .u8 (ys[k].val : Int) := by simpa [cY] using h2
    rw [h3, Option.getD_some, e1]
end
theorem laws_big (v : Value) (xs : List (Fin 256)) (w : World) (h : Sl cY w v xs) :
    Calls Tryz.prog 12 #[v] w fun e w' => e = .returned (.bool (decide (4096 < xs.length))) ∧ w = w' := by
  obtain ⟨A, c, rfl⟩ := h.opn
  go_enter Tryz.func12, Tryz.ntmps12
  go_wp2
  go_ret
  refine ⟨?_, rfl⟩
  by_cases h1 : 4096 < xs.length
  · rw [decide_eq_true h1]
    exact congrArg (fun z => Ending.returned (.bool z)) (by simp; omega)
  · rw [decide_eq_false h1]
    exact congrArg (fun z => Ending.returned (.bool z)) (by simp; omega)
theorem laws_hasInt (v : Value) (xs : List Int) (n : Int) (w : World) (h : Sl cI w v xs) (hl : xs.length ≤ 1073741824) :
    Calls Tryz.prog 31 #[v, .int .i64 n] w fun e w' => e = .returned (.bool (decide (n ∈ xs))) ∧ w = w' := by
  obtain ⟨A, c, rfl⟩ := h.opn
  go_enter Tryz.func31, Tryz.ntmps31
  go_wp2
  go_loop [5] (fun i => ∃ j : Nat, j ≤ xs.length ∧ i = .int .i64 j ∧ n ∉ xs.take j) (fun i => xs.length - (intOf i).toNat)
  case atStart => exact ⟨0, Nat.zero_le _, rfl, by simp⟩
  case round =>
    obtain ⟨j, hj, rfl, hn⟩ := hrel
    by_cases hlt : j < xs.length
    · obtain ⟨b, o, rfl, hb, hcell⟩ := h.cell hlt
      have c0 := hcell 0 (.int .i64 xs[j]) rfl
      rw [show o + j * cI.size + 0 = o + j by simp [cI]] at c0
      have hmem : xs[j] ∈ xs := List.getElem_mem hlt
      have HT := Lib.hid (List.take_succ_eq_append_getElem hlt)
      replace hn := Lib.hid hn
      generalize xs[j] = x at *
      replace hcell := Lib.hid hcell
      cases he : (x == n)
      · have hne : x ≠ n := by simpa using he
        replace hne := Lib.hid hne
        go_wp2
        go_round
        case rel => exact ⟨j + 1, by omega, by go_num, by rw [HT.out, List.mem_append, List.mem_singleton]; exact fun hh => hh.elim hn.out fun e => hne.out e.symm⟩
        case measure => simp [intOf]; omega
      · have he' : x = n := by simpa using he
        subst he'
        replace hmem := Lib.hid hmem
        go_wp2
        go_ret
        exact ⟨by rw [decide_eq_true hmem.out]; rfl, rfl⟩
    · obtain rfl : j = xs.length := by omega
      rw [List.take_length] at hn
      replace hn := Lib.hid hn
      go_wp2
      go_ret
      exact ⟨by rw [decide_eq_false hn.out]; rfl, rfl⟩
theorem q_hasInt {v : Value} {xs : List Int} {n : Int} {b : Bool} (hb : decide (n ∈ xs) = b) (W : World) (h : Sl cI W v xs) (hl : xs.length ≤ 1073741824) (k : Nat) :
    Calls Tryz.prog 31 #[v, .int .i64 n] (W.drewN k) fun e w'' => e = .returned (.bool b) ∧ ∃ q, w'' = W.drewN q :=
  (laws_hasInt v xs n _ (h.drewN k) hl).mono fun e w' hh => ⟨by rw [hh.1, hb], k, hh.2.symm⟩
theorem q_hasInt2 {v : Value} {xs : List Int} {n : Int} {b : Bool} (hb : decide (n ∈ xs) = b) (W : World) (h : Sl cI W v xs) (hl : xs.length ≤ 1073741824) (q k : Nat) :
    Calls Tryz.prog 31 #[v, .int .i64 n] (W.drewN (q + k)) fun e w'' => e = .returned (.bool b) ∧ ∃ m, w'' = W.drewN (q + m) :=
  (laws_hasInt v xs n _ (h.drewN _) hl).mono fun e w' hh => ⟨by rw [hh.1, hb], k, hh.2.symm⟩
theorem laws_likeInts (v u : Value) (xs : List Int) (w : World) (h : Sl cI w v xs) (h' : Sl cI w u xs) (hl : xs.length ≤ 1073741824) :
    Calls Tryz.prog 111 #[v, u] w fun e w' => e = .returned (.bool true) ∧ Below w.heap.size w w' := by
  obtain ⟨A, c, rfl⟩ := h.opn
  obtain ⟨A', c', rfl⟩ := h'.opn
  go_enter Tryz.func111, Tryz.ntmps111
  go_wp2
  go_loopw [5] (fun i wr => ∃ j : Nat, j ≤ xs.length ∧ i = .int .i64 j ∧ Below w.heap.size w wr) (fun i _ => xs.length - (intOf i).toNat)
  case atStart => exact ⟨0, Nat.zero_le _, rfl, Below.refl _ _⟩
  case round =>
    obtain ⟨j, hj, rfl, hbl⟩ := hrel
    have HB := Lib.hid hbl
    by_cases hlt : j < xs.length
    · obtain ⟨b, o, rfl, hb, hcell⟩ := (h.below hbl).cell hlt
      have c0 := hcell 0 (.int .i64 xs[j]) rfl
      rw [show o + j * cI.size + 0 = o + j by simp [cI]] at c0
      obtain ⟨b', o', rfl, hb', hcell'⟩ := (h'.below hbl).cell hlt
      have c1 := hcell' 0 (.int .i64 xs[j]) rfl
      rw [show o' + j * cI.size + 0 = o' + j by simp [cI]] at c1
      generalize xs[j] = x at *
      clear hcell hcell' hbl h h'
      go_wp2
      go_quiet (fail)
      go_wp2
      go_roundw
      case rel => exact ⟨j + 1, by omega, by go_num, below_drewN HB.out _⟩
      case measure => simp [intOf]; omega
    · obtain rfl : j = xs.length := by omega
      go_wp2
      go_ret
      exact ⟨rfl, HB.out⟩
theorem laws_likeFormula5 (v u : Value) (xs : List Nd) (w : World) (h : Sl cN w v xs) (h' : Sl cN w u xs) (hl : xs.length ≤ 1073741824) :
    Calls Tryz.prog 16 #[v, u] w fun e w' => e = .returned (.bool true) ∧ Below w.heap.size w w' := by
  obtain ⟨A, c, rfl⟩ := h.opn
  obtain ⟨A', c', rfl⟩ := h'.opn
  go_enter Tryz.func16, Tryz.ntmps16
  go_wp2
  go_loopw [5] (fun i wr => ∃ j : Nat, j ≤ xs.length ∧ i = .int .i64 j ∧ Below w.heap.size w wr) (fun i _ => xs.length - (intOf i).toNat)
  case atStart => exact ⟨0, Nat.zero_le _, rfl, Below.refl _ _⟩
  case round =>
    obtain ⟨j, hj, rfl, hbl⟩ := hrel
    have HB := Lib.hid hbl
    by_cases hlt : j < xs.length
    · obtain ⟨b, o, rfl, hb, hcell⟩ := (h.below hbl).cell hlt
      have c0 := hcell 0 (.int .i64 xs[j].1) rfl
      have c1 := hcell 1 (.int .i64 xs[j].2) rfl
      rw [show o + j * cN.size + 0 = o + j * 2 by simp [cN]] at c0
      rw [show o + j * cN.size + 1 = o + j * 2 + 1 by simp [cN]] at c1
      obtain ⟨b', o', rfl, hb', hcell'⟩ := (h'.below hbl).cell hlt
      have d0 := hcell' 0 (.int .i64 xs[j].1) rfl
      have d1 := hcell' 1 (.int .i64 xs[j].2) rfl
      rw [show o' + j * cN.size + 0 = o' + j * 2 by simp [cN]] at d0
      rw [show o' + j * cN.size + 1 = o' + j * 2 + 1 by simp [cN]] at d1
      generalize xs[j].1 = x at *
      generalize xs[j].2 = y at *
      clear hcell hcell' hbl h h'
      go_wp2
      go_quiet (fail)
      go_wp2
      go_roundw
      case rel => exact ⟨j + 1, by omega, by go_num, below_drewN HB.out _⟩
      case measure => simp [intOf]; omega
    · obtain rfl : j = xs.length := by omega
      go_wp2
      go_ret
      exact ⟨rfl, HB.out⟩
theorem laws_likeTrace5 (b : Bool) (v u : Value) (xs : List Int) (w : World) (h : Sl cI w v xs) (h' : Sl cI w u xs) (hl : xs.length ≤ 1073741824) :
    Calls Tryz.prog 37 #[.agg #[.bool b, v], .agg #[.bool b, u]] w fun e w' => e = .returned (.bool true) ∧ Below w.heap.size w w' := by
  obtain ⟨A, c, rfl⟩ := h.opn
  obtain ⟨A', c', rfl⟩ := h'.opn
  have hb1 := below_alloc' w (.cells #[.bool b, .slice A xs.length c] 55)
  have hb2 := below_alloc' (w.alloc (.cells #[.bool b, .slice A xs.length c] 55)) (.cells #[.bool b, .slice A' xs.length c'] 55)
  have HB := Lib.hid (bthen hb1 hb2)
  clear hb1 hb2
  go_enter Tryz.func37, Tryz.ntmps37
  go_wp2_with fail
  refine (laws_likeInts _ _ xs _ (h.below HB.out) (h'.below HB.out) hl).mono ?_
  rintro e w1 ⟨rfl, hb⟩
  have HB1 := Lib.hid (bthen HB.out hb)
  clear hb
  go_wp2
  go_ret
  exact ⟨rfl, HB1.out⟩
theorem laws_likeFrame5 (b : Int) (v u : Value) (xs : List Int) (w : World) (h : Sl cI w v xs) (h' : Sl cI w u xs) (hl : xs.length ≤ 1073741824) :
    Calls Tryz.prog 45 #[.agg #[.int .i64 b, v], .agg #[.int .i64 b, u]] w fun e w' => e = .returned (.bool true) ∧ Below w.heap.size w w' := by
  obtain ⟨A, c, rfl⟩ := h.opn
  obtain ⟨A', c', rfl⟩ := h'.opn
  have hb1 := below_alloc' w (.cells #[.int .i64 b, .slice A xs.length c] 63)
  have hb2 := below_alloc' (w.alloc (.cells #[.int .i64 b, .slice A xs.length c] 63)) (.cells #[.int .i64 b, .slice A' xs.length c'] 63)
  have HB := Lib.hid (bthen hb1 hb2)
  clear hb1 hb2
  go_enter Tryz.func45, Tryz.ntmps45
  go_wp2_with fail
  refine (laws_likeInts _ _ xs _ (h.below HB.out) (h'.below HB.out) hl).mono ?_
  rintro e w1 ⟨rfl, hb⟩
  have HB1 := Lib.hid (bthen HB.out hb)
  clear hb
  go_wp2
  go_ret
  exact ⟨rfl, HB1.out⟩
end Go.Proofs.YtgcoohlakcncbaaGreat
