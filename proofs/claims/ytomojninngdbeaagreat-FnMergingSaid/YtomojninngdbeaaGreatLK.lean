/- The helpers of laws.go: big, hasInt, and the comparisons likeInts, likeTrace5, likeFormula5 where both arguments read alike; the argument of a law over bytes, opened. -/
import Derived.Test.YtomojninngdbeaaGreatDr
import Derived.Test.YtomojninngdbeaaGreatOA
import Derived.DataShut
namespace Go.Proofs.YtomojninngdbeaaGreat
open Go.RowKit
set_option linter.unusedVariables false
set_option linter.unusedSimpArgs false
theorem bytes_of (zs : List Int) (hwf : ∀ n ∈ zs, (Lit.int .u8 n).wf = true) : ∃ ys : List (Fin 256), ys.map (fun y => (y.val : Int)) = zs := by
  induction zs with
  | nil => exact ⟨[], rfl⟩
  | cons z zs ih =>
    obtain ⟨ys, h⟩ := ih fun n hn => hwf n (List.mem_cons_of_mem _ hn)
    have h1 := (Lit.wf_int_iff .u8 z).1 (hwf z List.mem_cons_self)
    have h2 : 0 ≤ z ∧ z ≤ 255 := h1
    refine ⟨⟨z.toNat, by omega⟩ :: ys, ?_⟩
    rw [List.map_cons, h]
    congr 1
    show ((z.toNat : Nat) : Int) = z
    omega
section
open Go.RowKit Go.ChangeShapes Go.WideShapes Go.Deep
variable {H : Type} {enc : TypeId × Value → H} {P : Program} {w : World} {base : Nat} {spare : Nat → Bool} {held : Bool}
/-- a slice of bytes that came in -/
theorem open_Y {t e : TypeId} (ht : P.underlying t = some (.slice e)) (he : P.underlying e = some (.int .u8)) (hc : P.cellsOf e = 1) {fuel : Nat} {v : Value} {x : DataW H × List MemPlace}
    (h : DataW.trod enc P w base spare held fuel t [v] = some x) : ∃ xs : List (Fin 256), Sl cY w v xs := by
  rcases open_ints ht he hc h with ⟨hcs, _⟩ | ⟨a, len, cap, zs, hcs, _, hl, hm, hz, _, hcell, hwf⟩
  · injection hcs with hv _
    subst hv
    exact ⟨[], Sl.nil⟩
  · injection hcs with hv _
    subst hv
    have hzl : len ≤ zs.length := by rw [hz]; split <;> omega
    obtain ⟨ys, hys⟩ := bytes_of zs hwf
    have hyl : ys.length = zs.length := by rw [← hys, List.length_map]
    refine ⟨ys.take len, sl_of_cells (by simp; omega) hl hm fun k u hu => ?_⟩
    have hk : k < (ys.take len).length := by
      have := (List.getElem?_eq_some_iff.1 hu).1
      rw [flat_length] at this
      simpa [cY] using this
    have h2 := flat_get (K := cY) (ys.take len) k hk 0 (by decide)
    rw [show k * cY.size + 0 = k from by simp [cY], hu] at h2
    have hk2 : k < zs.length := by simp at hk; omega
    have hk3 : k < ys.length := by omega
    rw [hcell k hk2, List.getD_eq_getElem?_getD, List.getElem?_eq_getElem hk2]
    have e1 : zs[k] = (ys[k].val : Int) := by simp [← hys]
    have e2 : (ys.take len)[k] = ys[k] := List.getElem_take
    rw [e2] at h2
    have h3 : u = .int .u8 (ys[k].val : Int) := by simpa [cY] using h2
    rw [h3, Option.getD_some, e1]
end
theorem laws_big (v : Value) (xs : List (Fin 256)) (w : World) (h : Sl cY w v xs) :
    Calls Tryz.prog 4 #[v] w fun e w' => e = .returned (.bool (decide (4096 < xs.length))) ∧ w = w' := by
  obtain ⟨A, c, rfl⟩ := h.opn
  go_enter Tryz.func4, Tryz.ntmps4
  go_wp2
  go_ret
  refine ⟨?_, rfl⟩
  by_cases h1 : 4096 < xs.length
  · rw [decide_eq_true h1]
    exact congrArg (fun z => Ending.returned (.bool z)) (by simp; omega)
  · rw [decide_eq_false h1]
    exact congrArg (fun z => Ending.returned (.bool z)) (by simp; omega)
theorem laws_likeInts (v u : Value) (xs : List Int) (w : World) (h : Sl cI w v xs) (h' : Sl cI w u xs) (hl : xs.length ≤ 1073741824) :
    Calls Tryz.prog 9 #[v, u] w fun e w' => e = .returned (.bool true) ∧ Below w.heap.size w w' := by
  obtain ⟨A, c, rfl⟩ := h.opn
  obtain ⟨A', c', rfl⟩ := h'.opn
  go_enter Tryz.func9, Tryz.ntmps9
  go_wp2
  go_loopw [5] (fun i wr => ∃ j : Nat, j ≤ xs.length ∧ i = .int .i64 j ∧ Below w.heap.size w wr) (fun i _ => xs.length - (intOf i).toNat)
  case atStart => exact ⟨0, Nat.zero_le _, rfl, Below.refl _ _⟩
  case round =>
    obtain ⟨j, hj, rfl, hbl⟩ := hrel
    have HB := Lib.hid hbl
    by_cases hlt : j < xs.length
    · obtain ⟨b, o, rfl, hb, hcell⟩ := (h.below hbl).cell hlt
      have c0 := hcell 0 (.int .i64 xs[j]) rfl
      rw [show o + j * cI.size + 0 = o + j by simp [cI]] at c0
      obtain ⟨b', o', rfl, hb', hcell'⟩ := (h'.below hbl).cell hlt
      have c1 := hcell' 0 (.int .i64 xs[j]) rfl
      rw [show o' + j * cI.size + 0 = o' + j by simp [cI]] at c1
      generalize xs[j] = x at *
      clear hcell hcell' hbl h h'
      go_wp2
      go_quiet (fail)
      go_wp2
      go_roundw
      case rel => exact ⟨j + 1, by omega, by go_num, below_drewN HB.out _⟩
      case measure => simp [intOf]; omega
    · obtain rfl : j = xs.length := by omega
      go_wp2
      go_ret
      exact ⟨rfl, HB.out⟩
end Go.Proofs.YtomojninngdbeaaGreat
