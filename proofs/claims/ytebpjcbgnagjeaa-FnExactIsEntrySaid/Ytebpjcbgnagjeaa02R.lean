/- Contracts of the readers of formulas' texts: taking a byte (written by gen02R.py). -/
import Derived.Test.Ytebpjcbgnagjeaa33ww
import Derived.Test.YtebpjcbgnagjeaaM02R
import Derived.Test.YtebpjcbgnagjeaaB6
import Derived.Test.YtebpjcbgnagjeaaSch
namespace Go.Proofs.Ytebpjcbgnagjeaa
open Go.RowKit
set_option linter.unusedVariables false
set_option linter.unusedSimpArgs false
theorem nx_at {s : ByteArray} {i : Nat} (h : i < s.size) : nx s i false = some s[i].toNat := by
  unfold nx
  rw [Array.getElem?_eq_getElem (show i < s.data.size from h)]
  rfl
theorem nx_end {s : ByteArray} {i : Nat} {bad : Bool} (h : s.size ≤ i) : nx s i bad = none := by
  unfold nx
  cases bad
  · rw [if_neg (by decide), Array.getElem?_eq_none (show s.data.size ≤ i from h)]; rfl
  · rfl
theorem sp_take (s : ByteArray) (g i b : Nat) (bad : Bool) (w : World) (h : Blk w g 45 #[.string s, .int .i64 (i : Int), .bool bad]) (hi : i ≤ s.size) (hs : s.size ≤ 1000) :
    Calls Try.prog 38 #[.pointer (some ⟨g, 0, none⟩), .int .u8 (b : Int)] w fun e w' => e = .returned (.bool (nx s i bad == some b)) ∧ Blk w' g 45 #[.string s, .int .i64 ((if nx s i bad == some b then i + 1 else i : Nat) : Int), .bool bad] ∧ w.grownBy w' (some g) := by
  have hw : ∀ n, Blk (w.drewN n) g 45 #[.string s, .int .i64 (i : Int), .bool bad] := fun n => h.below (below_drewN (Below.refl _ _) n) h.lt
  have HW := Lib.hid hw
  clear hw
  have kr := h.cell
  have fr := h.frozen
  have lr := h.lt
  clear h
  cases bad with
  | true =>
    rw [show (nx s i true == some b) = false from rfl, if_neg (by decide)]
    go_enter Try.func38, Try.ntmps38
    go_upto_region 1 with fail
    go_quiet (fail)
    clear kr fr lr
    go_wp2
    go_ret
    exact ⟨rfl, HW.out _, grown_drewN (World.grownBy.refl _ _) _⟩
  | false =>
    rcases Nat.lt_or_ge i s.size with hlt | hge
    · have HD := Lib.hid (nx_at hlt)
      by_cases hc : s[i].toNat = b
      · have hcc : ((s[i].toNat : Int) == (b : Int)) = true := by rw [hc]; simp
        rw [show (nx s i false == some b) = true by rw [HD.out, hc]; simp, if_pos rfl]
        clear HD
        go_enter Try.func38, Try.ntmps38
        go_upto_region 1 with fail
        go_quiet (fail)
        have kq := (HW.out nq).cell
        have fq := (HW.out nq).frozen
        have lq := (HW.out nq).lt
        clear kr fr lr hcc
        have hb9 := (HW.out nq).set_ 1 (.int .i64 ((i : Int) + 1))
        have hg9 := grown_set (grown_drewN (World.grownBy.refl w (some g)) nq) rfl 1 (.int .i64 ((i : Int) + 1))
        have B9 := Lib.hid hb9
        have G9 := Lib.hid hg9
        clear hb9 hg9
        go_wp2
        go_ret
        exact ⟨rfl, B9.out, G9.out⟩
      · have hcc : ((s[i].toNat : Int) == (b : Int)) = false := by simp; omega
        rw [show (nx s i false == some b) = false by rw [HD.out]; simpa using hc, if_neg (by decide)]
        clear HD
        go_enter Try.func38, Try.ntmps38
        go_upto_region 1 with fail
        go_quiet (fail)
        clear kr fr lr hcc
        go_wp2
        go_ret
        exact ⟨rfl, HW.out _, grown_drewN (World.grownBy.refl _ _) _⟩
    · obtain rfl : i = s.size := by omega
      rw [nx_end (bad := false) hge, show ((none : Option Nat) == some b) = false from rfl, if_neg (by decide)]
      go_enter Try.func38, Try.ntmps38
      go_upto_region 1 with fail
      go_quiet (fail)
      clear kr fr lr
      go_wp2
      go_ret
      exact ⟨rfl, HW.out _, grown_drewN (World.grownBy.refl _ _) _⟩
theorem im_take (s : ByteArray) (g i b : Nat) (bad : Bool) (w : World) (h : Blk w g 55 #[.string s, .int .i64 (i : Int), .bool bad]) (hi : i ≤ s.size) (hs : s.size ≤ 1000) :
    Calls Try.prog 44 #[.pointer (some ⟨g, 0, none⟩), .int .u8 (b : Int)] w fun e w' => e = .returned (.bool (nx s i bad == some b)) ∧ Blk w' g 55 #[.string s, .int .i64 ((if nx s i bad == some b then i + 1 else i : Nat) : Int), .bool bad] ∧ w.grownBy w' (some g) := by
  have hw : ∀ n, Blk (w.drewN n) g 55 #[.string s, .int .i64 (i : Int), .bool bad] := fun n => h.below (below_drewN (Below.refl _ _) n) h.lt
  have HW := Lib.hid hw
  clear hw
  have kr := h.cell
  have fr := h.frozen
  have lr := h.lt
  clear h
  cases bad with
  | true =>
    rw [show (nx s i true == some b) = false from rfl, if_neg (by decide)]
    go_enter Try.func44, Try.ntmps44
    go_upto_region 1 with fail
    go_quiet (fail)
    clear kr fr lr
    go_wp2
    go_ret
    exact ⟨rfl, HW.out _, grown_drewN (World.grownBy.refl _ _) _⟩
  | false =>
    rcases Nat.lt_or_ge i s.size with hlt | hge
    · have HD := Lib.hid (nx_at hlt)
      by_cases hc : s[i].toNat = b
      · have hcc : ((s[i].toNat : Int) != (b : Int)) = false := by rw [hc]; simp
        rw [show (nx s i false == some b) = true by rw [HD.out, hc]; simp, if_pos rfl]
        clear HD
        go_enter Try.func44, Try.ntmps44
        go_upto_region 1 with fail
        go_quiet (fail)
        have kq := (HW.out nq).cell
        have fq := (HW.out nq).frozen
        have lq := (HW.out nq).lt
        clear kr fr lr hcc
        have hb9 := (HW.out nq).set_ 1 (.int .i64 ((i : Int) + 1))
        have hg9 := grown_set (grown_drewN (World.grownBy.refl w (some g)) nq) rfl 1 (.int .i64 ((i : Int) + 1))
        have B9 := Lib.hid hb9
        have G9 := Lib.hid hg9
        clear hb9 hg9
        go_wp2
        go_ret
        exact ⟨rfl, B9.out, G9.out⟩
      · have hcc : ((s[i].toNat : Int) != (b : Int)) = true := by simp; omega
        rw [show (nx s i false == some b) = false by rw [HD.out]; simpa using hc, if_neg (by decide)]
        clear HD
        go_enter Try.func44, Try.ntmps44
        go_upto_region 1 with fail
        go_quiet (fail)
        clear kr fr lr hcc
        go_wp2
        go_ret
        exact ⟨rfl, HW.out _, grown_drewN (World.grownBy.refl _ _) _⟩
    · obtain rfl : i = s.size := by omega
      rw [nx_end (bad := false) hge, show ((none : Option Nat) == some b) = false from rfl, if_neg (by decide)]
      go_enter Try.func44, Try.ntmps44
      go_upto_region 1 with fail
      go_quiet (fail)
      clear kr fr lr
      go_wp2
      go_ret
      exact ⟨rfl, HW.out _, grown_drewN (World.grownBy.refl _ _) _⟩
theorem sp_need (s : ByteArray) (g i b : Nat) (bad : Bool) (w : World) (h : Blk w g 45 #[.string s, .int .i64 (i : Int), .bool bad]) (hi : i ≤ s.size) (hs : s.size ≤ 1000) :
    Calls Try.prog 57 #[.pointer (some ⟨g, 0, none⟩), .int .u8 (b : Int)] w fun e w' => e = .returned (.tuple #[]) ∧ Blk w' g 45 #[.string s, .int .i64 ((ned s i bad b).1 : Int), .bool (ned s i bad b).2] ∧ w.grownBy w' (some g) := by
  have hT := sp_take s g i b bad w h hi hs
  clear h
  by_cases hc : nx s i bad = some b
  · have hn : (nx s i bad == some b) = true := by simpa using hc
    rw [show ned s i bad b = (i + 1, bad) by unfold ned; rw [if_pos hc]]
    rw [hn, if_pos rfl] at hT
    have HT := Lib.hid hT
    clear hT hc hn
    go_enter Try.func57, Try.ntmps57
    go_wp2_with fail
    refine HT.out.mono ?_
    rintro e w1 ⟨rfl, hB, hG⟩
    have B := Lib.hid hB
    have G := Lib.hid hG
    clear hB hG HT
    go_wp2
    exact bodyPost_end (v := .tuple #[]) (by simp [results, Try.results57, go_sem]) rfl ⟨rfl, B.out, G.out⟩
  · have hn : (nx s i bad == some b) = false := by simpa using hc
    rw [show ned s i bad b = (i, true) by unfold ned; rw [if_neg hc]]
    rw [hn, if_neg (by decide)] at hT
    have HT := Lib.hid hT
    clear hT hc hn
    go_enter Try.func57, Try.ntmps57
    go_wp2_with fail
    refine HT.out.mono ?_
    rintro e w1 ⟨rfl, hB, hG⟩
    have kq := hB.cell
    have fq := hB.frozen
    have lq := hB.lt
    have hb9 := hB.set_ 2 (.bool true)
    have hg9 := grown_set hG rfl 2 (.bool true)
    have B := Lib.hid hb9
    have G := Lib.hid hg9
    clear hB hG HT hb9 hg9
    go_wp2
    exact bodyPost_end (v := .tuple #[]) (by simp [results, Try.results57, go_sem]) rfl ⟨rfl, B.out, G.out⟩
theorem im_need (s : ByteArray) (g i b : Nat) (bad : Bool) (w : World) (h : Blk w g 55 #[.string s, .int .i64 (i : Int), .bool bad]) (hi : i ≤ s.size) (hs : s.size ≤ 1000) :
    Calls Try.prog 60 #[.pointer (some ⟨g, 0, none⟩), .int .u8 (b : Int)] w fun e w' => e = .returned (.tuple #[]) ∧ Blk w' g 55 #[.string s, .int .i64 ((ned s i bad b).1 : Int), .bool (ned s i bad b).2] ∧ w.grownBy w' (some g) := by
  have hT := im_take s g i b bad w h hi hs
  clear h
  by_cases hc : nx s i bad = some b
  · have hn : (nx s i bad == some b) = true := by simpa using hc
    rw [show ned s i bad b = (i + 1, bad) by unfold ned; rw [if_pos hc]]
    rw [hn, if_pos rfl] at hT
    have HT := Lib.hid hT
    clear hT hc hn
    go_enter Try.func60, Try.ntmps60
    go_wp2_with fail
    refine HT.out.mono ?_
    rintro e w1 ⟨rfl, hB, hG⟩
    have B := Lib.hid hB
    have G := Lib.hid hG
    clear hB hG HT
    go_wp2
    exact bodyPost_end (v := .tuple #[]) (by simp [results, Try.results60, go_sem]) rfl ⟨rfl, B.out, G.out⟩
  · have hn : (nx s i bad == some b) = false := by simpa using hc
    rw [show ned s i bad b = (i, true) by unfold ned; rw [if_neg hc]]
    rw [hn, if_neg (by decide)] at hT
    have HT := Lib.hid hT
    clear hT hc hn
    go_enter Try.func60, Try.ntmps60
    go_wp2_with fail
    refine HT.out.mono ?_
    rintro e w1 ⟨rfl, hB, hG⟩
    have kq := hB.cell
    have fq := hB.frozen
    have lq := hB.lt
    have hb9 := hB.set_ 2 (.bool true)
    have hg9 := grown_set hG rfl 2 (.bool true)
    have B := Lib.hid hb9
    have G := Lib.hid hg9
    clear hB hG HT hb9 hg9
    go_wp2
    exact bodyPost_end (v := .tuple #[]) (by simp [results, Try.results60, go_sem]) rfl ⟨rfl, B.out, G.out⟩
end Go.Proofs.Ytebpjcbgnagjeaa
