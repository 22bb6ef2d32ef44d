/- Joined of several texts. -/
import Derived.Test.YtaigiopoogbbbaaGreatY43
import Derived.Test.YtaigiopoogbbbaaGreatY39
import Derived.Test.YtaigiopoogbbbaaGreatY22
import Derived.Test.YtaigiopoogbbbaaGreatY05
import Derived.Test.YtaigiopoogbbbaaGreatY06
import Derived.Test.YtaigiopoogbbbaaGreatY09
import Derived.Test.YtaigiopoogbbbaaGreatY12
namespace Go.Proofs.YtaigiopoogbbbaaGreat
/- Contracts of the reference: how two formulas are related; is a formula plain? -/
open Go.RowKit
set_option linter.unusedVariables false
set_option linter.unusedSimpArgs false
theorem fs2_one (h : Hd) (f : Fm) : fs2 [(h, f)] = [f] := rfl
set_option maxRecDepth 100000 in
theorem spec_l23Order (f g : Fm) (v u : Value) (w : World) (hf : gdF1 f) (hg : gdF1 g) (hl : (enc f).length ≤ 20 ∧ (enc g).length ≤ 20) (h : Sl cN w v (enc f)) (h' : Sl cN w u (enc g)) :
    Calls Tryz.prog 16 #[v, u] w fun e w' => e = .returned (.int .i64 (ord3 f g)) ∧ Below w.heap.size w w' := by
  obtain ⟨A, c, rfl⟩ := h.opn
  obtain ⟨B, d, rfl⟩ := h'.opn
  have hsf := sw_small hl.1
  have hsg := sw_small hl.2
  have HFG := Lib.hid hf
  have HGG := Lib.hid hg
  have HM : Hid (swL (fs2 [(⟨A, (enc f).length, c⟩, f)]) + sw g ≤ 190000 ∧ swL (fs2 [(⟨B, (enc g).length, d⟩, g)]) + sw f ≤ 190000) := Lib.hid (by rw [sw1, sw1]; omega)
  have F0 := Lib.hid h
  have G0 := Lib.hid h'
  have HO : Hid (ord3 f g = if vlB [f] g = true then (if vlB [g] f = true then 0 else 1) else (if vlB [g] f = true then 2 else 3)) := Lib.hid rfl
  clear h h' hsf hsg hl hf hg
  go_enter Tryz.func16, Tryz.ntmps16
  go_wp2_with fail
  have hb0 := below_alloc' w (.cells #[.slice A (enc f).length c] 37)
  have M0 := Lib.hid (FsR.one F0.out 37)
  have F1 := Lib.hid (F0.out.below hb0)
  have G1 := Lib.hid (G0.out.below hb0)
  have B1 := Lib.hid hb0
  clear hb0
  generalize World.alloc w _ = w1 at *
  refine (spec_l23Search [(⟨A, (enc f).length, c⟩, f)] g _ _ _ HM.out.1 (gdI_one HFG.out) HGG.out M0.out G1.out).mono ?_
  rintro e w2 ⟨rfl, hb⟩
  have B2 := Lib.hid (bthen B1.out hb)
  have F2 := Lib.hid (F1.out.below hb)
  have G2 := Lib.hid (G1.out.below hb)
  clear hb M0 B1 F1 G1
  rw [fs2_one]
  generalize vlB [f] g = q1 at *
  go_wp2_with fail
  have hb0 := below_alloc' w2 (.cells #[.slice B (enc g).length d] 37)
  have M0 := Lib.hid (FsR.one G2.out 37)
  have F3 := Lib.hid (F2.out.below hb0)
  have B3 := Lib.hid (bthen B2.out hb0)
  clear hb0
  generalize World.alloc w2 _ = w3 at *
  refine (spec_l23Search [(⟨B, (enc g).length, d⟩, g)] f _ _ _ HM.out.2 (gdI_one HGG.out) HFG.out M0.out F3.out).mono ?_
  rintro e w4 ⟨rfl, hb⟩
  have B4 := Lib.hid (bthen B3.out hb)
  clear hb M0 B3 F3
  rw [fs2_one]
  generalize vlB [g] f = q2 at *
  cases q1 <;> cases q2
  all_goals
    go_wp2
    go_ret
    exact ⟨by rw [HO.out]; rfl, B4.out⟩
/- Contracts of both sides: is a formula plain; are all? -/
open Go.RowKit
set_option linter.unusedVariables false
set_option linter.unusedSimpArgs false
set_option maxRecDepth 100000 in
theorem spec_l02Plain (v : Value) (xs : List Nd) (w : World) (h : Sl cN w v xs) (hl : xs.length ≤ 1048576) :
    Calls Tryz.prog 15 #[v] w fun e w' => e = .returned (.bool (pl xs)) ∧ w = w' := by
  obtain ⟨A, c, rfl⟩ := h.opn
  have HS : Hid (∀ j (h : j < xs.length), plN (xs[j]'h) = true → pl xs = false) := Lib.hid fun j hj e => by
    unfold pl; rw [Bool.not_eq_false', List.any_eq_true]; exact ⟨_, List.getElem_mem hj, e⟩
  have HE : Hid ((∀ j (h : j < xs.length), plN (xs[j]'h) = false) → pl xs = true) := Lib.hid fun e => by
    unfold pl; rw [Bool.not_eq_true', List.any_eq_false]
    intro x hx
    obtain ⟨j, hj, rfl⟩ := List.getElem_of_mem hx
    rw [e j hj]; decide
  go_enter Tryz.func15, Tryz.ntmps15
  go_wp2
  go_loop [3] (fun i => ∃ j : Nat, j ≤ xs.length ∧ i = .int .i64 j ∧ ∀ k (hk : k < xs.length), k < j → plN (xs[k]'hk) = false) (fun i => xs.length - (intOf i).toNat)
  case atStart => exact ⟨0, Nat.zero_le _, rfl, fun k hk h => by omega⟩
  case round =>
    obtain ⟨j, hj, rfl, hh⟩ := hrel
    by_cases hlt : j < xs.length
    · obtain ⟨b, o, rfl, hbl, hc0, hc1⟩ := h.atN hlt
      have HH := Lib.hid hh
      have HSj := Lib.hid (HS.out j hlt)
      have hpn : plN (xs[j]'hlt) = ((xs[j]'hlt).1 == 5 || (xs[j]'hlt).1 == 6) := rfl
      have HPn := Lib.hid hpn
      obtain ⟨z, hz⟩ : ∃ z, (xs[j]'hlt).1 = z := ⟨_, rfl⟩
      rw [hz] at hc0 HPn
      clear hh hpn hz hc1
      by_cases h5 : z = 5
      · subst h5
        go_wp2
        go_ret
        exact ⟨by rw [HSj.out (by rw [HPn.out]; rfl)]; rfl, rfl⟩
      · by_cases h6 : z = 6
        · subst h6
          go_wp2
          go_ret
          exact ⟨by rw [HSj.out (by rw [HPn.out]; rfl)]; rfl, rfl⟩
        · have e5 : (z == 5) = false := by rw [beq_eq_false_iff_ne]; exact h5
          have e6 : (z == 6) = false := by rw [beq_eq_false_iff_ne]; exact h6
          have HQ : Hid (plN (xs[j]'hlt) = false) := Lib.hid (by rw [HPn.out, e5, e6]; rfl)
          clear h5 h6
          go_wp2
          go_round
          case rel => exact ⟨j + 1, by omega, by go_num, fun k hk hkj => by
            by_cases e : k = j
            · subst e; exact HQ.out
            · exact HH.out k hk (by omega)⟩
          case measure => simp [intOf]; omega
    · obtain rfl : j = xs.length := by omega
      have HR := Lib.hid (HE.out fun k hk => hh k hk hk)
      clear hh h
      go_wp2
      go_ret
      exact ⟨by rw [HR.out]; rfl, rfl⟩
theorem impl_isModalP (k : Int) (w : World) :
    Calls Tryz.prog 51 #[.int .i64 k] w fun e w' => e = .returned (.bool (k == 5 || k == 6)) ∧ w = w' := by
  by_cases h5 : k = 5
  · subst h5
    go_enter Tryz.func51, Tryz.ntmps51
    go_wp2
    go_ret
    exact ⟨rfl, rfl⟩
  · by_cases h6 : k = 6
    · subst h6
      go_enter Tryz.func51, Tryz.ntmps51
      go_wp2
      go_ret
      exact ⟨rfl, rfl⟩
    · have e5 : (k == 5) = false := by rw [beq_eq_false_iff_ne]; exact h5
      have e6 : (k == 6) = false := by rw [beq_eq_false_iff_ne]; exact h6
      rw [e5, e6]
      go_enter Tryz.func51, Tryz.ntmps51
      go_wp2
      go_ret
      exact ⟨rfl, rfl⟩
theorem en_isPlain_1 : ∀ (args : Array Value) (w : World), (callFunc 50 args).run Tryz.prog w = .ok (.enter 50 args) w := enters Tryz.func50 (by kernel_rfl) (by kernel_rfl)
theorem impl_isPlain_1 (a b : Int) (w : World) :
    Calls Tryz.prog 50 #[.agg #[.int .i64 a, .int .i64 b]] w fun e w' => e = .returned (.bool (plN (a, b))) ∧ Below w.heap.size w w' := by
  have HM := Lib.hid (fun W => impl_isModalP a W)
  go_enter Tryz.func50, Tryz.ntmps50
  go_wp2_with fail
  refine (HM.out _).mono ?_
  rintro e w1 ⟨rfl, rfl⟩
  go_wp2
  go_ret
  exact ⟨rfl, below_alloc' _ _⟩
theorem impl_isPlain (v : Value) (xs : List Nd) (w : World) (h : Sl cN w v xs) (hl : xs.length ≤ 1048576) :
    Calls Tryz.prog 32 #[v] w fun e w' => e = .returned (.bool (pl xs)) ∧ Below w.heap.size w w' := by
  have HC := Lib.hid (slices_ContainsFunc_node v xs 50 #[] plN w h (by omega) en_isPlain_1 (fun w' _ a b => by rw [Array.append_empty]; exact impl_isPlain_1 a b w'))
  clear h
  go_enter Tryz.func32, Tryz.ntmps32
  go_wp2_with fail
  refine HC.out.mono ?_
  rintro e w1 ⟨rfl, hb⟩
  have HB := Lib.hid hb; clear hb
  go_wp2
  go_ret
  exact ⟨rfl, HB.out⟩
theorem en_allPlain_1 : ∀ (args : Array Value) (w : World), (callFunc 31 args).run Tryz.prog w = .ok (.enter 31 args) w := enters Tryz.func31 (by kernel_rfl) (by kernel_rfl)
theorem impl_allPlain_1 (v : Value) (xs : List Nd) (w : World) (h : Sl cN w v xs) (hl : xs.length ≤ 1048576) :
    Calls Tryz.prog 31 #[v] w fun e w' => e = .returned (.bool (!pl xs)) ∧ Below w.heap.size w w' := by
  have HC := Lib.hid (impl_isPlain v xs w h hl)
  clear h
  go_enter Tryz.func31, Tryz.ntmps31
  go_wp2_with fail
  refine HC.out.mono ?_
  rintro e w1 ⟨rfl, hb⟩
  have HB := Lib.hid hb; clear hb
  go_wp2
  go_ret
  exact ⟨rfl, HB.out⟩
theorem impl_allPlain (v : Value) (xss : List (List Nd)) (w : World) (h : Sl2 cN w v xss) (hl : xss.length ≤ 1073741824) (hls : ∀ xs ∈ xss, xs.length ≤ 1048576) :
    Calls Tryz.prog 19 #[v] w fun e w' => e = .returned (.bool (xss.all pl)) ∧ Below w.heap.size w w' := by
  have HI := Lib.hid (fun W (hW : Below w.heap.size w W) => slices_IndexFunc_nodes v xss 31 #[] (fun xs => !pl xs) W (h.below hW) hl en_allPlain_1 (fun w' _ u xs hx hs => by rw [Array.append_empty]; exact impl_allPlain_1 u xs w' hs (hls xs hx)))
  have hc : ∀ W, Below w.heap.size w W → Calls Tryz.prog 20 #[v, .func (.func 31) #[] #[]] W fun e w' => e = .returned (.bool (xss.any fun xs => !pl xs)) ∧ Below W.heap.size W w' := by
    intro W hW
    have HI' := Lib.hid (HI.out W hW)
    go_enter Tryz.func20, Tryz.ntmps20
    go_wp2_with fail
    refine HI'.out.mono ?_
    rintro e w1 ⟨r, rfl, hr, hb⟩
    have HR := Lib.hid hr; clear hr
    have HB := Lib.hid hb; clear hb
    go_wp2
    go_ret
    exact ⟨by rw [← HR.out]; rfl, HB.out⟩
  have HC := Lib.hid (hc w (Below.refl _ _)); clear hc HI h hls
  have HE : Hid ((xss.any fun xs => !pl xs) = !xss.all pl) := Lib.hid (by rw [Bool.eq_iff_iff]; simp)
  rw [HE.out] at HC
  go_enter Tryz.func19, Tryz.ntmps19
  go_wp2_with fail
  refine HC.out.mono ?_
  rintro e w1 ⟨rfl, hb⟩
  have HB := Lib.hid hb; clear hb
  obtain ⟨q, hq⟩ : ∃ q, xss.all pl = q := ⟨_, rfl⟩
  rw [hq]
  have HQ := Lib.hid hq
  clear hq
  cases q
  all_goals
    go_wp2
    go_ret
    exact ⟨by rw [HQ.out]; rfl, HB.out⟩
/- Joined of several texts: 05c, 05d. -/
open Go.RowKit
set_option linter.unusedVariables false
set_option linter.unusedSimpArgs false
/- Contracts of chapters 1, 5 and 6: frames, models, boxes, truth, of the reference. -/
/-- all are masks of n elements -/
def msks (n : Int) (xs : List Int) : Bool := xs.all fun m => inR m 0 (2 ^ n.toNat - 1)
theorem msks_mk {n : Int} (h : 0 ≤ n ∧ n ≤ 8) (xs : List Int) : msks n xs = xs.all fun m => mkOk n m := by
  unfold msks
  congr 1
  funext m
  rw [mkOk_small h]
/- Contracts of chapter 6: models and truth, of the reference. Written by gen05d.py. -/
/-- a frame's arrows and a model's values lie in w -/
structure Mdl (w : World) (va vu : Value) (ns us : List Nat) : Prop where
  a : Sl cI w va (li ns)
  u : Sl cI w vu (li us)
theorem Mdl.below {w w' : World} {va vu : Value} {ns us : List Nat} (h : Mdl w va vu ns us) (hb : Below w.heap.size w w') : Mdl w' va vu ns us := ⟨h.a.below hb, h.u.below hb⟩
theorem full_cast {k : Nat} (h : k ≤ 62) : (2 : Int) ^ k - 1 = ((2 ^ k - 1 : Nat) : Int) := by rw [Int.ofNat_sub (Nat.pow_pos (by decide)), ← cast_two_pow]; rfl
end Go.Proofs.YtaigiopoogbbbaaGreat
