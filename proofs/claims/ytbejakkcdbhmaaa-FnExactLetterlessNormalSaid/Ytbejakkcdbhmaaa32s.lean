/- Contracts of chapter 32: the ranks at which a letterless formula is true, of the reference (a row). -/
import Derived.Test.Ytbejakkcdbhmaaa32r
import Derived.Test.YtbejakkcdbhmaaaLU
import Derived.Deep.RegionHeld3
namespace Go.Proofs.Ytbejakkcdbhmaaa
open Go.RowKit
set_option linter.unusedVariables false
set_option linter.unusedSimpArgs false
/-- a formula without variables -/
def Fm.novar : Fm → Bool
  | .var _ => false
  | .fls => true
  | .bin _ a b => a.novar && b.novar
  | .un _ a => a.novar
def row (f : Fm) : List Bool := (List.range 61).map (rk f 0)
theorem row_length (f : Fm) : (row f).length = 61 := by simp [row]
theorem row_get (f : Fm) (j : Nat) (h : j < (row f).length) : (row f)[j] = rk f 0 j := by simp [row]
/-- one more of a row that is being filled -/
theorem set_map_replicate {α : Type} (p : Nat → α) (z : α) (n j : Nat) (h : j < n) : ((List.range j).map p ++ List.replicate (n - j) z).set j (p j) = (List.range (j + 1)).map p ++ List.replicate (n - (j + 1)) z := by
  rw [List.set_append, if_neg (by simp)]
  obtain ⟨m, hm⟩ : ∃ m, n - j = m + 1 := ⟨n - j - 1, by omega⟩
  rw [hm, show n - (j + 1) = m from by omega, List.replicate_succ]
  simp [List.range_succ]
theorem ty_bool : Ty Try.prog 128 4 (.bool false) 1 1 := Ty.mk' Try.underlying128 (by kernel_rfl) rfl (by decide)
theorem Sl.atB {w : World} {A : Option Addr} {n c : Nat} {xs : List Bool} (h : Sl cB w (.slice A n c) xs) {k : Nat} (hk : k < xs.length) :
    ∃ b o, A = some ⟨b, o, none⟩ ∧ b < w.heap.size ∧ w.cell? ⟨b, o + k, none⟩ = some (.bool xs[k]) := by
  obtain ⟨b, o, hA, hb, hc⟩ := h.cell hk
  have := hc 0 (.bool xs[k]) rfl
  exact ⟨b, o, hA, hb, by simpa [cB] using this⟩
set_option maxRecDepth 100000 in
theorem spec_l32Row_box (a : Fm) (ih : ∀ (v : Value) (w : World), Sl cN w v (enc a) → Calls Try.prog 122 #[v] w fun e w' => ∃ u, e = .returned u ∧ Ow cB 4 w.heap.size w' u (row a) ∧ Below w.heap.size w w')
    (v : Value) (w : World) (h : Sl cN w v (enc (.un .box a))) (hl : (enc (.un .box a)).length ≤ 1048576) :
    Calls Try.prog 122 #[v] w fun e w' => ∃ u, e = .returned u ∧ Ow cB 4 w.heap.size w' u (row (.un .box a)) ∧ Below w.heap.size w w' := by
  rw [enc_un] at h hl
  obtain ⟨A, c, rfl⟩ := h.opn
  obtain ⟨-, hcap, hm⟩ := h.cap
  obtain ⟨b, o, rfl, hb, hc0, hc1⟩ := h.atN0
  simp only [UK.i] at hc0
  have hL0 : 1 < ((UK.box.i, (0 : Int)) :: (enc a ++ [])).length := by have := enc_pos a; simp; omega
  have hcut := h.cutAt (A' := some ⟨b, o + 2, none⟩) (n' := ((UK.box.i, (0 : Int)) :: (enc a ++ [])).length - 1) (i := 1) (j := ((UK.box.i, (0 : Int)) :: (enc a ++ [])).length) (c' := c - 1) (by omega) (by omega) rfl
    (fun b' o' hA => by injection hA with hA; injection hA with h1 h2 _; subst h1; subst h2; rfl) (by omega) (by omega)
  have e1 : List.take (((UK.box.i, (0 : Int)) :: (enc a ++ [])).length - 1) (List.drop 1 ((UK.box.i, (0 : Int)) :: (enc a ++ []))) = enc a := by simp
  rw [e1] at hcut
  clear e1 h
  generalize ((UK.box.i, (0 : Int)) :: (enc a ++ [])).length = L at *
  have HIH := Lib.hid ih; clear ih
  go_enter Try.func122, Try.ntmps122
  go_wp2_with (at_make; refine stopHere ?_)
  refine goHere ?_
  refine mk_full (K := cB) w ty_bool rfl _ _ rfl w.heap.size 61 false rfl rfl rfl (by omega) (Nat.le_refl _) ?_
  intro w1 ho1 hg1 hb1 hsz1
  have hd0 : w1.cell? ⟨b, o, none⟩ = some (.int .i64 5) := (hb1.cell (p := ⟨b, o, none⟩) hb).trans hc0
  have hcut1 := hcut.below hb1
  have hbl : b < w1.heap.size := by omega
  have i1 : (1 : Int) ≤ (L : Int) := by omega
  have i2 : (0 : Int) < (L : Int) := by omega
  have i3 : 0 < L := by omega
  have i4 : ¬ c = 1 := by omega
  go_wp2
  go_region_held3 (fun w' => w'.cell? ⟨b, o, none⟩ = some (.int .i64 5)) (first | exact hd0 | (simp [*]; done)) (first | (go_at_call 122; refine (HIH.out _ _ (hcut1.below (below_drewN (Below.refl _ _) 1))).mono ?_; rintro e w2 ⟨u, rfl, ho2, hb2⟩; have hd2 : w2.cell? ⟨b, o, none⟩ = some (.int .i64 5) := (hb2.cell (p := ⟨b, o, none⟩) hbl).trans hd0))
  have ho3 : Ow cB 4 w1.heap.size w2 u (row a) := ho2
  have hb3 : Below w1.heap.size w1 w2 := (below_drewN (Below.refl _ _) 1).trans hb2
  have ho1' := ho1.below hb3
  have hB2 : Below w.heap.size w w2 := bthen hb1 hb3
  obtain ⟨A2, c2, rfl⟩ := ho3.opn
  clear hd0 hd2 hcut1 hcut hc0 hc1 ho2 hb2 ho1 hg1 hb1 hb3 i1 i2 i3 i4 HIH
  rw [row_length] at ho3 ⊢
  go_wp2
  go_loopw [6, 7] (fun q i wr => ∃ j : Nat, j ≤ 61 ∧ i = .int .i64 j ∧ q = .bool ((List.range j).all (rk a 0)) ∧ Ow cB 4 w.heap.size wr (.slice (some ⟨w.heap.size, 0, none⟩) 61 61) ((List.range j).map (rk (.un .box a) 0) ++ List.replicate (61 - j) false) ∧ Ow cB 4 w1.heap.size wr (.slice A2 61 c2) (row a) ∧ Below w.heap.size w wr) (fun _ i _ => 61 - (intOf i).toNat)
  case atStart => exact ⟨0, by omega, rfl, rfl, ho1', ho3, hB2⟩
  case round =>
    obtain ⟨j, hj, rfl, rfl, ho, hi, hb⟩ := hrel
    by_cases hlt : j < 61
    · obtain ⟨g2, rfl, hg2, hg2'⟩ := hi.head (by rw [row_length]; omega)
      obtain ⟨hx, -, -, -⟩ := hi.at1 rfl (j := j) (by rw [row_length]; exact hlt) rfl
      rw [row_get] at hx
      obtain ⟨hc1, hf1, -, hg1'⟩ := ho.at1 rfl (j := j) (by simp; omega) rfl
      obtain ⟨old, hc1⟩ : ∃ old, wr.cell? ⟨w.heap.size, j, none⟩ = some old := ⟨_, hc1⟩
      have hset := ho.set1 (j := j) (x := rk (.un .box a) 0 j) (u := .bool ((List.range j).all (rk a 0))) rfl rfl (by simp; omega)
      rw [set_map_replicate _ _ _ _ hlt] at hset
      have hi2 := hi.setBelow (p := ⟨w.heap.size, j, none⟩) hsz1 (.bool ((List.range j).all (rk a 0)))
      have hne : ¬ g2 = w.heap.size := by omega
      have HS := Lib.hid hset
      have HI := Lib.hid hi2
      have HB := Lib.hid (hb.setCell (p := ⟨w.heap.size, j, none⟩) (Nat.le_refl _) (.bool ((List.range j).all (rk a 0))))
      have HA : Hid ((List.range (j + 1)).all (rk a 0) = ((List.range j).all (rk a 0) && rk a 0 j)) := by
        show _ = _
        rw [List.range_succ, List.all_append]; simp
      clear ho hi hb hset hi2
      generalize hq : (List.range j).all (rk a 0) = q at *
      have HQ := Lib.hid hq; clear hq
      by_cases hr : rk a 0 j = true
      · rw [hr] at hx HA
        clear hr
        go_wp2
        go_roundw
        case rel => exact ⟨j + 1, by omega, by go_num, by rw [HA.out, Bool.and_true], HS.out, HI.out, HB.out⟩
        case measure => simp [intOf]; omega
      · rw [Bool.not_eq_true] at hr
        rw [hr] at hx HA
        clear hr
        go_wp2
        go_roundw
        case rel => exact ⟨j + 1, by omega, by go_num, by rw [HA.out, Bool.and_false], HS.out, HI.out, HB.out⟩
        case measure => simp [intOf]; omega
    · obtain rfl : j = 61 := by omega
      rw [Nat.sub_self, List.replicate_zero, List.append_nil] at ho
      have HO : Hid (Ow cB 4 w.heap.size wr (.slice (some ⟨w.heap.size, 0, none⟩) 61 61) (row (.un .box a))) := ho
      have HB := Lib.hid hb
      clear ho hb hi
      go_wp2
      go_ret
      exact ⟨_, rfl, HO.out, HB.out⟩
set_option maxRecDepth 100000 in
theorem spec_l32Row_dia (a : Fm) (ih : ∀ (v : Value) (w : World), Sl cN w v (enc a) → Calls Try.prog 122 #[v] w fun e w' => ∃ u, e = .returned u ∧ Ow cB 4 w.heap.size w' u (row a) ∧ Below w.heap.size w w')
    (v : Value) (w : World) (h : Sl cN w v (enc (.un .dia a))) (hl : (enc (.un .dia a)).length ≤ 1048576) :
    Calls Try.prog 122 #[v] w fun e w' => ∃ u, e = .returned u ∧ Ow cB 4 w.heap.size w' u (row (.un .dia a)) ∧ Below w.heap.size w w' := by
  rw [enc_un] at h hl
  obtain ⟨A, c, rfl⟩ := h.opn
  obtain ⟨-, hcap, hm⟩ := h.cap
  obtain ⟨b, o, rfl, hb, hc0, hc1⟩ := h.atN0
  simp only [UK.i] at hc0
  have hL0 : 1 < ((UK.dia.i, (0 : Int)) :: (enc a ++ [])).length := by have := enc_pos a; simp; omega
  have hcut := h.cutAt (A' := some ⟨b, o + 2, none⟩) (n' := ((UK.dia.i, (0 : Int)) :: (enc a ++ [])).length - 1) (i := 1) (j := ((UK.dia.i, (0 : Int)) :: (enc a ++ [])).length) (c' := c - 1) (by omega) (by omega) rfl
    (fun b' o' hA => by injection hA with hA; injection hA with h1 h2 _; subst h1; subst h2; rfl) (by omega) (by omega)
  have e1 : List.take (((UK.dia.i, (0 : Int)) :: (enc a ++ [])).length - 1) (List.drop 1 ((UK.dia.i, (0 : Int)) :: (enc a ++ []))) = enc a := by simp
  rw [e1] at hcut
  clear e1 h
  generalize ((UK.dia.i, (0 : Int)) :: (enc a ++ [])).length = L at *
  have HIH := Lib.hid ih; clear ih
  go_enter Try.func122, Try.ntmps122
  go_wp2_with (at_make; refine stopHere ?_)
  refine goHere ?_
  refine mk_full (K := cB) w ty_bool rfl _ _ rfl w.heap.size 61 false rfl rfl rfl (by omega) (Nat.le_refl _) ?_
  intro w1 ho1 hg1 hb1 hsz1
  have hd0 : w1.cell? ⟨b, o, none⟩ = some (.int .i64 6) := (hb1.cell (p := ⟨b, o, none⟩) hb).trans hc0
  have hcut1 := hcut.below hb1
  have hbl : b < w1.heap.size := by omega
  have i1 : (1 : Int) ≤ (L : Int) := by omega
  have i2 : (0 : Int) < (L : Int) := by omega
  have i3 : 0 < L := by omega
  have i4 : ¬ c = 1 := by omega
  go_wp2
  go_region_held3 (fun w' => w'.cell? ⟨b, o, none⟩ = some (.int .i64 6)) (first | exact hd0 | (simp [*]; done)) (first | (go_at_call 122; refine (HIH.out _ _ (hcut1.below (below_drewN (Below.refl _ _) 1))).mono ?_; rintro e w2 ⟨u, rfl, ho2, hb2⟩; have hd2 : w2.cell? ⟨b, o, none⟩ = some (.int .i64 6) := (hb2.cell (p := ⟨b, o, none⟩) hbl).trans hd0))
  have ho3 : Ow cB 4 w1.heap.size w2 u (row a) := ho2
  have hb3 : Below w1.heap.size w1 w2 := (below_drewN (Below.refl _ _) 1).trans hb2
  have ho1' := ho1.below hb3
  have hB2 : Below w.heap.size w w2 := bthen hb1 hb3
  obtain ⟨A2, c2, rfl⟩ := ho3.opn
  clear hd0 hd2 hcut1 hcut hc0 hc1 ho2 hb2 ho1 hg1 hb1 hb3 i1 i2 i3 i4 HIH
  rw [row_length] at ho3 ⊢
  go_wp2
  go_loopw [6, 7] (fun q i wr => ∃ j : Nat, j ≤ 61 ∧ i = .int .i64 j ∧ q = .bool ((List.range j).any (rk a 0)) ∧ Ow cB 4 w.heap.size wr (.slice (some ⟨w.heap.size, 0, none⟩) 61 61) ((List.range j).map (rk (.un .dia a) 0) ++ List.replicate (61 - j) false) ∧ Ow cB 4 w1.heap.size wr (.slice A2 61 c2) (row a) ∧ Below w.heap.size w wr) (fun _ i _ => 61 - (intOf i).toNat)
  case atStart => exact ⟨0, by omega, rfl, rfl, ho1', ho3, hB2⟩
  case round =>
    obtain ⟨j, hj, rfl, rfl, ho, hi, hb⟩ := hrel
    by_cases hlt : j < 61
    · obtain ⟨g2, rfl, hg2, hg2'⟩ := hi.head (by rw [row_length]; omega)
      obtain ⟨hx, -, -, -⟩ := hi.at1 rfl (j := j) (by rw [row_length]; exact hlt) rfl
      rw [row_get] at hx
      obtain ⟨hc1, hf1, -, hg1'⟩ := ho.at1 rfl (j := j) (by simp; omega) rfl
      obtain ⟨old, hc1⟩ : ∃ old, wr.cell? ⟨w.heap.size, j, none⟩ = some old := ⟨_, hc1⟩
      have hset := ho.set1 (j := j) (x := rk (.un .dia a) 0 j) (u := .bool ((List.range j).any (rk a 0))) rfl rfl (by simp; omega)
      rw [set_map_replicate _ _ _ _ hlt] at hset
      have hi2 := hi.setBelow (p := ⟨w.heap.size, j, none⟩) hsz1 (.bool ((List.range j).any (rk a 0)))
      have hne : ¬ g2 = w.heap.size := by omega
      have HS := Lib.hid hset
      have HI := Lib.hid hi2
      have HB := Lib.hid (hb.setCell (p := ⟨w.heap.size, j, none⟩) (Nat.le_refl _) (.bool ((List.range j).any (rk a 0))))
      have HA : Hid ((List.range (j + 1)).any (rk a 0) = ((List.range j).any (rk a 0) || rk a 0 j)) := by
        show _ = _
        rw [List.range_succ, List.any_append]; simp
      clear ho hi hb hset hi2
      generalize hq : (List.range j).any (rk a 0) = q at *
      have HQ := Lib.hid hq; clear hq
      by_cases hr : rk a 0 j = true
      · rw [hr] at hx HA
        clear hr
        go_wp2
        go_roundw
        case rel => exact ⟨j + 1, by omega, by go_num, by rw [HA.out, Bool.or_true], HS.out, HI.out, HB.out⟩
        case measure => simp [intOf]; omega
      · rw [Bool.not_eq_true] at hr
        rw [hr] at hx HA
        clear hr
        go_wp2
        go_roundw
        case rel => exact ⟨j + 1, by omega, by go_num, by rw [HA.out, Bool.or_false], HS.out, HI.out, HB.out⟩
        case measure => simp [intOf]; omega
    · obtain rfl : j = 61 := by omega
      rw [Nat.sub_self, List.replicate_zero, List.append_nil] at ho
      have HO : Hid (Ow cB 4 w.heap.size wr (.slice (some ⟨w.heap.size, 0, none⟩) 61 61) (row (.un .dia a))) := ho
      have HB := Lib.hid hb
      clear ho hb hi
      go_wp2
      go_ret
      exact ⟨_, rfl, HO.out, HB.out⟩
set_option maxRecDepth 100000 in
theorem spec_l32Row_fls (v : Value) (w : World) (h : Sl cN w v (enc .fls)) :
    Calls Try.prog 122 #[v] w fun e w' => ∃ u, e = .returned u ∧ Ow cB 4 w.heap.size w' u (row .fls) ∧ Below w.heap.size w w' := by
  obtain ⟨A, c, rfl⟩ := h.opn
  obtain ⟨b, o, rfl, hb, hc0, hc1⟩ := h.atN0
  simp only [enc, List.length_cons, List.length_nil]
  go_enter Try.func122, Try.ntmps122
  go_wp2_with (at_make; refine stopHere ?_)
  refine goHere ?_
  refine mk_full (K := cB) w ty_bool rfl _ _ rfl w.heap.size 61 false rfl rfl rfl (by omega) (Nat.le_refl _) ?_
  intro w1 ho1 hg1 hb1 hsz1
  have hd0 : w1.cell? ⟨b, o, none⟩ = some (.int .i64 1) := (hb1.cell (p := ⟨b, o, none⟩) hb).trans hc0
  have HO : Hid (Ow cB 4 w.heap.size w1 (.slice (some ⟨w.heap.size, 0, none⟩) 61 61) (row .fls)) := ho1
  have HB := Lib.hid hb1
  clear ho1 hb1 h hc0 hc1
  go_wp2
  go_ret
  exact ⟨_, rfl, HO.out, HB.out⟩
end Go.Proofs.Ytbejakkcdbhmaaa
