/- Contracts of chapter 14, of the program: decimal at a digit, truthIn, part. -/
import Derived.Test.YtboldkahppdmbaaGreatDoorEA
import Derived.Test.YtboldkahppdmbaaGreatDoor06t
import Derived.Test.YtboldkahppdmbaaGreatDoorJ05
namespace Go.Proofs.YtboldkahppdmbaaGreatDoor
open Go.RowKit
set_option linter.unusedVariables false
set_option linter.unusedSimpArgs false
theorem dg_false : dg false = ⟨#[48]⟩ := rfl
theorem dg_true : dg true = ⟨#[49]⟩ := rfl
theorem strconv_small (b : Bool) (w : World) : Calls Tryz.prog 152 #[.int .i64 (if b then 1 else 0)] w fun e w' => e = .returned (.string (dg b)) ∧ w = w' := by
  cases b
  · rw [if_neg (by decide)]
    go_enter Tryz.func152, Tryz.ntmps152
    go_wp2
    go_ret
    exact ⟨rfl, rfl⟩
  · rw [if_pos rfl]
    go_enter Tryz.func152, Tryz.ntmps152
    go_wp2
    go_ret
    exact ⟨rfl, rfl⟩
theorem strconv_FormatInt_in (b : Bool) (w : World) : Calls Tryz.prog 123 #[.int .i64 (if b then 1 else 0), .int .i64 10] w fun e w' => e = .returned (.string (dg b)) ∧ w = w' := by
  have HS := Lib.hid (strconv_small b w)
  cases b
  · rw [if_neg (by decide)] at HS ⊢
    go_enter Tryz.func123, Tryz.ntmps123
    go_wp2_with fail
    refine HS.out.mono ?_
    rintro e w1 ⟨rfl, rfl⟩
    go_wp2
    go_ret
    exact ⟨rfl, rfl⟩
  · rw [if_pos rfl] at HS ⊢
    go_enter Tryz.func123, Tryz.ntmps123
    go_wp2_with fail
    refine HS.out.mono ?_
    rintro e w1 ⟨rfl, rfl⟩
    go_wp2
    go_ret
    exact ⟨rfl, rfl⟩
theorem strconv_FormatInt (b : Bool) (w : World) : Calls Tryz.prog 99 #[.int .i64 (if b then 1 else 0), .int .i64 10] w fun e w' => e = .returned (.string (dg b)) ∧ w = w' := by
  have HS := Lib.hid (strconv_FormatInt_in b w)
  generalize (if b then 1 else 0 : Int) = n at *
  go_enter Tryz.func99, Tryz.ntmps99
  go_wp2_with fail
  refine HS.out.mono ?_
  rintro e w1 ⟨rfl, rfl⟩
  go_wp2
  go_ret
  exact ⟨rfl, rfl⟩
theorem impl_decimal (b : Bool) (w : World) : Calls Tryz.prog 56 #[.int .i64 (if b then 1 else 0)] w fun e w' => e = .returned (.string (dg b)) ∧ w = w' := by
  have HS := Lib.hid (strconv_FormatInt b w)
  generalize (if b then 1 else 0 : Int) = n at *
  go_enter Tryz.func56, Tryz.ntmps56
  go_wp2_with fail
  refine HS.out.mono ?_
  rintro e w1 ⟨rfl, rfl⟩
  go_wp2
  go_ret
  exact ⟨rfl, rfl⟩
theorem impl_truthIn (ns us : List Nat) (f : Fm) (A0 A1 : Option Addr) (c0 c1 : Nat) (v : Value) (w : World) (hm : Mdl w (.slice A0 ns.length c0) (.slice A1 6 c1) ns us) (h1 : MdN ns us) (h : Sl cN w v (enc f)) (hok : f.ok = true) (hl : (enc f).length ≤ 1048576) :
    Calls Tryz.prog 41 #[.agg #[.int .i64 ns.length, .slice A0 ns.length c0, .slice A1 6 c1], v] w fun e w' => e = .returned (.int .i64 (tv ns us f : Nat)) ∧ Below w.heap.size w w' := by
  have hb0 := below_alloc' w (.cells #[.int .i64 ns.length, .slice A0 ns.length c0, .slice A1 6 c1] 28)
  have hk0 := Blk.new w 28 #[.int .i64 ns.length, .slice A0 ns.length c0, .slice A1 6 c1]
  have HB := Lib.hid hb0
  have HK0 := Lib.hid hk0
  have HT := Lib.hid (fun W (hW : Below w.heap.size w W) => impl_truthSet ns us f _ _ v W (hm.a.below hW) (hm.u.below hW) (h.below hW) h1.r h1.l h1.b hok hl)
  clear hb0 hk0 hm h1 h
  go_enter Tryz.func41, Tryz.ntmps41
  go_upto_region 1 with fail
  generalize World.alloc w _ = W at *
  have k0 := HK0.out.cell
  have l0 := HK0.out.lt
  go_wp2_with fail
  refine (HT.out _ HB.out).mono ?_
  rintro e w1 ⟨rfl, hb⟩
  have HB1 := Lib.hid (bthen HB.out hb)
  clear k0 hb
  go_wp2
  go_ret
  exact ⟨rfl, HB1.out⟩
theorem impl_partG (v : Value) (xs : List Nd) (i j : Nat) (w : World) (h : Sl cN w v xs) (hl : xs.length ≤ 1048576) (hi : i < j) (hj : j ≤ xs.length) (hp : pe (xs.drop i) 1 i = j) :
    Calls Tryz.prog 55 #[v, .int .i64 i] w fun e w' => ∃ u, e = .returned u ∧ (∀ W0, Sl cN W0 v xs → Sl cN W0 u ((xs.drop i).take (j - i))) ∧ w = w' := by
  obtain ⟨A, c, rfl⟩ := h.opn
  obtain ⟨-, hc, hm⟩ := h.cap
  have HP := Lib.hid hp; clear hp
  have HC := Lib.hid (fun W0 (h0 : Sl cN W0 (.slice A xs.length c) xs) => h0.cut (i := i) (j := j) (c' := j - i) (by omega) hj (Nat.le_refl _) (by omega))
  go_enter Tryz.func55, Tryz.ntmps55
  go_wp2_with fail
  refine (impl_partEnd _ xs i _ h (by omega) (by omega)).mono ?_
  rintro e w1 ⟨rfl, rfl⟩
  rw [HP.out]
  go_wp2_with fail
  refine (impl_partEnd _ xs i _ h (by omega) (by omega)).mono ?_
  rintro e w1 ⟨rfl, rfl⟩
  rw [HP.out]
  have hji : ¬ j = i := by omega
  go_wp2
  go_ret
  exact ⟨_, rfl, HC.out, rfl⟩
theorem impl_part_at (v : Value) (f : Fm) (i : Nat) (w : World) (h : Sl cN w v (enc f)) (hl : (enc f).length ≤ 1048576) (hi : i < (enc f).length) :
    Calls Tryz.prog 55 #[v, .int .i64 i] w fun e w' => ∃ u, e = .returned u ∧ (∀ W0, Sl cN W0 v (enc f) → Sl cN W0 u (enc (pt f i))) ∧ w = w' := by
  obtain ⟨rest, hd⟩ := pt_drop f i hi
  have hlen := congrArg List.length hd
  rw [List.length_drop, List.length_append] at hlen
  have hp := enc_pos (pt f i)
  have hpe : pe ((enc f).drop i) 1 i = ((i + (enc (pt f i)).length : Nat) : Int) := by
    rw [hd, pe_enc1]; omega
  have := impl_partG v (enc f) i (i + (enc (pt f i)).length) w h hl (by omega) (by omega) hpe
  rw [hd, Nat.add_sub_cancel_left, List.take_left] at this
  exact this
end Go.Proofs.YtboldkahppdmbaaGreatDoor
