/- Contracts of FixedPointOf, of the program and of the reference. -/
import Derived.Test.YtgcoohlakcncbaaGreat33b
import Derived.Test.YtgcoohlakcncbaaGreat33e
namespace Go.Proofs.YtgcoohlakcncbaaGreat
open Go.RowKit
set_option linter.unusedVariables false
set_option linter.unusedSimpArgs false
theorem bldS_40 {s : Nat} : ∀ {n : Nat} {f d : Fm}, (enc f).length ≤ 40 → bldS s n f = some d → (enc d).length ≤ 40
  | 0, f, d, hl, h => by
    rw [bldS] at h
    obtain rfl := Option.some.inj h; exact hl
  | n + 1, f, d, hl, h => by
    rw [bldS] at h
    split at h
    · obtain rfl := Option.some.inj h; exact hl
    · split at h
      · cases h
      · split at h
        · cases h
        · obtain rfl := Option.some.inj h; omega
/-- the built fixed point -/
def fpB (f : Fm) (s : Nat) : Option Fm := bldS s (outs s f []).length f
theorem fpB_I (f : Fm) (s : Nat) (hg : gd f s = true) (hl : (enc f).length ≤ 40) : bldI s (outs s f []).length f = fpB f s := by
  rw [bld_cap s _ f hg (Nat.le_refl _)]
  unfold fpB
  cases h : bldS s (outs s f []).length f with
  | none => rfl
  | some d => have := bldS_40 hl h; simp only [capO]; rw [if_neg (by omega)]
theorem mz80 (f : Fm) (s : Nat) (hl : (enc f).length ≤ 40) : (enc f).length + (occs s f).length ≤ 80 := by
  have : (occs s f).length ≤ (enc f).length := occs_count s f
  omega
def fpL (r : Option Fm) : List Nd := match r with | none => [] | some d => enc d
def fpC (r : Option Fm) : Int := match r with | none => 3 | some _ => 0
theorem fpL_len (f : Fm) (s : Nat) (hl : (enc f).length ≤ 40) : (fpL (fpB f s)).length ≤ 40 := by
  unfold fpB
  cases h : bldS s (outs s f []).length f with
  | none => exact Nat.zero_le _
  | some d => exact bldS_40 hl h
theorem impl_FixedPointOf_bad (v : Value) (xs : List Nd) (s : Int) (w : World) (h : Sl cN w v xs) (hl : xs.length ≤ 1048576) (hc : vcode xs s ≠ 0) :
    Calls Tryz.prog 28 #[v, .int .i64 s] w fun e w' => e = .returned (.tuple #[.slice none 0 0, .int .i64 (vcode xs s)]) ∧ Below w.heap.size w w' := by
  have H1 := Lib.hid (impl_variableCode v xs s w h hl)
  have hc' : (vcode xs s != 0) = true := by simpa using hc
  generalize vcode xs s = k at *
  clear h hc
  go_enter Tryz.func28, Tryz.ntmps28
  go_wp2_with fail
  refine H1.out.mono ?_
  rintro e w1 ⟨rfl, hb⟩
  have HB := Lib.hid hb; clear hb
  go_wp2
  go_ret2
  exact ⟨rfl, HB.out⟩
theorem impl_FixedPointOf_state (v : Value) (f : Fm) (s : Nat) (w : World) (h : Sl cN w v (enc f)) (hl : (enc f).length ≤ 40) (hok : f.ok = true) (hs : s ≤ 5) (hc : gd f s = false) :
    Calls Tryz.prog 28 #[v, .int .i64 s] w fun e w' => e = .returned (.tuple #[.slice none 0 0, .int .i64 5]) ∧ Below w.heap.size w w' := by
  have hcode := vcode_ok ((isF_iff _).2 ⟨f, hok, rfl, hl⟩) hs
  have H1 := Lib.hid (hcode ▸ impl_variableCode v (enc f) s w h (by omega))
  have H2 := Lib.hid (fun W1 (hb : Below w.heap.size w W1) => hc ▸ impl_isGuarded f s v W1 (h.below hb) (by omega))
  clear h hc hcode
  go_enter Tryz.func28, Tryz.ntmps28
  go_wp2_with fail
  refine H1.out.mono ?_
  rintro e w1 ⟨rfl, hb⟩
  have HB := Lib.hid hb; clear hb
  go_wp2_with fail
  refine (H2.out _ HB.out).mono ?_
  rintro e w2 ⟨rfl, hb⟩
  have HB2 := Lib.hid (bthen HB.out hb); clear hb
  go_wp2
  go_ret2
  exact ⟨rfl, HB2.out⟩
theorem impl_FixedPointOf_ok (v : Value) (f : Fm) (s : Nat) (w : World) (h : Sl cN w v (enc f)) (hl : (enc f).length ≤ 40) (hok : f.ok = true) (hs : s ≤ 5) (hc : gd f s = true) :
    Calls Tryz.prog 28 #[v, .int .i64 s] w fun e w' => ∃ u, e = .returned (.tuple #[u, .int .i64 (fpC (fpB f s))]) ∧ Ow cN 82 w.heap.size w' u (fpL (fpB f s)) ∧ Below w.heap.size w w' := by
  have hcode := vcode_ok ((isF_iff _).2 ⟨f, hok, rfl, hl⟩) hs
  have H1 := Lib.hid (hcode ▸ impl_variableCode v (enc f) s w h (by omega))
  have H2 := Lib.hid (fun W1 (hb : Below w.heap.size w W1) => hc ▸ impl_isGuarded f s v W1 (h.below hb) (by omega))
  have H3 := Lib.hid (fun W1 (hb : Below w.heap.size w W1) => fpB_I f s hc hl ▸ impl_built s hs (outs s f []).length f v W1 (Nat.le_refl _) hc hok (mz80 f s hl) (h.below hb))
  have HL := Lib.hid (fpL_len f s hl)
  clear h hc hcode
  generalize fpB f s = r at *
  go_enter Tryz.func28, Tryz.ntmps28
  go_wp2_with fail
  refine H1.out.mono ?_
  rintro e w1 ⟨rfl, hb⟩
  have HB := Lib.hid hb; clear hb
  go_wp2_with fail
  refine (H2.out _ HB.out).mono ?_
  rintro e w2 ⟨rfl, hb⟩
  have HB2 := Lib.hid (bthen HB.out hb); clear hb
  go_wp2_with fail
  refine (H3.out _ HB2.out).mono ?_
  rintro e w3 ⟨u, b, rfl, ho, hb⟩
  have HB3 := Lib.hid (bthen HB2.out hb); clear hb
  cases r with
  | none =>
    have hbf : b = false := ho
    subst hbf
    clear ho
    go_wp2
    go_ret2
    exact ⟨_, rfl, Ow.nil _ _, HB3.out⟩
  | some d =>
    obtain ⟨hbt, hd⟩ := ho
    subst hbt
    have hl40 : (enc d).length ≤ 40 := HL.out
    have HC := Lib.hid (impl_clone u (enc d) w3 hd (by omega))
    clear hd hl40
    go_wp2_with fail
    refine HC.out.mono ?_
    rintro e w4 ⟨u4, rfl, o4, b4⟩
    have O4 := Lib.hid (o4.mono HB3.out.size)
    have B4 := Lib.hid (bthen HB3.out b4)
    clear o4 b4
    go_wp2
    go_ret2
    exact ⟨_, rfl, O4.out, B4.out⟩
theorem spec_FixedPointOf_bad (v : Value) (xs : List Nd) (s : Int) (w : World) (h : Sl cN w v xs) (hl : xs.length ≤ 1048576) (hc : vcode xs s ≠ 0) :
    Calls Tryz.prog 29 #[v, .int .i64 s] w fun e w' => e = .returned (.tuple #[.slice none 0 0, .int .i64 (vcode xs s)]) ∧ Below w.heap.size w w' := by
  have H1 := Lib.hid (spec_l33Code v xs s w h hl)
  have hc' : (vcode xs s != 0) = true := by simpa using hc
  generalize vcode xs s = k at *
  clear h hc
  go_enter Tryz.func29, Tryz.ntmps29
  go_wp2_with fail
  refine H1.out.mono ?_
  rintro e w1 ⟨rfl, rfl⟩
  go_wp2
  go_ret2
  exact ⟨rfl, Below.refl _ _⟩
theorem spec_FixedPointOf_state (v : Value) (f : Fm) (s : Nat) (w : World) (h : Sl cN w v (enc f)) (hl : (enc f).length ≤ 40) (hok : f.ok = true) (hs : s ≤ 5) (hc : gd f s = false) :
    Calls Tryz.prog 29 #[v, .int .i64 s] w fun e w' => e = .returned (.tuple #[.slice none 0 0, .int .i64 5]) ∧ Below w.heap.size w w' := by
  have hcode := vcode_ok ((isF_iff _).2 ⟨f, hok, rfl, hl⟩) hs
  have H1 := Lib.hid (hcode ▸ spec_l33Code v (enc f) s w h (by omega))
  have H2 := Lib.hid (hc ▸ spec_l03Guarded f s v w h (by omega))
  clear h hc hcode
  go_enter Tryz.func29, Tryz.ntmps29
  go_wp2_with fail
  refine H1.out.mono ?_
  rintro e w1 ⟨rfl, rfl⟩
  go_wp2_with fail
  refine H2.out.mono ?_
  rintro e w1 ⟨rfl, rfl⟩
  go_wp2
  go_ret2
  exact ⟨rfl, Below.refl _ _⟩
theorem spec_FixedPointOf_ok (v : Value) (f : Fm) (s : Nat) (w : World) (h : Sl cN w v (enc f)) (hl : (enc f).length ≤ 40) (hok : f.ok = true) (hs : s ≤ 5) (hc : gd f s = true) :
    Calls Tryz.prog 29 #[v, .int .i64 s] w fun e w' => ∃ u, e = .returned (.tuple #[u, .int .i64 (fpC (fpB f s))]) ∧ Ow cN 82 w.heap.size w' u (fpL (fpB f s)) ∧ Below w.heap.size w w' := by
  have hcode := vcode_ok ((isF_iff _).2 ⟨f, hok, rfl, hl⟩) hs
  have H1 := Lib.hid (hcode ▸ spec_l33Code v (enc f) s w h (by omega))
  have H2 := Lib.hid (hc ▸ spec_l03Guarded f s v w h (by omega))
  have H3 : Hid (Calls Tryz.prog 102 #[v, .int .i64 s] w fun e w' => ∃ u, e = .returned u ∧ SOut w.heap.size w' u (fpB f s) ∧ Below w.heap.size w w') := Lib.hid (spec_built s hs (outs s f []).length f v w (Nat.le_refl _) hok (mz80 f s hl) h)
  have HL := Lib.hid (fpL_len f s hl)
  clear h hc hcode
  generalize fpB f s = r at *
  go_enter Tryz.func29, Tryz.ntmps29
  go_wp2_with fail
  refine H1.out.mono ?_
  rintro e w1 ⟨rfl, rfl⟩
  go_wp2_with fail
  refine H2.out.mono ?_
  rintro e w1 ⟨rfl, rfl⟩
  go_wp2_with fail
  refine H3.out.mono ?_
  rintro e w3 ⟨u, rfl, ho, hb⟩
  have HB3 := Lib.hid hb; clear hb
  cases r with
  | none =>
    have hu : u = .slice none 0 0 := ho
    subst hu
    clear ho
    go_wp2
    go_ret2
    exact ⟨_, rfl, Ow.nil _ _, HB3.out⟩
  | some d =>
    have hd : Ow cN 82 w.heap.size w3 u (enc d) := ho
    have O4 := Lib.hid hd
    obtain ⟨A, c, rfl⟩ := hd.opn
    have hp := enc_pos d
    have hl2 : (((enc d).length : Int) == 0) = false := by rw [beq_eq_false_iff_ne]; omega
    have HE : Hid (fpL (some d) = enc d) := Lib.hid rfl
    clear ho hd
    generalize (enc d).length = L at *
    go_wp2
    go_ret2
    exact ⟨_, rfl, O4.out, HB3.out⟩
end Go.Proofs.YtgcoohlakcncbaaGreat
