/- The mark of a Model whose two lists lie in memory of their own, in either order. -/
import Derived.Test.YtgdmfihnbbgcoaaGreatDoorLB
namespace Go.Proofs.YtgdmfihnbbgcoaaGreatDoor
open Go.RowKit
set_option linter.unusedVariables false
set_option linter.unusedSimpArgs false
section
variable {α : Type} {K : Cod α} {e : TypeId} {B H : Nat} {w : World} {v : Value} {xs : List α}
theorem Ow.raise' {B' : Nat} (h : Ow K e B w v xs) (hk : ∀ k, v.ownBlock = some k → B' ≤ k) : Ow K e B' w v xs := by
  obtain ⟨hv, h1, h2⟩ := h
  refine ⟨hv, h1, ?_⟩
  rcases h2 with h2 | ⟨g, cap, cur, hg, hB, hr⟩
  · exact .inl h2
  · exact .inr ⟨g, cap, cur, hg, hk g (by rw [hg]; rfl), hr⟩
theorem Ob.tight (h : Ob K e B H w v xs) (hBH : B ≤ H) : ∃ b c, B ≤ b ∧ b ≤ c ∧ c ≤ H ∧ Ob K e b c w v xs ∧ (b = c ∧ b = B ∨ v.ownBlock = some b ∧ c = b + 1) := by
  cases hv : v.ownBlock with
  | none => exact ⟨B, B, Nat.le_refl _, Nat.le_refl _, hBH, ⟨h.1, fun k hk => by rw [hv] at hk; cases hk⟩, .inl ⟨rfl, rfl⟩⟩
  | some k =>
    have h1 := (h.1.block k hv).1
    have h2 := h.2 k hv
    exact ⟨k, k + 1, h1, by omega, by omega, ⟨h.1.raise' fun j hj => (by rw [hv] at hj; injection hj; omega), fun j hj => by rw [hv] at hj; injection hj; omega⟩, .inr ⟨rfl, rfl⟩⟩
theorem Ob.wide {H' : Nat} (h : Ob K e B H w v xs) (hH : H ≤ H') : Ob K e B H' w v xs := ⟨h.1, fun k hk => Nat.lt_of_lt_of_le (h.2 k hk) hH⟩
theorem Ob.lower {B' : Nat} (h : Ob K e B H w v xs) (hB : B' ≤ B) : Ob K e B' H w v xs := ⟨h.1.mono hB, h.2⟩
end
theorem m_mark_Model_rev (b : Int) (v v' : Value) (xs ys : List Int) (k : Int) (B H H' : Nat) (w : World) (h : Ob cI 2 H H' w v xs) (h' : Ob cI 2 B H w v' ys) (hBH : B ≤ H) (hHH : H ≤ H') (hw : H' ≤ w.heap.size) (hl : xs.length ≤ 268435456) (hl' : ys.length ≤ 268435456) (hk : 0 ≤ k ∧ k ≤ 268435456) :
    Calls Tryz.prog 17 #[.agg #[.int .i64 b, v, v'], .int .i64 k] w fun e w' => e = .returned (.int .i64 (k + xs.length + ys.length)) ∧ Ob cI 2 H H' w' v (numL xs.length k) ∧ Ob cI 2 B H w' v' (numL ys.length (k + xs.length)) ∧ Keep B H' w w' := by
  have hb0 := below_alloc' w (.cells #[.int .i64 b, v, v'] 33)
  have hk0 := Blk.new w 33 #[.int .i64 b, v, v']
  have HK0 := Lib.hid hk0
  have HA := Lib.hid (h.below hb0)
  have HA' := Lib.hid (h'.below hb0)
  have HB := Lib.hid (Keep.of_below (B := B) (H := H') hb0)
  clear h h' hb0 hk0
  go_enter Tryz.func17, Tryz.ntmps17
  go_upto_region 1 with fail
  generalize World.alloc w _ = W at *
  have k0 := HK0.out.cell
  have l0 := HK0.out.lt
  go_wp2_with fail
  refine (u_mark_Frame b v xs k H H' _ HA.out (by omega) hk).mono ?_
  rintro e w1 ⟨rfl, ho, hkp⟩
  have hk1 : Blk w1 w.heap.size 33 #[.int .i64 b, v, v'] := (hkp.block _ l0 (.inr (by omega))).trans HK0.out
  have k1 := hk1.cell
  have m0 := hk1.lt
  have HO := Lib.hid ho
  have HA1 := Lib.hid (HA'.out.keep hkp (.inl (Nat.le_refl _)))
  have HB1 := Lib.hid (HB.out.trans (hkp.mono hBH (Nat.le_refl _)))
  clear k0 ho hkp hk1
  go_wp2_with fail
  refine (mark_int64S v' ys (k + xs.length) B _ HA1.out.1 (by omega) (by omega)).mono ?_
  rintro e w2 ⟨rfl, ho2, hg⟩
  have hkp2 : Keep B H w1 w2 := Keep.of_grown hg fun g hk => ⟨(HA1.out.1.block g hk).1, HA1.out.2 g hk⟩
  have HO2 := Lib.hid (HO.out.keep hkp2 (.inr (Nat.le_refl _)))
  have HP2 := Lib.hid (HA1.out.inv ho2)
  have HB2 := Lib.hid (HB1.out.trans (hkp2.mono (Nat.le_refl _) hHH))
  clear k1 ho2 hg hkp2
  go_wp2
  go_ret
  exact ⟨rfl, HO2.out, HP2.out, HB2.out⟩
theorem u_mark_Model2 (b : Int) (v : Value) (xs : List Int) (v' : Value) (ys : List Int) (k : Int) (B H : Nat) (w : World) (h : Ob cI 2 B H w v xs) (h' : Ob cI 2 B H w v' ys) (dj : ∀ k, v'.ownBlock = some k → v.ownBlock ≠ some k) (hs : B ≤ H ∧ H ≤ w.heap.size) (hl : xs.length + ys.length ≤ 268435456) (hk : 0 ≤ k ∧ k ≤ 268435456) :
    Calls Tryz.prog 17 #[.agg #[.int .i64 b, v, v'], .int .i64 k] w fun e w' => e = .returned (.int .i64 (k + xs.length + ys.length)) ∧ Ob cI 2 B H w' v (numL xs.length k) ∧ Ob cI 2 B H w' v' (numL ys.length (k + xs.length)) ∧ Keep B H w w' := by
  obtain ⟨b1, c1, e1, e2, e3, t1, d1⟩ := h.tight hs.1
  obtain ⟨b2, c2, f1, f2, f3, t2, d2⟩ := h'.tight hs.1
  have hor : c1 ≤ b2 ∨ c2 ≤ b1 := by
    rcases d1 with d1 | ⟨d1, d1'⟩
    · omega
    · rcases d2 with d2 | ⟨d2, d2'⟩
      · omega
      · have : b2 ≠ b1 := fun e => dj b2 d2 (by rw [d1, e])
        omega
  rcases hor with hc | hc
  · exact (m_mark_Model b v v' xs ys k b1 b2 c2 w (t1.wide hc) t2 (by omega) f2 (by omega) (by omega) (by omega) hk).mono fun e w' ⟨he, o1, o2, hk⟩ =>
      ⟨he, (o1.wide (by omega)).lower e1, (o2.wide f3).lower f1, hk.mono e1 f3⟩
  · exact (m_mark_Model_rev b v v' xs ys k b2 b1 c1 w t1 (t2.wide hc) (by omega) e2 (by omega) (by omega) (by omega) hk).mono fun e w' ⟨he, o1, o2, hk⟩ =>
      ⟨he, (o1.wide e3).lower e1, (o2.wide (by omega)).lower f1, hk.mono f1 e3⟩
end Go.Proofs.YtgdmfihnbbgcoaaGreatDoor
