/- Joined of several texts: Dm, Dn, Df, Ds. -/
import Derived.Test.YtgcoohlakcncbaaGreatDr
import Derived.Test.YtgcoohlakcncbaaGreatSch
import Derived.Test.YtgcoohlakcncbaaGreatApw
import Derived.Test.YtgcoohlakcncbaaGreatB6
import Derived.Test.YtgcoohlakcncbaaGreatFB
import Derived.Test.YtgcoohlakcncbaaGreat05e
namespace Go.Proofs.YtgcoohlakcncbaaGreat
open Go.RowKit
set_option linter.unusedVariables false
set_option linter.unusedSimpArgs false
/- The reference's drawing functions of formulas, frames and models, by the shape of what they draw (written by program, gendr.py). -/
theorem gr_far {w X Y : World} {g : Nat} {row : Option Nat} (h : w.grownBy X (some g)) (k : X.grownBy Y row) (hr : ∀ k, row = some k → k = g ∨ w.heap.size ≤ k) : w.grownBy Y (some g) :=
  ⟨k.os.trans h.os, k.tape.trans h.tape, k.output.trans h.output, Nat.le_trans h.size k.size, fun i hi hne =>
    (k.block i (Nat.lt_of_lt_of_le hi h.size) (fun e => (hr i e.symm).elim (fun e => hne (by rw [e])) (fun e => by omega))).trans (h.block i hi hne)⟩
theorem gr_below {w X Y : World} {g : Nat} (h : w.grownBy X (some g)) (k : Below X.heap.size X Y) : w.grownBy Y (some g) :=
  ⟨k.os.trans h.os, k.tape.trans h.tape, k.output.trans h.output, Nat.le_trans h.size k.size, fun i hi hne => (k.block i (Nat.lt_of_lt_of_le hi h.size)).trans (h.block i hi hne)⟩
theorem gr_set {w X : World} {g : Nat} (h : w.grownBy X (some g)) {p : Addr} (hp : p.block = g ∨ w.heap.size ≤ p.block) (u : Value) : w.grownBy (X.setCell p u) (some g) :=
  gr_far h (row := some p.block) ⟨rfl, rfl, rfl, by simp [World.setCell], fun i _ hne => Below.heap_setCell _ _ _ _ (fun e => hne (by rw [e]))⟩ (fun k e => by injection e with e; subst e; exact hp)
/-- something is being drawn since w, by the source in g -/
structure Dg (w0 : World) (v : Value) (xs : List (Fin 256)) (g : Nat) (w X : World) : Prop where
  S : Src 151 w0 v xs X g
  gr : w.grownBy X (some g)
  lt : g < w.heap.size
section
variable {w0 : World} {v : Value} {xs : List (Fin 256)} {g : Nat} {w X Y : World} {α : Type} {K : Cod α} {e : TypeId} {u : Value} {L : List α}
theorem Dg.start (S : Src 151 w0 v xs w g) : Dg w0 v xs g w w := ⟨S, World.grownBy.refl w _, S.lt⟩
theorem Dg.below (d : Dg w0 v xs g w X) (hb : Below X.heap.size X Y) : Dg w0 v xs g w Y := ⟨d.S.below hb, gr_below d.gr hb, d.lt⟩
theorem Dg.alloc (d : Dg w0 v xs g w X) (o : Obj) : Dg w0 v xs g w (X.alloc o) := d.below ((Below.refl _ _).alloc (Nat.le_refl _) o)
theorem Dg.drewN (d : Dg w0 v xs g w X) (n : Nat) : Dg w0 v xs g w (X.drewN n) := d.below (below_drewN (Below.refl _ _) n)
theorem Dg.call (d : Dg w0 v xs g w X) (hS : Src 151 w0 v xs Y g) (hg : X.grownBy Y (some g)) : Dg w0 v xs g w Y :=
  ⟨hS, gr_far d.gr hg (fun k e => .inl (by injection e with e; exact e.symm)), d.lt⟩
/-- a change of blocks that are the drawing's own -/
theorem Dg.grown (d : Dg w0 v xs g w X) {row : Option Nat} (hg : X.grownBy Y row) (hr : ∀ k, row = some k → w.heap.size ≤ k) : Dg w0 v xs g w Y :=
  ⟨d.S.grown hg (fun k e => by have := hr k e; have := d.lt; have := d.S.lo; omega), gr_far d.gr hg (fun k e => .inr (hr k e)), d.lt⟩
theorem Dg.set (d : Dg w0 v xs g w X) {p : Addr} (hp : w.heap.size ≤ p.block) (u : Value) : Dg w0 v xs g w (X.setCell p u) :=
  d.grown (row := some p.block) ⟨rfl, rfl, rfl, by simp [World.setCell], fun i _ hne => Below.heap_setCell _ _ _ _ (fun e => hne (by rw [e]))⟩ (fun k e => by injection e with e; subst e; exact hp)
theorem Dg.size (d : Dg w0 v xs g w X) : w.heap.size ≤ X.heap.size := d.gr.size
theorem Dg.pass (d : Dg w0 v xs g w X) (h : Ow K e w.heap.size X u L) (hg : X.grownBy Y (some g)) : Ow K e w.heap.size Y u L := h.kept hg (by
  have := d.lt
  cases hv : u.ownBlock with
  | none => exact .inl rfl
  | some k => exact .inr (fun e => by injection e; have := h.block k hv; omega))
theorem Dg.made (d : Dg w0 v xs g w X) (h : Ow K e X.heap.size Y u L) : Ow K e w.heap.size Y u L := h.mono d.size
/-- an own block that a call with the source leaves as it is -/
theorem Dg.blk (d : Dg w0 v xs g w X) {b : Nat} {t : TypeId} {cs : Array Value} (h : Blk X b t cs) (hb : w.heap.size ≤ b) (hg : X.grownBy Y (some g)) : Blk Y b t cs :=
  h.grown hg (fun e => by injection e; have := d.lt; omega)
end
theorem spec_l02Var (k : Int) (w : World) : Calls Tryz.prog 82 #[.int .i64 k] w fun e w' => ∃ u, e = .returned u ∧ Ow cN 82 w.heap.size w' u [(0, k)] ∧ Below w.heap.size w w' := by
  go_enter Tryz.func82, Tryz.ntmps82
  go_wp2
  go_ret
  exact ⟨_, rfl, Ow.lit [(0, k)] rfl rfl (Nat.le_refl _), (Below.refl _ _).alloc (Nat.le_refl _) _⟩
set_option maxRecDepth 100000 in
set_option maxHeartbeats 4000000 in
theorem spec_l02Draw (k : Nat) (hk : k ≤ 1000) (w0 : World) (v : Value) (xs : List (Fin 256)) (g : Nat) (vars : Int) (modal : Bool) (hv1 : 1 ≤ vars) (hv2 : vars ≤ 1000) : ∀ (size : Int) (w : World), -1000 ≤ size → size ≤ k → Src 151 w0 v xs w g →
    Calls Tryz.prog 154 #[.pointer (some ⟨g, 0, none⟩), .int .i64 size, .int .i64 vars, .bool modal] w fun e w' => ∃ u L, e = .returned u ∧ 1 ≤ L.length ∧ ((L.length : Int) ≤ size ∨ L.length = 1) ∧ Ow cN 82 w.heap.size w' u L ∧ Src 151 w0 v xs w' g ∧ w.grownBy w' (some g) := by
  induction k with
  | zero =>
    intro size w hs1 hs2 S
    have IH : ∀ (size' : Int) (W : World), -1000 ≤ size' → size' ≤ -1000 → False → True := fun _ _ _ _ _ => trivial
    have hs : size ≤ 2 := by omega
    have D := Lib.hid (Dg.start S)
    clear S
    go_enter Tryz.func154, Tryz.ntmps154
    go_wp2_with fail
    refine (spec_l01Next _ _ _ _ _ 8 D.out.S (by decide) (by decide)).mono ?_
    rintro e w1 ⟨k8, rfl, hk8, hS, hg, hz⟩
    replace D := Lib.hid (D.out.call hS hg)
    clear hS hg hz
    cases h8 : ((k8 : Int) == 0)
    · clear hk8
      go_wp2_with fail
      refine (spec_l01Next _ _ _ _ _ vars D.out.S (by omega) (by omega)).mono ?_
      rintro e w2 ⟨kv, rfl, hkv, hS, hg, hz⟩
      replace D := Lib.hid (D.out.call hS hg)
      clear hS hg hz
      clear hkv
      go_wp2_with fail
      refine (spec_l02Var _ _).mono ?_
      rintro e w3 ⟨u, rfl, ho, hb⟩
      have O := Lib.hid (D.out.made ho)
      replace D := Lib.hid (D.out.below hb)
      clear ho hb
      go_wp2
      go_ret
      exact ⟨_, _, rfl, by simp, .inr rfl, O.out, D.out.S, D.out.gr⟩
    · clear hk8
      go_wp2_with fail
      refine (spec_l02False _).mono ?_
      rintro e w4 ⟨u, rfl, ho, hb⟩
      have O := Lib.hid (D.out.made ho)
      replace D := Lib.hid (D.out.below hb)
      clear ho hb
      go_wp2
      go_ret
      exact ⟨_, _, rfl, by simp, .inr rfl, O.out, D.out.S, D.out.gr⟩
  | succ k ih =>
    have IH := Lib.hid (ih (by omega))
    clear ih
    intro size w hs1 hs2 S
    by_cases hs : size ≤ 2
    · clear IH
      have D := Lib.hid (Dg.start S)
      clear S
      go_enter Tryz.func154, Tryz.ntmps154
      go_wp2_with fail
      refine (spec_l01Next _ _ _ _ _ 8 D.out.S (by decide) (by decide)).mono ?_
      rintro e w5 ⟨k8, rfl, hk8, hS, hg, hz⟩
      replace D := Lib.hid (D.out.call hS hg)
      clear hS hg hz
      cases h8 : ((k8 : Int) == 0)
      · clear hk8
        go_wp2_with fail
        refine (spec_l01Next _ _ _ _ _ vars D.out.S (by omega) (by omega)).mono ?_
        rintro e w6 ⟨kv, rfl, hkv, hS, hg, hz⟩
        replace D := Lib.hid (D.out.call hS hg)
        clear hS hg hz
        clear hkv
        go_wp2_with fail
        refine (spec_l02Var _ _).mono ?_
        rintro e w7 ⟨u, rfl, ho, hb⟩
        have O := Lib.hid (D.out.made ho)
        replace D := Lib.hid (D.out.below hb)
        clear ho hb
        go_wp2
        go_ret
        exact ⟨_, _, rfl, by simp, .inr rfl, O.out, D.out.S, D.out.gr⟩
      · clear hk8
        go_wp2_with fail
        refine (spec_l02False _).mono ?_
        rintro e w8 ⟨u, rfl, ho, hb⟩
        have O := Lib.hid (D.out.made ho)
        replace D := Lib.hid (D.out.below hb)
        clear ho hb
        go_wp2
        go_ret
        exact ⟨_, _, rfl, by simp, .inr rfl, O.out, D.out.S, D.out.gr⟩
    · have hs3 : size ≤ 1000 := by omega
      have D := Lib.hid (Dg.start S)
      clear S
      go_enter Tryz.func154, Tryz.ntmps154
      go_wp2_with fail
      refine (spec_l01Next _ _ _ _ _ 9 D.out.S (by decide) (by decide)).mono ?_
      rintro e w9 ⟨k9, rfl, hk9, hS, hg, hz⟩
      replace D := Lib.hid (D.out.call hS hg)
      clear hS hg hz
      cases h9 : ((k9 : Int) == 0)
      · clear hk9
        cases modal
        · skip
          go_wp2_with fail
          refine (spec_l01Next _ _ _ _ _ 6 D.out.S (by decide) (by decide)).mono ?_
          rintro e w10 ⟨k6, rfl, hk6, hS, hg, hz⟩
          replace D := Lib.hid (D.out.call hS hg)
          clear hS hg hz
          cases h6 : ((k6 : Int) == 0)
          · clear hk6
            go_wp2_with fail
            refine (spec_l01Next _ _ _ _ _ (size - 2) D.out.S (by omega) (by omega)).mono ?_
            rintro e w11 ⟨k7, rfl, hk7, hS, hg, hz⟩
            replace D := Lib.hid (D.out.call hS hg)
            clear hS hg hz
            have hk7' : (k7 : Int) < size - 2 := hk7
            clear hk7
            go_wp2_with fail
            refine (IH.out (1 + (k7 : Int)) _ (by omega) (by omega) D.out.S).mono ?_
            rintro e w12 ⟨u1, L1, rfl, hl1, hl1', O1, hS, hg⟩
            replace O1 := Lib.hid (D.out.made O1)
            replace D := Lib.hid (D.out.call hS hg)
            clear hS hg
            go_wp2_with fail
            refine (spec_l01Next _ _ _ _ _ 3 D.out.S (by decide) (by decide)).mono ?_
            rintro e w13 ⟨k3, rfl, hk3, hS, hg, hz⟩
            replace O1 := Lib.hid (D.out.pass O1.out hg)
            replace D := Lib.hid (D.out.call hS hg)
            clear hS hg hz
            go_wp2_with fail
            refine (IH.out (size - 1 - (1 + (k7 : Int))) _ (by omega) (by omega) D.out.S).mono ?_
            rintro e w14 ⟨u2, L2, rfl, hl2, hl2', O2, hS, hg⟩
            replace O2 := Lib.hid (D.out.made O2)
            replace O1 := Lib.hid (D.out.pass O1.out hg)
            replace D := Lib.hid (D.out.call hS hg)
            clear hS hg
            have hl : L1.length + L2.length + 1 ≤ 1000 ∧ ((L1.length : Int) + L2.length + 1 ≤ size) := by omega
            go_wp2_with fail
            refine (spec_l02Pair (2 + (k3 : Int)) _ _ L1 L2 _ O1.out.sl O2.out.sl (by omega) (by omega)).mono ?_
            rintro e w15 ⟨u, rfl, ho, hb⟩
            have O := Lib.hid (D.out.made ho)
            replace O1 := Lib.hid (O1.out.below hb)
            replace O2 := Lib.hid (O2.out.below hb)
            replace D := Lib.hid (D.out.below hb)
            clear ho hb
            have HL := Lib.hid hl
            clear hl hl1 hl1' hl2 hl2'
            go_wp2
            go_ret
            exact ⟨_, _, rfl, by simp, .inl (by have := HL.out; simp; omega), O.out, D.out.S, D.out.gr⟩
          · clear hk6
            go_wp2_with fail
            refine (IH.out (size - 2) _ (by omega) (by omega) D.out.S).mono ?_
            rintro e w16 ⟨u1, L1, rfl, hl1, hl1', O1, hS, hg⟩
            replace O1 := Lib.hid (D.out.made O1)
            replace D := Lib.hid (D.out.call hS hg)
            clear hS hg
            have hl : L1.length + 2 ≤ 1000 ∧ ((L1.length : Int) + 2 ≤ size) := by omega
            go_wp2_with fail
            refine (spec_l02Not _ L1 _ O1.out.sl (by omega)).mono ?_
            rintro e w17 ⟨u, rfl, ho, hb⟩
            have O := Lib.hid (D.out.made ho)
            replace O1 := Lib.hid (O1.out.below hb)
            replace D := Lib.hid (D.out.below hb)
            clear ho hb
            have HL := Lib.hid hl
            clear hl hl1 hl1'
            go_wp2
            go_ret
            exact ⟨_, _, rfl, by simp, .inl (by have := HL.out; simp; omega), O.out, D.out.S, D.out.gr⟩
        · skip
          go_wp2_with fail
          refine (spec_l01Next _ _ _ _ _ 3 D.out.S (by decide) (by decide)).mono ?_
          rintro e w18 ⟨km, rfl, hkm, hS, hg, hz⟩
          replace D := Lib.hid (D.out.call hS hg)
          clear hS hg hz
          cases hm : ((km : Int) == 0)
          · clear hkm
            go_wp2_with fail
            refine (spec_l01Next _ _ _ _ _ 6 D.out.S (by decide) (by decide)).mono ?_
            rintro e w19 ⟨k6, rfl, hk6, hS, hg, hz⟩
            replace D := Lib.hid (D.out.call hS hg)
            clear hS hg hz
            cases h6 : ((k6 : Int) == 0)
            · clear hk6
              go_wp2_with fail
              refine (spec_l01Next _ _ _ _ _ (size - 2) D.out.S (by omega) (by omega)).mono ?_
              rintro e w20 ⟨k7, rfl, hk7, hS, hg, hz⟩
              replace D := Lib.hid (D.out.call hS hg)
              clear hS hg hz
              have hk7' : (k7 : Int) < size - 2 := hk7
              clear hk7
              go_wp2_with fail
              refine (IH.out (1 + (k7 : Int)) _ (by omega) (by omega) D.out.S).mono ?_
              rintro e w21 ⟨u1, L1, rfl, hl1, hl1', O1, hS, hg⟩
              replace O1 := Lib.hid (D.out.made O1)
              replace D := Lib.hid (D.out.call hS hg)
              clear hS hg
              go_wp2_with fail
              refine (spec_l01Next _ _ _ _ _ 3 D.out.S (by decide) (by decide)).mono ?_
              rintro e w22 ⟨k3, rfl, hk3, hS, hg, hz⟩
              replace O1 := Lib.hid (D.out.pass O1.out hg)
              replace D := Lib.hid (D.out.call hS hg)
              clear hS hg hz
              go_wp2_with fail
              refine (IH.out (size - 1 - (1 + (k7 : Int))) _ (by omega) (by omega) D.out.S).mono ?_
              rintro e w23 ⟨u2, L2, rfl, hl2, hl2', O2, hS, hg⟩
              replace O2 := Lib.hid (D.out.made O2)
              replace O1 := Lib.hid (D.out.pass O1.out hg)
              replace D := Lib.hid (D.out.call hS hg)
              clear hS hg
              have hl : L1.length + L2.length + 1 ≤ 1000 ∧ ((L1.length : Int) + L2.length + 1 ≤ size) := by omega
              go_wp2_with fail
              refine (spec_l02Pair (2 + (k3 : Int)) _ _ L1 L2 _ O1.out.sl O2.out.sl (by omega) (by omega)).mono ?_
              rintro e w24 ⟨u, rfl, ho, hb⟩
              have O := Lib.hid (D.out.made ho)
              replace O1 := Lib.hid (O1.out.below hb)
              replace O2 := Lib.hid (O2.out.below hb)
              replace D := Lib.hid (D.out.below hb)
              clear ho hb
              have HL := Lib.hid hl
              clear hl hl1 hl1' hl2 hl2'
              go_wp2
              go_ret
              exact ⟨_, _, rfl, by simp, .inl (by have := HL.out; simp; omega), O.out, D.out.S, D.out.gr⟩
            · clear hk6
              go_wp2_with fail
              refine (IH.out (size - 2) _ (by omega) (by omega) D.out.S).mono ?_
              rintro e w25 ⟨u1, L1, rfl, hl1, hl1', O1, hS, hg⟩
              replace O1 := Lib.hid (D.out.made O1)
              replace D := Lib.hid (D.out.call hS hg)
              clear hS hg
              have hl : L1.length + 2 ≤ 1000 ∧ ((L1.length : Int) + 2 ≤ size) := by omega
              go_wp2_with fail
              refine (spec_l02Not _ L1 _ O1.out.sl (by omega)).mono ?_
              rintro e w26 ⟨u, rfl, ho, hb⟩
              have O := Lib.hid (D.out.made ho)
              replace O1 := Lib.hid (O1.out.below hb)
              replace D := Lib.hid (D.out.below hb)
              clear ho hb
              have HL := Lib.hid hl
              clear hl hl1 hl1'
              go_wp2
              go_ret
              exact ⟨_, _, rfl, by simp, .inl (by have := HL.out; simp; omega), O.out, D.out.S, D.out.gr⟩
          · clear hkm
            go_wp2_with fail
            refine (spec_l01Next _ _ _ _ _ 2 D.out.S (by decide) (by decide)).mono ?_
            rintro e w27 ⟨k2, rfl, hk2, hS, hg, hz⟩
            replace D := Lib.hid (D.out.call hS hg)
            clear hS hg hz
            go_wp2_with fail
            refine (IH.out (size - 1) _ (by omega) (by omega) D.out.S).mono ?_
            rintro e w28 ⟨u1, L1, rfl, hl1, hl1', O1, hS, hg⟩
            replace O1 := Lib.hid (D.out.made O1)
            replace D := Lib.hid (D.out.call hS hg)
            clear hS hg
            have hl : L1.length + 1 ≤ 1000 ∧ ((L1.length : Int) + 1 ≤ size) := by omega
            go_wp2_with fail
            refine (spec_l02Pre (5 + (k2 : Int)) _ L1 _ O1.out.sl (by omega)).mono ?_
            rintro e w29 ⟨u, rfl, ho, hb⟩
            have O := Lib.hid (D.out.made ho)
            replace O1 := Lib.hid (O1.out.below hb)
            replace D := Lib.hid (D.out.below hb)
            clear ho hb
            have HL := Lib.hid hl
            clear hl hl1 hl1'
            go_wp2
            go_ret
            exact ⟨_, _, rfl, by simp, .inl (by have := HL.out; simp; omega), O.out, D.out.S, D.out.gr⟩
      · clear hk9
        clear IH
        go_wp2_with fail
        refine (spec_l01Next _ _ _ _ _ 8 D.out.S (by decide) (by decide)).mono ?_
        rintro e w30 ⟨k8, rfl, hk8, hS, hg, hz⟩
        replace D := Lib.hid (D.out.call hS hg)
        clear hS hg hz
        cases h8 : ((k8 : Int) == 0)
        · clear hk8
          go_wp2_with fail
          refine (spec_l01Next _ _ _ _ _ vars D.out.S (by omega) (by omega)).mono ?_
          rintro e w31 ⟨kv, rfl, hkv, hS, hg, hz⟩
          replace D := Lib.hid (D.out.call hS hg)
          clear hS hg hz
          clear hkv
          go_wp2_with fail
          refine (spec_l02Var _ _).mono ?_
          rintro e w32 ⟨u, rfl, ho, hb⟩
          have O := Lib.hid (D.out.made ho)
          replace D := Lib.hid (D.out.below hb)
          clear ho hb
          go_wp2
          go_ret
          exact ⟨_, _, rfl, by simp, .inr rfl, O.out, D.out.S, D.out.gr⟩
        · clear hk8
          go_wp2_with fail
          refine (spec_l02False _).mono ?_
          rintro e w33 ⟨u, rfl, ho, hb⟩
          have O := Lib.hid (D.out.made ho)
          replace D := Lib.hid (D.out.below hb)
          clear ho hb
          go_wp2
          go_ret
          exact ⟨_, _, rfl, by simp, .inr rfl, O.out, D.out.S, D.out.gr⟩
/- The reference's drawing functions of formulas, by the shape of what they draw (written by program, gendr.py). -/
/-- a store into an own list -/
theorem Ow.setC {α : Type} {K : Cod α} {e : TypeId} {B : Nat} {w : World} {xs ys : List α} {g n c j : Nat} {u : Value} (h : Ow K e B w (.slice (some ⟨g, 0, none⟩) n c) xs) (hl : ys.length = xs.length) (hf : flat K ys = (flat K xs).set j u) :
    Ow K e B (w.setCell ⟨g, j, none⟩ u) (.slice (some ⟨g, 0, none⟩) n c) ys := by
  obtain ⟨⟨A, c', hv, hc, hm⟩, ho⟩ := h
  injection hv with hA hn hc'
  subst hA; subst hc'; subst hn
  refine ⟨⟨_, c, by rw [hl], by rw [hl]; exact hc, hm⟩, ?_⟩
  have := (ho.stored j u).1
  rw [hl, hf]
  exact this
theorem flat_set0 (xs : List Nd) (j : Nat) (a : Int) (h : j < xs.length) : flat cN (xs.set j (a, (xs.getD j (0, 0)).2)) = (flat cN xs).set (j * 2) (.int .i64 a) := by
  induction xs generalizing j with
  | nil => simp at h
  | cons x xs ih =>
    cases j with
    | zero => simp [flat_cons, cN]
    | succ j =>
      have := ih j (by simpa using h)
      rw [List.set_cons_succ, flat_cons, List.getD_cons_succ, this, flat_cons]
      simp [cN, Nat.add_mul]
theorem flat_set1 (xs : List Nd) (j : Nat) (b : Int) (h : j < xs.length) : flat cN (xs.set j ((xs.getD j (0, 0)).1, b)) = (flat cN xs).set (j * 2 + 1) (.int .i64 b) := by
  induction xs generalizing j with
  | nil => simp at h
  | cons x xs ih =>
    cases j with
    | zero => simp [flat_cons, cN]
    | succ j =>
      have := ih j (by simpa using h)
      rw [List.set_cons_succ, flat_cons, List.getD_cons_succ, this, flat_cons]
      simp [cN, Nat.add_mul]
/-- the head of an own list -/
theorem Ow.cut0 {α : Type} {K : Cod α} {e : TypeId} {B : Nat} {w : World} {g c n j : Nat} {xs : List α} (h : Ow K e B w (.slice (some ⟨g, 0, none⟩) n c) xs) (hj : j ≤ xs.length) : Ow K e B w (.slice (some ⟨g, 0, none⟩) j c) (xs.take j) := by
  obtain ⟨⟨A, c', hv, hc, hm⟩, h1, h2⟩ := h
  injection hv with hA hn hc'
  subst hA; subst hc'; subst hn
  have hlt : (xs.take j).length = j := by rw [List.length_take]; omega
  have hmul : j * K.size ≤ xs.length * K.size := Nat.mul_le_mul_right _ hj
  refine ⟨⟨_, c, by rw [hlt], by omega, hm⟩, by rw [flat_length], ?_⟩
  rcases h2 with ⟨h0, _⟩ | ⟨g', cap, cur, hv, hb, hg, hn, hcm, hsz, ht⟩
  · cases h0
  · injection hv with hA _ hcc
    injection hA with hA
    injection hA with hA _ _
    subst hA; subst hcc
    refine .inr ⟨g, c, cur, by rw [hlt], hb, hg, by omega, hcm, hsz, ?_⟩
    rw [hlt]
    have h3 := congrArg (List.take (j * K.size)) ht
    rw [List.take_take, Nat.min_eq_left hmul] at h3
    rw [h3, flat_take]
/-- a list that reads, in memory from block B on -/
def Ro {α : Type} (K : Cod α) (B : Nat) (w : World) (u : Value) (L : List α) : Prop := Sl K w u L ∧ ∀ k, u.ownBlock = some k → B ≤ k ∧ k < w.heap.size
section
variable {α : Type} {K : Cod α} {e : TypeId} {B : Nat} {w X Y : World} {u : Value} {L : List α}
theorem Ow.ro (h : Ow K e B w u L) : Ro K B w u L := ⟨h.sl, h.block⟩
theorem Ro.below (h : Ro K B X u L) (hb : Below X.heap.size X Y) : Ro K B Y u L := ⟨h.1.below hb, fun k hk => ⟨(h.2 k hk).1, Nat.lt_of_lt_of_le (h.2 k hk).2 hb.size⟩⟩
theorem Ro.opn (h : Ro K B X u L) : ∃ A c, u = .slice A L.length c := h.1.opn
theorem Ro.blt (h : Ro K B X u L) : ∀ k, u.ownBlock = some k → k < X.heap.size := fun k hk => (h.2 k hk).2
theorem Ro.mono {B' : Nat} (h : Ro K B X u L) (hB : B' ≤ B) : Ro K B' X u L := ⟨h.1, fun k hk => ⟨Nat.le_trans hB (h.2 k hk).1, (h.2 k hk).2⟩⟩
end
def slen : Value → Nat
  | .slice _ n _ => n
  | _ => 0
set_option maxRecDepth 100000 in
set_option maxHeartbeats 4000000 in
theorem spec_l02Bend (w0 : World) (v : Value) (xs : List (Fin 256)) (w : World) (g : Nat) (a : Value) (L : List Nd) (S : Src 151 w0 v xs w g) (h : Sl cN w a L) (h1 : 1 ≤ L.length) (h2 : L.length ≤ 1000) :
    Calls Tryz.prog 155 #[.pointer (some ⟨g, 0, none⟩), a] w fun e w' => ∃ u L', e = .returned u ∧ L'.length ≤ 1001 ∧ Ow cN 82 w.heap.size w' u L' ∧ Src 151 w0 v xs w' g ∧ w.grownBy w' (some g) := by
  have H := Lib.hid h
  clear h
  have D := Lib.hid (Dg.start S)
  clear S
  go_enter Tryz.func155, Tryz.ntmps155
  go_wp2_with fail
  refine (spec_l02Own a L w H.out (by omega)).mono ?_
  rintro e w1 ⟨u, rfl, ho, hb⟩
  have O := Lib.hid (D.out.made ho)
  replace D := Lib.hid (D.out.below hb)
  clear ho hb
  clear H
  obtain ⟨g1, c, rfl, -, -, -⟩ := O.out.form (by omega)
  go_wp2_with fail
  refine (spec_l01Next _ _ _ _ _ L.length D.out.S (by omega) (by omega)).mono ?_
  rintro e w2 ⟨k, rfl, hk, hS, hg, hz⟩
  replace O := Lib.hid (D.out.pass O.out hg)
  replace D := Lib.hid (D.out.call hS hg)
  clear hS hg hz
  have hk' : k < L.length := by omega
  clear hk
  go_wp2_with fail
  refine (spec_l01Next _ _ _ _ _ 5 D.out.S (by decide) (by decide)).mono ?_
  rintro e w3 ⟨k5, rfl, hk5, hS, hg, hz⟩
  replace O := Lib.hid (D.out.pass O.out hg)
  replace D := Lib.hid (D.out.call hS hg)
  clear hS hg hz
  have hin := O.out.at2 hk'
  obtain ⟨c0, c1, f0, f1, gB, gl⟩ := hin
  cases t0 : ((k5 : Int) == 0)
  · cases t1 : ((k5 : Int) == 1)
    · cases t2 : ((k5 : Int) == 2)
      · cases t3 : ((k5 : Int) == 3)
        · cases t4 : ((k5 : Int) == 4)
          · clear hk5
            go_wp2
            go_ret
            exact ⟨_, L, rfl, by omega, O.out, (D.out).S, (D.out).gr⟩
          · clear hk5
            have hkl : k + 1 ≤ L.length := hk'
            have HC := Lib.hid (O.out.cut0 (j := k) (by omega))
            obtain ⟨-, hca, hcb⟩ := O.out.sl.cap
            obtain ⟨kp, hkp⟩ : ∃ kp : Nat, kp = k + 1 := ⟨_, rfl⟩
            have HR : Hid (Sl cN w3 (.slice (if c = kp then some ⟨g1, 0, none⟩ else some ⟨g1, kp * 2, none⟩) (L.length - kp) (c - kp)) ((L.drop kp).take (L.length - kp))) := Lib.hid (by
              by_cases hce : c = kp
              · have e1 : L.length - kp = 0 := by omega
                rw [if_pos hce, e1, List.take_zero]
                exact Sl.empty _ _ (by omega)
              · rw [if_neg hce]
                exact O.out.sl.cutAt (i := kp) (j := L.length) (by omega) (Nat.le_refl _) rfl (fun b o e => by injection e with e; injection e with e1 e2; subst e1; subst e2; rw [Nat.zero_add]; rfl) (by omega) (by omega))
            have hwr : IntKind.i64.wrap ((k : Int) + 1) = (kp : Int) := by subst hkp; exact IntWalk.i64_in _ ⟨by omega, by omega⟩
            have hkp2 : kp ≤ L.length := by omega
            have hkc : k ≤ c := by omega
            have HLn : Hid (k + (L.length - kp) ≤ 1001) := Lib.hid (by omega)
            have hkL : k ≤ L.length := by omega
            clear hkp hkl
            go_upto_region 13 with fail
            have hI : True := trivial
            refine wp_region_sched (fun _ => True) 8 [0, 1, 2, 3, 4, 5, 6] [0, 1, 2, 3, 4, 5, 6, 7] (by kernel_rfl) (by kernel_rfl) hI ?_
            repeat
              apply wpSched_q rfl rfl
              case h =>
                intro w' hI K hK
                simp only [quietV, stillV]
                go_simp
                exact hK
              go_simp
            refine wpSched_r rfl rfl ?_ hI
            intro K hK _
            rw [if_pos (show Region.wanted _ _ = true from rfl)]
            refine ap_wp (K := cN) _ ty_node _ _ rfl (B := w.heap.size) rfl (HC.out.drewN 1) (news := (L.drop kp).take (L.length - kp)) rfl (by rw [List.length_take, List.length_drop]; omega) (HR.out.drewN 1).rdA (by have := HLn.out; rw [List.length_take, List.length_take, List.length_drop]; omega) D.out.size ?_
            intro v1 w9 ho1 hg1 hb1 hat1
            have D9 := Lib.hid ((D.out.drewN 1).grown hg1 (fun q e => by have eq : g1 = q := Option.some.inj e; omega))
            have HL9 : Hid ((L.take k ++ (L.drop kp).take (L.length - kp)).length ≤ 1001) := Lib.hid (by have := HLn.out; rw [List.length_append, List.length_take, List.length_take, List.length_drop]; omega)
            have O9 := Lib.hid ho1
            generalize L.take k ++ (L.drop kp).take (L.length - kp) = L9 at *
            refine hK _ _ trivial ?_
            clear hK K
            repeat
              apply wpSched_q rfl rfl
              case h =>
                intro w' hI K hK
                simp only [quietV, stillV]
                go_simp
                exact hK
              go_simp
            refine wpSched_nil ?_
            try simp only [List.drop_succ_cons, List.drop_zero, List.drop_nil]
            obtain ⟨A9, c9, rfl⟩ := O9.out.opn
            go_wp2
            all_goals go_ret
            all_goals exact ⟨_, rfl, L9, HL9.out, O9.out, D9.out.S, D9.out.gr⟩
        · clear hk5
          obtain ⟨-, hca, hcb⟩ := O.out.sl.cap
          go_wp2
          go_ret
          exact ⟨_, L.take k, rfl, by simp; omega, O.out.cut0 (by omega), (D.out).S, (D.out).gr⟩
      · clear hk5
        clear c0 c1 f0 f1 gl
        go_wp2_with fail
        refine (spec_l01Next _ _ _ _ _ 7 D.out.S (by decide) (by decide)).mono ?_
        rintro e w4 ⟨k7, rfl, hk7, hS, hg, hz⟩
        replace O := Lib.hid (D.out.pass O.out hg)
        replace D := Lib.hid (D.out.call hS hg)
        clear hS hg hz
        have gs := D.out.size
        go_wp2_with (at_builtin; refine stopHere ?_)
        refine goHere ?_
        refine ap_one (K := cN) _ ty_node rfl _ _ rfl (B := w.heap.size) (xs := L) rfl O.out ((k7 : Int), 0) rfl rfl (by omega) gs ?_
        intro v1 w9 ho1 hg1 hb1 hat1
        have HD := Lib.hid (D.out.grown (grown_alloc _ hg1) (fun q e => by have eq : g1 = q := Option.some.inj e; omega))
        obtain ⟨A9, c9, hv9⟩ := ho1.opn
        rw [List.length_append, List.length_singleton] at hv9
        subst hv9
        have O9 := Lib.hid ho1
        clear ho1 hg1 hb1 hat1
        go_wp2
        go_ret
        exact ⟨_, L ++ [((k7 : Int), 0)], rfl, by simp; omega, O9.out, (HD.out).S, (HD.out).gr⟩
    · clear hk5
      go_wp2_with fail
      refine (spec_l01Pick _ _ _ _ _ _ [-1, 0, 1, 5, 6] (D.out.alloc _).S (Ow.lit (K := cI) (B := w3.heap.size) [-1, 0, 1, 5, 6] rfl rfl (Nat.le_refl _)).sl (.inr (fun e => by injection e with e; have := D.out.S.lt; have e' : w3.heap.size = g := e; omega)) (by decide) (by decide)).mono ?_
      rintro e w9 ⟨y, rfl, hy, hS, hg, hz⟩
      have O9 := Lib.hid ((D.out.alloc _).pass (O.out.alloc _) hg)
      have D9 := Lib.hid ((D.out.alloc _).call hS hg)
      clear hS hg hz hy c0 c1 f0 f1
      obtain ⟨c0, c1, f0, f1, gB, gl⟩ := O9.out.at2 hk'
      go_wp2
      go_ret
      exact ⟨_, L.set k ((L.getD k (0, 0)).1, y), rfl, by simp; omega, O9.out.setC (by simp) (flat_set1 L k y hk'), (D9.out.set gB _).S, (D9.out.set gB _).gr⟩
  · clear hk5
    go_wp2_with fail
    refine (spec_l01Next _ _ _ _ _ 9 D.out.S (by decide) (by decide)).mono ?_
    rintro e w5 ⟨k9, rfl, hk9, hS, hg, hz⟩
    replace O := Lib.hid (D.out.pass O.out hg)
    replace D := Lib.hid (D.out.call hS hg)
    clear hS hg hz
    clear c0 c1 f0 f1
    obtain ⟨c0, c1, f0, f1, gB, gl⟩ := O.out.at2 hk'
    go_wp2
    go_ret
    exact ⟨_, L.set k ((k9 : Int) - 1, (L.getD k (0, 0)).2), rfl, by simp; omega, O.out.setC (by simp) (flat_set0 L k _ hk'), (D.out.set gB _).S, (D.out.set gB _).gr⟩
set_option maxRecDepth 100000 in
set_option maxHeartbeats 4000000 in
theorem spec_l02Any (w0 : World) (v : Value) (xs : List (Fin 256)) (w : World) (g : Nat) (size vars : Int) (modal : Bool) (S : Src 151 w0 v xs w g) (hs1 : 1 ≤ size) (hs2 : size ≤ 47) (hv1 : 1 ≤ vars) (hv2 : vars ≤ 1000) :
    Calls Tryz.prog 92 #[.pointer (some ⟨g, 0, none⟩), .int .i64 size, .int .i64 vars, .bool modal] w fun e w' => ∃ u L', e = .returned u ∧ L'.length ≤ 1001 ∧ Ow cN 82 w.heap.size w' u L' ∧ Src 151 w0 v xs w' g ∧ w.grownBy w' (some g) := by
  have D := Lib.hid (Dg.start S)
  clear S
  go_enter Tryz.func92, Tryz.ntmps92
  go_wp2_with fail
  refine (spec_l02Draw 47 (by omega) _ _ _ _ vars modal hv1 hv2 size _ (by omega) (by omega) D.out.S).mono ?_
  rintro e w1 ⟨u, L, rfl, hl1, hl2, O, hS, hg⟩
  replace O := Lib.hid (D.out.made O)
  replace D := Lib.hid (D.out.call hS hg)
  clear hS hg
  have hl : L.length ≤ 47 := by omega
  clear hl2
  go_wp2_with fail
  refine (spec_l01Next _ _ _ _ _ 40 D.out.S (by decide) (by decide)).mono ?_
  rintro e w2 ⟨k, rfl, hk, hS, hg, hz⟩
  replace O := Lib.hid (D.out.pass O.out hg)
  replace D := Lib.hid (D.out.call hS hg)
  clear hS hg hz
  cases t0 : ((k : Int) == 0)
  · cases t1 : ((k : Int) == 1)
    · clear hk
      obtain ⟨A, c, rfl⟩ := O.out.opn
      go_wp2
      go_ret
      exact ⟨_, L, rfl, by omega, O.out, D.out.S, D.out.gr⟩
    · clear hk
      go_wp2
      go_loopw [9] (fun u wr => ∃ L : List Nd, 1 ≤ L.length ∧ L.length ≤ 47 ∧ Ow cN 82 w.heap.size wr u L ∧ Dg w0 v xs g w wr) (fun u _ => 48 - slen u)
      case atStart => exact ⟨L, hl1, hl, O.out, D.out⟩
      case round =>
        clear hl1 hl O D
        obtain ⟨L, hl1, hl, O, D⟩ := hrel
        obtain ⟨A, c, rfl⟩ := O.opn
        replace O := Lib.hid O
        replace D := Lib.hid D
        have fin : Hid (1 ≤ L.length) := Lib.hid hl1
        by_cases h40 : (L.length : Int) ≤ 40
        · skip
          go_wp2_with fail
          refine (spec_l01Next _ _ _ _ _ 60 D.out.S (by decide) (by decide)).mono ?_
          rintro e w3 ⟨kk, rfl, hkk, hS, hg, hz⟩
          replace O := Lib.hid (D.out.pass O.out hg)
          replace D := Lib.hid (D.out.call hS hg)
          clear hS hg hz
          by_cases hpos : 0 < kk
          · clear hkk
            go_wp2_with fail
            refine (spec_l01Next _ _ _ _ _ 3 D.out.S (by decide) (by decide)).mono ?_
            rintro e w4 ⟨k3, rfl, hk3, hS, hg, hz⟩
            replace O := Lib.hid (D.out.pass O.out hg)
            replace D := Lib.hid (D.out.call hS hg)
            clear hS hg hz
            go_wp2_with fail
            refine (spec_l02Draw 6 (by omega) _ _ _ _ vars modal hv1 hv2 6 _ (by omega) (by omega) D.out.S).mono ?_
            rintro e w5 ⟨u2, L2, rfl, hm1, hm2, O2, hS, hg⟩
            replace O2 := Lib.hid (D.out.made O2)
            replace O := Lib.hid (D.out.pass O.out hg)
            replace D := Lib.hid (D.out.call hS hg)
            clear hS hg
            have hm : L2.length ≤ 6 := by omega
            clear hm2
            go_wp2_with fail
            refine (spec_l02Pair (2 + (k3 : Int)) _ _ L L2 _ O.out.sl O2.out.sl (by omega) (by omega)).mono ?_
            rintro e w6 ⟨u3, rfl, ho, hb⟩
            have O3 := Lib.hid (D.out.made ho)
            replace O := Lib.hid (O.out.below hb)
            replace O2 := Lib.hid (O2.out.below hb)
            replace D := Lib.hid (D.out.below hb)
            clear ho hb
            have HL : Hid (([(2 + (k3 : Int), 0)] ++ L ++ L2).length = L.length + L2.length + 1) := Lib.hid (by simp)
            generalize [(2 + (k3 : Int), (0 : Int))] ++ L ++ L2 = L3 at *
            obtain ⟨A3, c3, rfl⟩ := O3.out.opn
            go_wp2
            have hle := HL.out
            exact ⟨⟨L3, by omega, by omega, O3.out, D.out⟩, by simp only [slen]; omega⟩
          · clear hkk
            go_wp2
            go_ret
            exact ⟨_, L, rfl, by omega, O.out, D.out.S, D.out.gr⟩
        · go_wp2
          go_ret
          exact ⟨_, rfl, L, by omega, O.out, D.out.S, D.out.gr⟩
  · clear hk
    go_wp2_with fail
    refine (spec_l02Bend _ _ _ _ _ _ L D.out.S O.out.sl hl1 (by omega)).mono ?_
    rintro e w7 ⟨u2, L2, rfl, hm, O2, hS, hg⟩
    replace O2 := Lib.hid (D.out.made O2)
    replace O := Lib.hid (D.out.pass O.out hg)
    replace D := Lib.hid (D.out.call hS hg)
    clear hS hg
    obtain ⟨A, c, rfl⟩ := O2.out.opn
    go_wp2
    go_ret
    exact ⟨_, L2, rfl, hm, O2.out, D.out.S, D.out.gr⟩
/- The reference's drawing functions of frames and models, by the shape of what they draw (written by program, gendr2.py). -/
section
variable {w0 : World} {v : Value} {xs : List (Fin 256)} {g : Nat} {w X Y : World} {α : Type} {K : Cod α} {e : TypeId} {u : Value} {L : List α} {B : Nat}
theorem Dg.passB (d : Dg w0 v xs g w X) (h : Ow K e B X u L) (hB : w.heap.size ≤ B) (hg : X.grownBy Y (some g)) : Ow K e B Y u L := h.kept hg (by
  have := d.lt
  cases hv : u.ownBlock with
  | none => exact .inl rfl
  | some k => exact .inr (fun e => by injection e; have := h.block k hv; omega))
end
/-- every world sees itself -/
def rfx (ns : List Nat) : List Nat := (List.range ns.length).map fun i => ns.getD i 0 ||| 2 ^ i
theorem rfx_length (ns : List Nat) : (rfx ns).length = ns.length := by simp [rfx]
theorem rfx_rel {ns : List Nat} (h : RelN ns) : RelN (rfx ns) := by
  refine ⟨by rw [rfx_length]; exact h.1, fun x hx => ?_⟩
  rw [rfx_length]
  unfold rfx at hx
  obtain ⟨i, hi, rfl⟩ := List.mem_map.1 hx
  exact Nat.or_lt_two_pow (getD_lt h.2 i) (Nat.pow_lt_pow_right (by decide) (List.mem_range.1 hi))
theorem clo_rel {ns : List Nat} (h : RelN ns) : RelN (clo ns ns.length) := ⟨by rw [clo_length]; exact h.1, by rw [clo_length]; exact clo_lt h.2 _⟩
theorem set_rel {ns : List Nat} (h : RelN ns) (i : Nat) {x : Nat} (hx : x < 2 ^ ns.length) : RelN (ns.set i x) := ⟨by rw [List.length_set]; exact h.1, by rw [List.length_set]; exact set_lt h.2 i x hx⟩
theorem li_snoc (ns : List Nat) (x : Nat) : li (ns ++ [x]) = li ns ++ [(x : Int)] := by simp [li]
/- The reference's drawing functions of frames and models, by the shape of what they draw (written by program, gendr2.py). -/
end Go.Proofs.YtgcoohlakcncbaaGreat
