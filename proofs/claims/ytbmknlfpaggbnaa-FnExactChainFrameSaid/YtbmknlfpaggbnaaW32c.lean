/- The walk of the law FnExactChainFrame: it returns true, for every number, and writes nothing that was there. -/
import Derived.Test.Ytbmknlfpaggbnaa32c
import Derived.Test.YtbmknlfpaggbnaaLF
namespace Go.Proofs.Ytbmknlfpaggbnaa
open Go.RowKit
set_option linter.unusedVariables false
set_option linter.unusedSimpArgs false
theorem walk_ChainFrame (n : Int) (w : World) :
    Calls Try.prog 3 #[.int .i64 n] w fun e w' => e = .returned (.bool true) ∧ Below w.heap.size w w' := by
  have hlen := chOut_len n
  have hspec := spec_ChainFrame_out n
  have himpl := impl_ChainFrame_out n
  generalize chOut n = r at hlen hspec himpl
  obtain ⟨N, L, C⟩ := r
  have HS := Lib.hid hspec; clear hspec
  have HI := Lib.hid himpl; clear himpl
  dsimp only at hlen HS HI
  go_enter Try.func3, Try.ntmps3
  go_wp2_with fail
  refine (HS.out _).mono ?_
  rintro e w1 ⟨v0, rfl, o1, hb1⟩
  obtain ⟨A0, c0, rfl⟩ := o1.opn
  go_wp2_with fail
  refine (HI.out _).mono ?_
  rintro e w2 ⟨v1, rfl, o2, hb2⟩
  obtain ⟨A1, c1, rfl⟩ := o2.opn
  have x0 := (Bk.new w1 #[.int .i64 N, .slice A0 L.length c0] 24).below hb2
  have x0s := x0.1
  have x0c := x0.2
  go_wp2_with fail
  refine (eq_frame _ _ N L _ (o2.sl.alloc _) ((o1.sl.alloc _).below hb2 |>.alloc _) (by omega)).mono ?_
  rintro e w3 ⟨rfl, hb3⟩
  clear x0s x0c
  have y0 := (x0.alloc _).below hb3
  have y1 := (Bk.new w2 #[.int .i64 N, .slice A1 L.length c1] 24).below hb3
  have y0s := y0.1
  have y0c := y0.2
  have y1s := y1.1
  have y1c := y1.2
  go_wp2_with fail
  have o2' := (o2.alloc (.cells #[.int .i64 N, .slice A1 L.length c1] 24)).below hb3
  refine (mark_frame _ N L 1 _ _ o2' (by omega) (by omega)).mono ?_
  rintro e w4 ⟨rfl, o4, hg4⟩
  have z0 := y0.grown hg4 (o2'.apart (.inl (by simp)))
  have z1 := y1.grown hg4 (o2.apart (.inr (Nat.le_refl _)))
  clear y0s y0c y1s y1c
  have z0s := z0.1
  have z0c := z0.2
  have z1s := z1.1
  have z1c := z1.2
  go_wp2_with fail
  refine (held_frame _ N L.length 1 _ o4.sl (by omega) (by omega)).mono ?_
  rintro e w5 ⟨rfl, hb5⟩
  clear z0s z0c z1s z1c
  have p0 := z0.below hb5
  have p1 := z1.below hb5
  have p0s := p0.1
  have p0c := p0.2
  have p1s := p1.1
  have p1c := p1.2
  go_wp2_with fail
  refine (HI.out _).mono ?_
  rintro e w6 ⟨v2, rfl, o6, hb6⟩
  obtain ⟨A2, c2, rfl⟩ := o6.opn
  clear p0s p0c p1s p1c
  have q0 := p0.below hb6
  have q1 := p1.below hb6
  have q0s := q0.1
  have q0c := q0.2
  have q1s := q1.1
  have q1c := q1.2
  go_wp2_with fail
  refine (eq_frame _ _ N L _ (o6.sl.alloc _) (((((((o1.sl.alloc _).below hb2).alloc _).below hb3).grown hg4 (o2.sep o1 (by simp))).below hb5).below hb6 |>.alloc _) (by omega)).mono ?_
  rintro e w7 ⟨rfl, hb7⟩
  clear q0s q0c q1s q1c
  have r0 := (q0.alloc _).below hb7
  have r1 := (q1.alloc _).below hb7
  have r0s := r0.1
  have r0c := r0.2
  have r1s := r1.1
  have r1c := r1.2
  go_wp2_with fail
  refine (held_frame _ N L.length 1 _ ((((o4.sl.below hb5).below hb6).alloc _).below hb7) (by omega) (by omega)).mono ?_
  rintro e w8 ⟨rfl, hb8⟩
  have B2 : Below w.heap.size w w2 := (hb1.alloc (by have := hb1.size; omega) _).trans (hb2.mono (by have := hb1.size; simp; omega))
  have B3 : Below w.heap.size w w3 := (B2.alloc B2.size _).trans (hb3.mono (by have := B2.size; simp; omega))
  have B4 : Below w.heap.size w w4 := B3.grown hg4 B3.size (fun k hk => by have e1 := (o2'.block k hk).1; simp at e1; have := hb1.size; omega)
  have B5 := bthen B4 hb5
  have B6 := bthen B5 hb6
  have B7 : Below w.heap.size w w7 := (B6.alloc B6.size _).trans (hb7.mono (by have := B6.size; simp; omega))
  have B8 := bthen B7 hb8
  clear r0s r0c r1s r1c r0 r1 q0 q1 p0 p1 z0 z1 y0 y1 x0 o1 o2 o2' o4 o6 hg4
  have BB := Lib.hid B8
  clear B2 B3 B4 B5 B6 B7 B8 hb1 hb2 hb3 hb5 hb6 hb7 hb8
  go_wp2
  go_ret
  exact ⟨rfl, BB.out⟩
end Go.Proofs.Ytbmknlfpaggbnaa
