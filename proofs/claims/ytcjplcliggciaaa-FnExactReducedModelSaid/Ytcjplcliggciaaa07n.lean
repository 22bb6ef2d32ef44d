/- Contracts of chapter 7, of the program: a partition's add. -/
import Derived.Test.Ytcjplcliggciaaa07i
import Derived.Test.YtcjplcliggciaaaM07m
import Derived.Maps.OwnOps
namespace Go.Proofs.Ytcjplcliggciaaa
open Go.RowKit
set_option linter.unusedVariables false
set_option linter.unusedSimpArgs false
set_option maxRecDepth 100000 in
theorem impl_add_known (p M : Nat) (f : Nat → Option Nat) (c key x : Nat) (v : Value) (xs : List Int) (B : Nat) (w : World) (hp : Blk w p 206 #[.map (some M), v]) (hm : Mp w M f c) (ho : Ow cI 2 B w v xs)
    (hpM : p ≠ M) (hpB : p < B) (hMB : M < B) (hBw : B ≤ w.heap.size) (hk : key < 256) (hf : f key = some x) (hl : xs.length ≤ 1000) :
    Calls Try.prog 246 #[.pointer (some ⟨p, 0, none⟩), .int .i64 key] w
      fun e w' => e = .returned (.tuple #[]) ∧ ∃ v', Blk w' p 206 #[.map (some M), v'] ∧ Mp w' M f c ∧ Ow cI 2 B w' v' (xs ++ [(x : Int)]) ∧ ∀ L, L ≤ p → L ≤ M → L ≤ B → Below L w w' := by
  obtain ⟨A, cc, rfl⟩ := ho.opn
  obtain ⟨y, hrun⟩ := hm.ok hk
  rw [hf] at hrun
  have hget := hm.get hk hf
  have k0 := hp.cell
  have f0 := hp.frozen
  have l0 := hp.lt
  go_enter Try.func246, Try.ntmps246
  go_upto_region 3 with fail
  have hod := ho.below (Below.refl _ _).drew
  have hgd := (hm.drew).get hk hf
  have hpd : Blk w.drew p 206 #[.map (some M), .slice A xs.length cc] := hp
  have hl9 : (xs ++ [(x : Int)]).length = xs.length + 1 := by simp
  have hne : (some p : Option Nat) ≠ (Value.slice A xs.length cc).ownBlock := fun e => by have := (ho.block p e.symm).1; omega
  have hneM : (some M : Option Nat) ≠ (Value.slice A xs.length cc).ownBlock := fun e => by have := (ho.block M e.symm).1; omega
  have hBd : B ≤ w.drew.heap.size := hBw
  clear hrun
  go_region_law (refine step_one (K := cI) _ ty_int64 rfl _ _ rfl (B := B) (xs := xs) (by simp [Act.eval, Act.put]; done) hod (x : Int) rfl (by simp [Act.eval, Act.put]; done) (by omega) hBd ?_; intro v1 w5 ho1 hg1 hb1 hat1; obtain ⟨g9, c9, hv9, hg9, -⟩ := ho1.form (by simp); rw [hl9] at hv9; subst hv9; have hk9 := (hpd.alloc _).grown hg1 hne; have kc9 := hk9.cell; have kf9 := hk9.frozen; have kl9 := hk9.lt)
  all_goals
    have Y1 := Lib.hid (hk9.set_ 1 (.slice (some ⟨g9, 0, none⟩) (xs.length + 1) c9))
    have Y2 := Lib.hid ((((hm.drew).grown (World.grownBy_alloc _ _ none) (by simp)).grown hg1 hneM).setCell (p := ⟨p, 1, none⟩) (fun e => hpM e.symm) (.slice (some ⟨g9, 0, none⟩) (xs.length + 1) c9))
    have Y3 := Lib.hid (ho1.setBelow (p := ⟨p, 1, none⟩) hpB (.slice (some ⟨g9, 0, none⟩) (xs.length + 1) c9))
    have Y4 := Lib.hid (fun (L : Nat) (h1 : L ≤ p) (_ : L ≤ M) (h3 : L ≤ B) => (((Below.refl L w).drew).trans (hb1.mono h3)).setCell (p := ⟨p, 1, none⟩) h1 (.slice (some ⟨g9, 0, none⟩) (xs.length + 1) c9))
    clear ho1 hg1 hb1 hat1 hk9 kc9 kf9
    go_wp2
    refine ⟨rfl, .tuple #[], ?_, rfl, _, Y1.out, Y2.out, Y3.out, Y4.out⟩
    first | rfl | kernel_rfl | (simp [results, Try.results246, go_sem]; done)
end Go.Proofs.Ytcjplcliggciaaa
