/- A map from rows (uint64) to int64 and the partition of rows; written by gen04m.py from the texts of the int64 ones. -/
import Derived.Test.YtgdmfihnbbgcoaaSB
import Derived.Maps.OwnSet
import Derived.Maps.OwnOps
import Derived.Deep.RegionLaw
import Derived.StillTailTactics
namespace Go.Proofs.Ytgdmfihnbbgcoaa
open Go.RowKit Go.Maps
set_option linter.unusedVariables false
set_option linter.unusedSimpArgs false
/-- a row of uint64s -/
def cU : Cod Nat := ⟨1, fun x => [.int .u64 (x : Int)], fun _ => rfl, by decide, fun _ u hu => by simp at hu; subst hu; rfl⟩
theorem Sl.atU {w : World} {A : Option Addr} {n c : Nat} {xs : List Nat} (h : Sl cU w (.slice A n c) xs) {k : Nat} (hk : k < xs.length) :
    ∃ b o, A = some ⟨b, o, none⟩ ∧ b < w.heap.size ∧ w.cell? ⟨b, o + k, none⟩ = some (.int .u64 (xs[k] : Nat)) := by
  obtain ⟨b, o, hA, hb, hc⟩ := h.cell hk
  have := hc 0 (.int .u64 (xs[k] : Nat)) rfl
  exact ⟨b, o, hA, hb, by simpa [cU] using this⟩
theorem keyU : Keyed Try.prog 128 := int_keyed Try.underlying128
theorem zeroU (w : World) : (zeroValue 2).run Try.prog w = .ok (.int .i64 0) w := by kernel_rfl
theorem wf_i64U {a : Int} (h : -9223372036854775808 ≤ a ∧ a ≤ 9223372036854775807) : (Lit.int .i64 a).wf = true := WalkArith.wf_i64 (by omega)
theorem wf_u64U {a : Nat} (h : a < 18446744073709551616) : (Lit.int .u64 (a : Int)).wf = true := by
  show (decide (IntKind.u64.min ≤ (a : Int)) && decide ((a : Int) ≤ IntKind.u64.max)) = true
  rw [show IntKind.u64.min = 0 from rfl, show IntKind.u64.max = 18446744073709551615 from rfl, Bool.and_eq_true]
  exact ⟨decide_eq_true (by omega), decide_eq_true (by omega)⟩
theorem key_u64 {a : Nat} (h : a < 18446744073709551616) : keyOf Try.prog 128 (.int .u64 (a : Int)) = some (.int .u64 (a : Int)) := keyOf_int_mk Try.underlying128 (wf_u64U h)
/-- block M is a map of c entries that is f -/
def MpU (w : World) (M : Nat) (f : Nat → Option Nat) (c : Nat) : Prop :=
  ∃ (n : Nat) (D : DataW Unit), n ≤ c ∧ w.ownsMap Try.prog 128 (plainElem Try.prog 2) M n D ∧ Maps.size D = c ∧
    ∀ a : Nat, a < 18446744073709551616 → Maps.has D (.int .u64 (a : Int)) = (f a).isSome ∧ ∀ x, f a = some x → D.atKey (.int .u64 (a : Int)) (.lit (.int .i64 0)) = .lit (.int .i64 (x : Int))
theorem MpU.made (w : World) : MpU (w.alloc (.map #[] 0)) w.heap.size (fun _ => none) 0 :=
  ⟨0, .map [], Nat.le_refl _, World.ownsMap_made w _ _ _, rfl, fun a _ => ⟨rfl, fun x hx => by cases hx⟩⟩
theorem MpU.lt {w : World} {M : Nat} {f : Nat → Option Nat} {c : Nat} (h : MpU w M f c) : M < w.heap.size := by
  obtain ⟨n, D, -, h, -⟩ := h
  exact h.lt
theorem MpU.grown {w w' : World} {row : Option Nat} {M : Nat} {f : Nat → Option Nat} {c : Nat} (h : MpU w M f c) (hg : w.grownBy w' row) (hne : some M ≠ row) : MpU w' M f c := by
  obtain ⟨n, D, h1, h2, h3⟩ := h
  exact ⟨n, D, h1, h2.kept hg hne, h3⟩
theorem MpU.setCell {w : World} {M : Nat} {f : Nat → Option Nat} {c : Nat} (h : MpU w M f c) {p : Addr} (hp : M ≠ p.block) (u : Value) : MpU (w.setCell p u) M f c := by
  obtain ⟨n, D, h1, h2, h3⟩ := h
  exact ⟨n, D, h1, h2.setCell hp u, h3⟩
theorem MpU.drew {w : World} {M : Nat} {f : Nat → Option Nat} {c : Nat} (h : MpU w M f c) : MpU w.drew M f c := h
theorem MpU.ok {w : World} {M : Nat} {f : Nat → Option Nat} {c : Nat} (h : MpU w M f c) {a : Nat} (ha : a < 18446744073709551616) :
    ∃ x : Int, (Instr.lookup 176 (.map (some M)) (.int .u64 (a : Int)) true).run Try.prog w = .ok (.tuple #[.int .i64 x, .bool (f a).isSome]) w := by
  obtain ⟨n, D, h1, h2, h3, h4⟩ := h
  obtain ⟨v, ps, hrun, hv⟩ := h2.look_ok keyU Try.underlying176 (zeroU w) (plainElem_int Try.underlying2 (wf_i64U (by decide))) (key_u64 ha)
  obtain ⟨x, rfl, -, -⟩ := plainElem_int_inv Try.underlying2 hv
  exact ⟨x, by rw [← (h4 a ha).1]; exact hrun⟩
theorem MpU.get {w : World} {M : Nat} {f : Nat → Option Nat} {c : Nat} (h : MpU w M f c) {a x : Nat} (ha : a < 18446744073709551616) (hx : f a = some x) :
    (Instr.lookup 176 (.map (some M)) (.int .u64 (a : Int)) false).run Try.prog w = .ok (.int .i64 (x : Int)) w := by
  obtain ⟨n, D, h1, h2, h3, h4⟩ := h
  obtain ⟨y, hrun, hat, -⟩ := h2.lookup_int keyU Try.underlying176 Try.underlying2 (zeroU w) (key_u64 ha)
  rw [(h4 a ha).2 x hx] at hat
  have hat2 : (x : Int) = y := by simpa using hat
  rw [hat2]
  exact hrun
theorem MpU.len {w : World} {M : Nat} {f : Nat → Option Nat} {c : Nat} (h : MpU w M f c) (ty : TypeId) : (Builtin.len_ #[176] ty #[.map (some M)]).run Try.prog w = .ok (.int .i64 (c : Int)) w := by
  obtain ⟨n, D, h1, h2, h3, h4⟩ := h
  have := h2.len Try.underlying176 ty
  rwa [h3] at this
theorem MpU.put {w : World} {M : Nat} {f : Nat → Option Nat} {c : Nat} (h : MpU w M f c) (hc : c ≤ 1048576) {a : Nat} (ha : a < 18446744073709551616) (hn : f a = none) {x : Nat} (hx : x ≤ 1048576) :
    ∃ w', (Instr.mapUpdate 176 (.map (some M)) (.int .u64 (a : Int)) (.int .i64 (x : Int))).run Try.prog w = .ok () w' ∧ MpU w' M (fun b => if b = a then some x else f b) (c + 1) ∧ w.grownBy w' (some M) := by
  obtain ⟨n, D, h1, h2, h3, h4⟩ := h
  obtain ⟨w', hrun, hown, hg⟩ := h2.update keyU Try.underlying176 (by unfold maxLen; omega) (key_u64 ha) (plainElem_int Try.underlying2 (wf_i64U (a := (x : Int)) (by omega)))
  refine ⟨w', hrun, ⟨n + 1, _, by omega, hown, ?_, fun b hb => ?_⟩, hg⟩
  · rw [size_put (h2.tidy keyU), (h4 a ha).1, hn, h3]; rfl
  · by_cases he : b = a
    · subst he
      refine ⟨by rw [has_put_same h2.isMap (by trivial)]; simp, fun y hy => ?_⟩
      dsimp only at hy
      rw [if_pos rfl] at hy
      have hy2 : x = y := Option.some.inj hy
      rw [atKey_put_same h2.isMap (by trivial), hy2]
    · have hne : Lit.int .u64 (b : Int) ≠ Lit.int .u64 (a : Int) := fun e => by injection e with _ e; exact he (by omega)
      refine ⟨by rw [has_put_other hne, (h4 b hb).1]; dsimp only; rw [if_neg he], fun y hy => ?_⟩
      dsimp only at hy
      rw [if_neg he] at hy
      rw [atKey_put_other hne]
      exact (h4 b hb).2 y hy
set_option maxRecDepth 100000 in
theorem impl_addU_known (p M : Nat) (f : Nat → Option Nat) (c key x : Nat) (v : Value) (xs : List Int) (B : Nat) (w : World) (hp : Blk w p 178 #[.map (some M), v]) (hm : MpU w M f c) (ho : Ow cI 2 B w v xs)
    (hpM : p ≠ M) (hpB : p < B) (hMB : M < B) (hBw : B ≤ w.heap.size) (hk : key < 18446744073709551616) (hf : f key = some x) (hl : xs.length ≤ 1048577) :
    Calls Try.prog 167 #[.pointer (some ⟨p, 0, none⟩), .int .u64 key] w
      fun e w' => e = .returned (.tuple #[]) ∧ ∃ v', Blk w' p 178 #[.map (some M), v'] ∧ MpU w' M f c ∧ Ow cI 2 B w' v' (xs ++ [(x : Int)]) ∧ ∀ L, L ≤ p → L ≤ M → L ≤ B → Below L w w' := by
  obtain ⟨A, cc, rfl⟩ := ho.opn
  obtain ⟨y, hrun⟩ := hm.ok hk
  rw [hf] at hrun
  have hget := hm.get hk hf
  have k0 := hp.cell
  have f0 := hp.frozen
  have l0 := hp.lt
  go_enter Try.func167, Try.ntmps167
  go_upto_region 3 with fail
  have hod := ho.below (Below.refl _ _).drew
  have hgd := (hm.drew).get hk hf
  have hpd : Blk w.drew p 178 #[.map (some M), .slice A xs.length cc] := hp
  have hl9 : (xs ++ [(x : Int)]).length = xs.length + 1 := by simp
  have hne : (some p : Option Nat) ≠ (Value.slice A xs.length cc).ownBlock := fun e => by have := (ho.block p e.symm).1; omega
  have hneM : (some M : Option Nat) ≠ (Value.slice A xs.length cc).ownBlock := fun e => by have := (ho.block M e.symm).1; omega
  have hBd : B ≤ w.drew.heap.size := hBw
  clear hrun
  go_region_law (refine step_one (K := cI) _ ty_int64 rfl _ _ rfl (B := B) (xs := xs) (by simp [Act.eval, Act.put]; done) hod (x : Int) rfl (by simp [Act.eval, Act.put]; done) (by omega) hBd ?_; intro v1 w5 ho1 hg1 hb1 hat1; obtain ⟨g9, c9, hv9, hg9, -⟩ := ho1.form (by simp); rw [hl9] at hv9; subst hv9; have hk9 := (hpd.alloc _).grown hg1 hne; have kc9 := hk9.cell; have kf9 := hk9.frozen; have kl9 := hk9.lt)
  all_goals
    have Y1 := Lib.hid (hk9.set_ 1 (.slice (some ⟨g9, 0, none⟩) (xs.length + 1) c9))
    have Y2 := Lib.hid ((((hm.drew).grown (World.grownBy_alloc _ _ none) (by simp)).grown hg1 hneM).setCell (p := ⟨p, 1, none⟩) (fun e => hpM e.symm) (.slice (some ⟨g9, 0, none⟩) (xs.length + 1) c9))
    have Y3 := Lib.hid (ho1.setBelow (p := ⟨p, 1, none⟩) hpB (.slice (some ⟨g9, 0, none⟩) (xs.length + 1) c9))
    have Y4 := Lib.hid (fun (L : Nat) (h1 : L ≤ p) (_ : L ≤ M) (h3 : L ≤ B) => (((Below.refl L w).drew).trans (hb1.mono h3)).setCell (p := ⟨p, 1, none⟩) h1 (.slice (some ⟨g9, 0, none⟩) (xs.length + 1) c9))
    clear ho1 hg1 hb1 hat1 hk9 kc9 kf9
    go_wp2
    refine ⟨rfl, .tuple #[], ?_, rfl, _, Y1.out, Y2.out, Y3.out, Y4.out⟩
    first | rfl | kernel_rfl | (simp [results, Try.results167, go_sem]; done)
set_option maxRecDepth 100000 in
theorem impl_addU_new (p M : Nat) (f : Nat → Option Nat) (c key : Nat) (v : Value) (xs : List Int) (B : Nat) (w : World) (hp : Blk w p 178 #[.map (some M), v]) (hm : MpU w M f c) (ho : Ow cI 2 B w v xs)
    (hpM : p ≠ M) (hpB : p < B) (hMB : M < B) (hBw : B ≤ w.heap.size) (hk : key < 18446744073709551616) (hf : f key = none) (hc : c ≤ 1048576) (hl : xs.length ≤ 1048577) :
    Calls Try.prog 167 #[.pointer (some ⟨p, 0, none⟩), .int .u64 key] w
      fun e w' => e = .returned (.tuple #[]) ∧ ∃ v', Blk w' p 178 #[.map (some M), v'] ∧ MpU w' M (fun b => if b = key then some c else f b) (c + 1) ∧ Ow cI 2 B w' v' (xs ++ [(c : Int)]) ∧ ∀ L, L ≤ p → L ≤ M → L ≤ B → Below L w w' := by
  obtain ⟨A, cc, rfl⟩ := ho.opn
  obtain ⟨y, hrun⟩ := hm.ok hk
  rw [hf] at hrun
  have k0 := hp.cell
  have f0 := hp.frozen
  have l0 := hp.lt
  obtain ⟨w2, hrun2, hm2, hg2⟩ := (hm.drew).put hc hk hf (x := c) (by omega)
  have hlen := fun ty => (hm.drew).len ty
  go_enter Try.func167, Try.ntmps167
  go_upto_region 2 with fail
  go_still_tail 10, (by kernel_rfl)
  go_upto_region 3 with fail
  have hz2 : w.heap.size ≤ w2.heap.size := hg2.size
  have hp2 : Blk w2 p 178 #[.map (some M), .slice A xs.length cc] := Blk.grown (w := w.drew) hp hg2 (fun e => hpM (by injection e))
  have ho2 := ((ho.below (Below.refl _ _).drew).ob.keep (Keep.of_grown hg2 (fun k hk => by injection hk with e; subst e; exact ⟨Nat.le_refl _, Nat.lt_succ_self _⟩)) (.inr (by omega))).1
  have HB2 := Lib.hid (fun (L : Nat) (h2 : L ≤ M) => ((Below.refl L w).drew).grown hg2 (by have := hm.lt; show L ≤ w.heap.size; omega) (fun k hk => by injection hk with e; omega))
  clear k0 f0 l0 hrun2 hlen
  have k0 := hp2.cell
  have f0 := hp2.frozen
  have l0 := hp2.lt
  have hod := ho2.below (Below.refl _ _).drew
  have hgd := (hm2.drew).get hk (x := c) (by simp)
  have hpd : Blk w2.drew p 178 #[.map (some M), .slice A xs.length cc] := hp2
  have hl9 : (xs ++ [(c : Int)]).length = xs.length + 1 := by simp
  have hne : (some p : Option Nat) ≠ (Value.slice A xs.length cc).ownBlock := fun e => by have := (ho2.block p e.symm).1; omega
  have hneM : (some M : Option Nat) ≠ (Value.slice A xs.length cc).ownBlock := fun e => by have := (ho2.block M e.symm).1; omega
  have hBd : B ≤ w2.drew.heap.size := Nat.le_trans hBw hz2
  clear hrun
  go_region_law (refine step_one (K := cI) _ ty_int64 rfl _ _ rfl (B := B) (xs := xs) (by simp [Act.eval, Act.put]; done) hod (c : Int) rfl (by simp [Act.eval, Act.put]; done) (by omega) hBd ?_; intro v1 w5 ho1 hg1 hb1 hat1; obtain ⟨g9, c9, hv9, hg9, -⟩ := ho1.form (by simp); rw [hl9] at hv9; subst hv9; have hk9 := (hpd.alloc _).grown hg1 hne; have kc9 := hk9.cell; have kf9 := hk9.frozen; have kl9 := hk9.lt)
  all_goals
    have Y1 := Lib.hid (hk9.set_ 1 (.slice (some ⟨g9, 0, none⟩) (xs.length + 1) c9))
    have Y2 := Lib.hid ((((hm2.drew).grown (World.grownBy_alloc _ _ none) (by simp)).grown hg1 hneM).setCell (p := ⟨p, 1, none⟩) (fun e => hpM e.symm) (.slice (some ⟨g9, 0, none⟩) (xs.length + 1) c9))
    have Y3 := Lib.hid (ho1.setBelow (p := ⟨p, 1, none⟩) hpB (.slice (some ⟨g9, 0, none⟩) (xs.length + 1) c9))
    have Y4 := Lib.hid (fun (L : Nat) (h1 : L ≤ p) (h2 : L ≤ M) (h3 : L ≤ B) => ((((HB2.out L h2)).drew).trans (hb1.mono h3)).setCell (p := ⟨p, 1, none⟩) h1 (.slice (some ⟨g9, 0, none⟩) (xs.length + 1) c9))
    clear ho1 hg1 hb1 hat1 hk9 kc9 kf9
    go_wp2
    refine ⟨rfl, .tuple #[], ?_, rfl, _, Y1.out, Y2.out, Y3.out, Y4.out⟩
    first | rfl | kernel_rfl | (simp [results, Try.results167, go_sem]; done)
set_option maxRecDepth 100000 in
theorem impl_dividedU (v : Value) (ks : List Nat) (w : World) (h : Sl cU w v ks) (hk : ∀ i, ks.getD i 0 < 18446744073709551616) (hl : ks.length ≤ 1048576) :
    Calls Try.prog 95 #[v] w fun e w' => ∃ u, e = .returned u ∧ Ow cI 2 w.heap.size w' u (li (dvd (fun y => ks.getD y 0) ks.length).1) ∧ Below w.heap.size w w' := by
  obtain ⟨A, c, rfl⟩ := h.opn
  have hmm := @run_makeMap Try.prog
  go_enter Try.func95, Try.ntmps95
  go_upto_region 2 with fail
  have HM : Hid (MpU ((w.alloc (.map #[] 0)).alloc (.cells #[.map (some w.heap.size), .slice none 0 0] 178)) w.heap.size (fst (fun y => ks.getD y 0) 0) 0) := Lib.hid ((MpU.made w).grown (World.grownBy_alloc _ _ none) (by simp))
  have HP : Hid (Blk ((w.alloc (.map #[] 0)).alloc (.cells #[.map (some w.heap.size), .slice none 0 0] 178)) (w.heap.size + 1) 178 #[.map (some w.heap.size), .slice none 0 0]) := Lib.hid (Blk.new' (w.alloc (.map #[] 0)) _ _ (by simp))
  have HB : Hid (Below w.heap.size w ((w.alloc (.map #[] 0)).alloc (.cells #[.map (some w.heap.size), .slice none 0 0] 178))) := Lib.hid (((Below.refl _ _).alloc (Nat.le_refl _) _).alloc (by simp) _)
  have HZ : Hid (((w.alloc (.map #[] 0)).alloc (.cells #[.map (some w.heap.size), .slice none 0 0] 178)).heap.size = w.heap.size + 2) := Lib.hid (by simp)
  have HK := Lib.hid hk
  have HS := Lib.hid h
  have HQ := Lib.hid hmm
  clear hmm hk h
  generalize World.alloc (w.alloc (.map #[] 0)) _ = W at *
  go_wp2
  go_loopw [10] (fun i wr => ∃ j : Nat, j ≤ ks.length ∧ i = .int .i64 j ∧ Below w.heap.size w wr ∧ w.heap.size + 2 ≤ wr.heap.size ∧ MpU wr w.heap.size (fst (fun y => ks.getD y 0) j) (dvd (fun y => ks.getD y 0) j).2 ∧
      ∃ v', Blk wr (w.heap.size + 1) 178 #[.map (some w.heap.size), v'] ∧ Ow cI 2 (w.heap.size + 2) wr v' (li (dvd (fun y => ks.getD y 0) j).1)) (fun i _ => ks.length - (intOf i).toNat)
  case atStart => exact ⟨0, Nat.zero_le _, rfl, HB.out, by rw [HZ.out]; exact Nat.le_refl _, HM.out, _, HP.out, Ow.nil _ _⟩
  case round =>
    obtain ⟨j, hj, rfl, hb, hz, hm, v', hp, ho⟩ := hrel
    have HBx := Lib.hid hb
    have HMx := Lib.hid hm
    have HPx := Lib.hid hp
    have HOx := Lib.hid ho
    by_cases hlt : j < ks.length
    · obtain ⟨b, o, rfl, hbl, hc0⟩ := (HS.out.below hb).atU hlt
      rw [show ks[j]'hlt = ks.getD j 0 by simp [List.getD_eq_getElem?_getD, hlt]] at hc0
      have hk := HK.out j
      have hcnt := dvd_count (fun y => ks.getD y 0) j
      have hln : (li (dvd (fun y => ks.getD y 0) j).1).length ≤ 1048577 := by rw [li_length, dvd_length]; omega
      have C : Hid (Calls Try.prog 167 #[.pointer (some ⟨w.heap.size + 1, 0, none⟩), .int .u64 (ks.getD j 0 : Nat)] wr fun e w' => e = .returned (.tuple #[]) ∧ Below w.heap.size wr w' ∧ w.heap.size + 2 ≤ w'.heap.size ∧ MpU w' w.heap.size (fst (fun y => ks.getD y 0) (j + 1)) (dvd (fun y => ks.getD y 0) (j + 1)).2 ∧
          ∃ v', Blk w' (w.heap.size + 1) 178 #[.map (some w.heap.size), v'] ∧ Ow cI 2 (w.heap.size + 2) w' v' (li (dvd (fun y => ks.getD y 0) (j + 1)).1)) := by
        refine Lib.hid ?_
        cases hf : (List.range j).find? (fun z => decide (ks.getD z 0 = ks.getD j 0)) with
        | some y =>
          have e1 : dvd (fun y => ks.getD y 0) (j + 1) = ((dvd (fun y => ks.getD y 0) j).1 ++ [(dvd (fun y => ks.getD y 0) j).1.getD y 0], (dvd (fun y => ks.getD y 0) j).2) := by rw [dvd, hf]
          have e2 := fst_step_known (key := fun y => ks.getD y 0) hf
          refine (impl_addU_known (w.heap.size + 1) w.heap.size _ _ _ _ _ _ (w.heap.size + 2) wr HPx.out HMx.out HOx.out (by omega) (by omega) (by omega) hz hk (fst_known (key := fun y => ks.getD y 0) hf) hln).mono fun e w' ⟨he, v', h1, h2, h3, h4⟩ => ?_
          have h5 := h4 w.heap.size (by omega) (Nat.le_refl _) (by omega)
          refine ⟨he, h5, Nat.le_trans hz h5.size, ?_, v', h1, ?_⟩
          · rw [e1, e2]; exact h2
          · rw [e1]; rw [li_append]; exact h3
        | none =>
          have e1 : dvd (fun y => ks.getD y 0) (j + 1) = ((dvd (fun y => ks.getD y 0) j).1 ++ [(dvd (fun y => ks.getD y 0) j).2], (dvd (fun y => ks.getD y 0) j).2 + 1) := by rw [dvd, hf]
          have e2 := fst_step_new (key := fun y => ks.getD y 0) hf
          refine (impl_addU_new (w.heap.size + 1) w.heap.size _ _ _ _ _ (w.heap.size + 2) wr HPx.out HMx.out HOx.out (by omega) (by omega) (by omega) hz hk (fst_new (key := fun y => ks.getD y 0) hf) (by omega) hln).mono fun e w' ⟨he, v', h1, h2, h3, h4⟩ => ?_
          have h5 := h4 w.heap.size (by omega) (Nat.le_refl _) (by omega)
          refine ⟨he, h5, Nat.le_trans hz h5.size, ?_, v', h1, ?_⟩
          · rw [e1, e2]; exact h2
          · rw [e1]; rw [li_append]; exact h3
      clear hb hm hp ho hln hcnt
      obtain ⟨q, hq⟩ : ∃ q, ks.getD j 0 = q := ⟨_, rfl⟩
      rw [hq] at hc0 C
      clear hq hk
      go_wp2_with fail
      refine C.out.mono ?_
      rintro e w1 ⟨rfl, h5, hz1, hm1, v1, hp1, ho1⟩
      have HM1 := Lib.hid hm1
      have HP1 := Lib.hid hp1
      have HO1 := Lib.hid ho1
      have HB1 := Lib.hid h5
      clear hm1 hp1 ho1 h5
      go_wp2
      go_roundw
      case rel => exact ⟨j + 1, by omega, by go_num, HBx.out.trans HB1.out, hz1, HM1.out, _, HP1.out, HO1.out⟩
      case measure => simp [intOf]; omega
    · obtain rfl : j = ks.length := by omega
      have k0 := hp.cell
      have l0 := hp.lt
      obtain ⟨Av, cv, rfl⟩ := ho.opn
      clear hb hm hp ho
      go_wp2
      go_ret
      exact ⟨_, rfl, HOx.out.mono (by omega), HBx.out⟩
end Go.Proofs.Ytgdmfihnbbgcoaa
