/- Joined of several texts: M07m, AN, 07j, 07l. -/
import Derived.Test.YtaigiopoogbbbaaGreatY01
import Derived.Test.YtaigiopoogbbbaaGreatY47
import Derived.Test.YtaigiopoogbbbaaGreatY46
import Derived.Maps.OwnSet
import Derived.Maps.OwnOps
namespace Go.Proofs.YtaigiopoogbbbaaGreat
open Go.RowKit
set_option linter.unusedVariables false
set_option linter.unusedSimpArgs false
/- A map from int64 to int64 that the call makes, in words of a finite function: what the walk of divided wants. -/
open Go.RowKit Go.Maps
theorem keyI : Keyed Tryz.prog 2 := int_keyed Tryz.underlying2
theorem zeroI (w : World) : (zeroValue 2).run Tryz.prog w = .ok (.int .i64 0) w := by kernel_rfl
theorem wf_i64 {a : Int} (h : -9223372036854775808 ≤ a ∧ a ≤ 9223372036854775807) : (Lit.int .i64 a).wf = true := WalkArith.wf_i64 (by omega)
theorem key_i64 {a : Nat} (h : a < 256) : keyOf Tryz.prog 2 (.int .i64 (a : Int)) = some (.int .i64 (a : Int)) := keyOf_int_mk Tryz.underlying2 (wf_i64 (by omega))
/-- block M is a map of c entries that is f -/
def Mp (w : World) (M : Nat) (f : Nat → Option Nat) (c : Nat) : Prop :=
  ∃ (n : Nat) (D : DataW Unit), n ≤ c ∧ w.ownsMap Tryz.prog 2 (plainElem Tryz.prog 2) M n D ∧ Maps.size D = c ∧
    ∀ a : Nat, a < 256 → Maps.has D (.int .i64 (a : Int)) = (f a).isSome ∧ ∀ x, f a = some x → D.atKey (.int .i64 (a : Int)) (.lit (.int .i64 0)) = .lit (.int .i64 (x : Int))
theorem Mp.made (w : World) : Mp (w.alloc (.map #[] 0)) w.heap.size (fun _ => none) 0 :=
  ⟨0, .map [], Nat.le_refl _, World.ownsMap_made w _ _ _, rfl, fun a _ => ⟨rfl, fun x hx => by cases hx⟩⟩
theorem Mp.lt {w : World} {M : Nat} {f : Nat → Option Nat} {c : Nat} (h : Mp w M f c) : M < w.heap.size := by
  obtain ⟨n, D, -, h, -⟩ := h
  exact h.lt
theorem Mp.grown {w w' : World} {row : Option Nat} {M : Nat} {f : Nat → Option Nat} {c : Nat} (h : Mp w M f c) (hg : w.grownBy w' row) (hne : some M ≠ row) : Mp w' M f c := by
  obtain ⟨n, D, h1, h2, h3⟩ := h
  exact ⟨n, D, h1, h2.kept hg hne, h3⟩
theorem Mp.setCell {w : World} {M : Nat} {f : Nat → Option Nat} {c : Nat} (h : Mp w M f c) {p : Addr} (hp : M ≠ p.block) (u : Value) : Mp (w.setCell p u) M f c := by
  obtain ⟨n, D, h1, h2, h3⟩ := h
  exact ⟨n, D, h1, h2.setCell hp u, h3⟩
theorem Mp.drew {w : World} {M : Nat} {f : Nat → Option Nat} {c : Nat} (h : Mp w M f c) : Mp w.drew M f c := h
theorem Mp.ok {w : World} {M : Nat} {f : Nat → Option Nat} {c : Nat} (h : Mp w M f c) {a : Nat} (ha : a < 256) :
    ∃ x : Int, (Instr.lookup 63 (.map (some M)) (.int .i64 (a : Int)) true).run Tryz.prog w = .ok (.tuple #[.int .i64 x, .bool (f a).isSome]) w := by
  obtain ⟨n, D, h1, h2, h3, h4⟩ := h
  obtain ⟨v, ps, hrun, hv⟩ := h2.look_ok keyI Tryz.underlying63 (zeroI w) (plainElem_int Tryz.underlying2 (wf_i64 (by decide))) (key_i64 ha)
  obtain ⟨x, rfl, -, -⟩ := plainElem_int_inv Tryz.underlying2 hv
  exact ⟨x, by rw [← (h4 a ha).1]; exact hrun⟩
theorem Mp.get {w : World} {M : Nat} {f : Nat → Option Nat} {c : Nat} (h : Mp w M f c) {a x : Nat} (ha : a < 256) (hx : f a = some x) :
    (Instr.lookup 63 (.map (some M)) (.int .i64 (a : Int)) false).run Tryz.prog w = .ok (.int .i64 (x : Int)) w := by
  obtain ⟨n, D, h1, h2, h3, h4⟩ := h
  obtain ⟨y, hrun, hat, -⟩ := h2.lookup_int keyI Tryz.underlying63 Tryz.underlying2 (zeroI w) (key_i64 ha)
  rw [(h4 a ha).2 x hx] at hat
  have hat2 : (x : Int) = y := by simpa using hat
  rw [hat2]
  exact hrun
theorem Mp.len {w : World} {M : Nat} {f : Nat → Option Nat} {c : Nat} (h : Mp w M f c) (ty : TypeId) : (Builtin.len_ #[63] ty #[.map (some M)]).run Tryz.prog w = .ok (.int .i64 (c : Int)) w := by
  obtain ⟨n, D, h1, h2, h3, h4⟩ := h
  have := h2.len Tryz.underlying63 ty
  rwa [h3] at this
theorem Mp.put {w : World} {M : Nat} {f : Nat → Option Nat} {c : Nat} (h : Mp w M f c) (hc : c ≤ 255) {a : Nat} (ha : a < 256) (hn : f a = none) {x : Nat} (hx : x < 256) :
    ∃ w', (Instr.mapUpdate 63 (.map (some M)) (.int .i64 (a : Int)) (.int .i64 (x : Int))).run Tryz.prog w = .ok () w' ∧ Mp w' M (fun b => if b = a then some x else f b) (c + 1) ∧ w.grownBy w' (some M) := by
  obtain ⟨n, D, h1, h2, h3, h4⟩ := h
  obtain ⟨w', hrun, hown, hg⟩ := h2.update keyI Tryz.underlying63 (by unfold maxLen; omega) (key_i64 ha) (plainElem_int Tryz.underlying2 (wf_i64 (a := (x : Int)) (by omega)))
  refine ⟨w', hrun, ⟨n + 1, _, by omega, hown, ?_, fun b hb => ?_⟩, hg⟩
  · rw [size_put (h2.tidy keyI), (h4 a ha).1, hn, h3]; rfl
  · by_cases he : b = a
    · subst he
      refine ⟨by rw [has_put_same h2.isMap (by trivial)]; simp, fun y hy => ?_⟩
      dsimp only at hy
      rw [if_pos rfl] at hy
      have hy2 : x = y := Option.some.inj hy
      rw [atKey_put_same h2.isMap (by trivial), hy2]
    · have hne : Lit.int .i64 (b : Int) ≠ Lit.int .i64 (a : Int) := fun e => by injection e with _ e; exact he (by omega)
      refine ⟨by rw [has_put_other hne, (h4 b hb).1]; dsimp only; rw [if_neg he], fun y hy => ?_⟩
      dsimp only at hy
      rw [if_neg he] at hy
      rw [atKey_put_other hne]
      exact (h4 b hb).2 y hy
/- Joined of several texts: 07n, 07o, 07p. -/
/- Contracts of chapter 7, of the program: a partition's add. -/
set_option maxRecDepth 100000 in
theorem impl_add_known (p M : Nat) (f : Nat → Option Nat) (c key x : Nat) (v : Value) (xs : List Int) (B : Nat) (w : World) (hp : Blk w p 65 #[.map (some M), v]) (hm : Mp w M f c) (ho : Ow cI 2 B w v xs)
    (hpM : p ≠ M) (hpB : p < B) (hMB : M < B) (hBw : B ≤ w.heap.size) (hk : key < 256) (hf : f key = some x) (hl : xs.length ≤ 1000) :
    Calls Tryz.prog 54 #[.pointer (some ⟨p, 0, none⟩), .int .i64 key] w
      fun e w' => e = .returned (.tuple #[]) ∧ ∃ v', Blk w' p 65 #[.map (some M), v'] ∧ Mp w' M f c ∧ Ow cI 2 B w' v' (xs ++ [(x : Int)]) ∧ ∀ L, L ≤ p → L ≤ M → L ≤ B → Below L w w' := by
  obtain ⟨A, cc, rfl⟩ := ho.opn
  obtain ⟨y, hrun⟩ := hm.ok hk
  rw [hf] at hrun
  have hget := hm.get hk hf
  have k0 := hp.cell
  have f0 := hp.frozen
  have l0 := hp.lt
  go_enter Tryz.func54, Tryz.ntmps54
  go_upto_region 3 with fail
  have hod := ho.below (Below.refl _ _).drew
  have hgd := (hm.drew).get hk hf
  have hpd : Blk w.drew p 65 #[.map (some M), .slice A xs.length cc] := hp
  have hl9 : (xs ++ [(x : Int)]).length = xs.length + 1 := by simp
  have hne : (some p : Option Nat) ≠ (Value.slice A xs.length cc).ownBlock := fun e => by have := (ho.block p e.symm).1; omega
  have hneM : (some M : Option Nat) ≠ (Value.slice A xs.length cc).ownBlock := fun e => by have := (ho.block M e.symm).1; omega
  have hBd : B ≤ w.drew.heap.size := hBw
  clear hrun
  go_region_law (refine step_one (K := cI) _ ty_int64 rfl _ _ rfl (B := B) (xs := xs) (by simp [Act.eval, Act.put]; done) hod (x : Int) rfl (by simp [Act.eval, Act.put]; done) (by omega) hBd ?_; intro v1 w5 ho1 hg1 hb1 hat1; obtain ⟨g9, c9, hv9, hg9, -⟩ := ho1.form (by simp); rw [hl9] at hv9; subst hv9; have hk9 := (hpd.alloc _).grown hg1 hne; have kc9 := hk9.cell; have kf9 := hk9.frozen; have kl9 := hk9.lt)
  all_goals
    have Y1 := Lib.hid (hk9.set_ 1 (.slice (some ⟨g9, 0, none⟩) (xs.length + 1) c9))
    have Y2 := Lib.hid ((((hm.drew).grown (World.grownBy_alloc _ _ none) (by simp)).grown hg1 hneM).setCell (p := ⟨p, 1, none⟩) (fun e => hpM e.symm) (.slice (some ⟨g9, 0, none⟩) (xs.length + 1) c9))
    have Y3 := Lib.hid (ho1.setBelow (p := ⟨p, 1, none⟩) hpB (.slice (some ⟨g9, 0, none⟩) (xs.length + 1) c9))
    have Y4 := Lib.hid (fun (L : Nat) (h1 : L ≤ p) (_ : L ≤ M) (h3 : L ≤ B) => (((Below.refl L w).drew).trans (hb1.mono h3)).setCell (p := ⟨p, 1, none⟩) h1 (.slice (some ⟨g9, 0, none⟩) (xs.length + 1) c9))
    clear ho1 hg1 hb1 hat1 hk9 kc9 kf9
    go_wp2
    refine ⟨rfl, .tuple #[], ?_, rfl, _, Y1.out, Y2.out, Y3.out, Y4.out⟩
    first | rfl | kernel_rfl | (simp [results, Tryz.results54, go_sem]; done)
/- Contracts of chapter 7, of the program: a partition's add, at a new key. -/
set_option maxRecDepth 100000 in
theorem impl_add_new (p M : Nat) (f : Nat → Option Nat) (c key : Nat) (v : Value) (xs : List Int) (B : Nat) (w : World) (hp : Blk w p 65 #[.map (some M), v]) (hm : Mp w M f c) (ho : Ow cI 2 B w v xs)
    (hpM : p ≠ M) (hpB : p < B) (hMB : M < B) (hBw : B ≤ w.heap.size) (hk : key < 256) (hf : f key = none) (hc : c ≤ 255) (hl : xs.length ≤ 1000) :
    Calls Tryz.prog 54 #[.pointer (some ⟨p, 0, none⟩), .int .i64 key] w
      fun e w' => e = .returned (.tuple #[]) ∧ ∃ v', Blk w' p 65 #[.map (some M), v'] ∧ Mp w' M (fun b => if b = key then some c else f b) (c + 1) ∧ Ow cI 2 B w' v' (xs ++ [(c : Int)]) ∧ ∀ L, L ≤ p → L ≤ M → L ≤ B → Below L w w' := by
  obtain ⟨A, cc, rfl⟩ := ho.opn
  obtain ⟨y, hrun⟩ := hm.ok hk
  rw [hf] at hrun
  have k0 := hp.cell
  have f0 := hp.frozen
  have l0 := hp.lt
  obtain ⟨w2, hrun2, hm2, hg2⟩ := (hm.drew).put hc hk hf (x := c) (by omega)
  have hlen := fun ty => (hm.drew).len ty
  go_enter Tryz.func54, Tryz.ntmps54
  go_upto_region 2 with fail
  go_still_tail 10, (by kernel_rfl)
  go_upto_region 3 with fail
  have hz2 : w.heap.size ≤ w2.heap.size := hg2.size
  have hp2 : Blk w2 p 65 #[.map (some M), .slice A xs.length cc] := Blk.grown (w := w.drew) hp hg2 (fun e => hpM (by injection e))
  have ho2 := ((ho.below (Below.refl _ _).drew).ob.keep (Keep.of_grown hg2 (fun k hk => by injection hk with e; subst e; exact ⟨Nat.le_refl _, Nat.lt_succ_self _⟩)) (.inr (by omega))).1
  have HB2 := Lib.hid (fun (L : Nat) (h2 : L ≤ M) => ((Below.refl L w).drew).grown hg2 (by have := hm.lt; show L ≤ w.heap.size; omega) (fun k hk => by injection hk with e; omega))
  clear k0 f0 l0 hrun2 hlen
  have k0 := hp2.cell
  have f0 := hp2.frozen
  have l0 := hp2.lt
  have hod := ho2.below (Below.refl _ _).drew
  have hgd := (hm2.drew).get hk (x := c) (by simp)
  have hpd : Blk w2.drew p 65 #[.map (some M), .slice A xs.length cc] := hp2
  have hl9 : (xs ++ [(c : Int)]).length = xs.length + 1 := by simp
  have hne : (some p : Option Nat) ≠ (Value.slice A xs.length cc).ownBlock := fun e => by have := (ho2.block p e.symm).1; omega
  have hneM : (some M : Option Nat) ≠ (Value.slice A xs.length cc).ownBlock := fun e => by have := (ho2.block M e.symm).1; omega
  have hBd : B ≤ w2.drew.heap.size := Nat.le_trans hBw hz2
  clear hrun
  go_region_law (refine step_one (K := cI) _ ty_int64 rfl _ _ rfl (B := B) (xs := xs) (by simp [Act.eval, Act.put]; done) hod (c : Int) rfl (by simp [Act.eval, Act.put]; done) (by omega) hBd ?_; intro v1 w5 ho1 hg1 hb1 hat1; obtain ⟨g9, c9, hv9, hg9, -⟩ := ho1.form (by simp); rw [hl9] at hv9; subst hv9; have hk9 := (hpd.alloc _).grown hg1 hne; have kc9 := hk9.cell; have kf9 := hk9.frozen; have kl9 := hk9.lt)
  all_goals
    have Y1 := Lib.hid (hk9.set_ 1 (.slice (some ⟨g9, 0, none⟩) (xs.length + 1) c9))
    have Y2 := Lib.hid ((((hm2.drew).grown (World.grownBy_alloc _ _ none) (by simp)).grown hg1 hneM).setCell (p := ⟨p, 1, none⟩) (fun e => hpM e.symm) (.slice (some ⟨g9, 0, none⟩) (xs.length + 1) c9))
    have Y3 := Lib.hid (ho1.setBelow (p := ⟨p, 1, none⟩) hpB (.slice (some ⟨g9, 0, none⟩) (xs.length + 1) c9))
    have Y4 := Lib.hid (fun (L : Nat) (h1 : L ≤ p) (h2 : L ≤ M) (h3 : L ≤ B) => ((((HB2.out L h2)).drew).trans (hb1.mono h3)).setCell (p := ⟨p, 1, none⟩) h1 (.slice (some ⟨g9, 0, none⟩) (xs.length + 1) c9))
    clear ho1 hg1 hb1 hat1 hk9 kc9 kf9
    go_wp2
    refine ⟨rfl, .tuple #[], ?_, rfl, _, Y1.out, Y2.out, Y3.out, Y4.out⟩
    first | rfl | kernel_rfl | (simp [results, Tryz.results54, go_sem]; done)
/- Contracts of chapter 7, of the program: divided. -/
set_option maxRecDepth 100000 in
theorem impl_divided (v : Value) (ks : List Nat) (w : World) (h : Sl cI w v (li ks)) (hk : ∀ i, ks.getD i 0 < 256) (hl : ks.length ≤ 200) :
    Calls Tryz.prog 35 #[v] w fun e w' => ∃ u, e = .returned u ∧ Ow cI 2 w.heap.size w' u (li (dvd (fun y => ks.getD y 0) ks.length).1) ∧ Below w.heap.size w w' := by
  obtain ⟨A, c, rfl⟩ := h.opn
  have hmm := @run_makeMap Tryz.prog
  go_enter Tryz.func35, Tryz.ntmps35
  go_upto_region 2 with fail
  have HM : Hid (Mp ((w.alloc (.map #[] 0)).alloc (.cells #[.map (some w.heap.size), .slice none 0 0] 65)) w.heap.size (fst (fun y => ks.getD y 0) 0) 0) := Lib.hid ((Mp.made w).grown (World.grownBy_alloc _ _ none) (by simp))
  have HP : Hid (Blk ((w.alloc (.map #[] 0)).alloc (.cells #[.map (some w.heap.size), .slice none 0 0] 65)) (w.heap.size + 1) 65 #[.map (some w.heap.size), .slice none 0 0]) := Lib.hid (Blk.new' (w.alloc (.map #[] 0)) _ _ (by simp))
  have HB : Hid (Below w.heap.size w ((w.alloc (.map #[] 0)).alloc (.cells #[.map (some w.heap.size), .slice none 0 0] 65))) := Lib.hid (((Below.refl _ _).alloc (Nat.le_refl _) _).alloc (by simp) _)
  have HZ : Hid (((w.alloc (.map #[] 0)).alloc (.cells #[.map (some w.heap.size), .slice none 0 0] 65)).heap.size = w.heap.size + 2) := Lib.hid (by simp)
  have HL := Lib.hid (li_length ks)
  have HK := Lib.hid hk
  have HS := Lib.hid h
  rw [HL.out] at HS ⊢
  have HQ := Lib.hid hmm
  clear hmm hk h
  generalize World.alloc (w.alloc (.map #[] 0)) _ = W at *
  go_wp2
  go_loopw [10] (fun i wr => ∃ j : Nat, j ≤ ks.length ∧ i = .int .i64 j ∧ Below w.heap.size w wr ∧ w.heap.size + 2 ≤ wr.heap.size ∧ Mp wr w.heap.size (fst (fun y => ks.getD y 0) j) (dvd (fun y => ks.getD y 0) j).2 ∧
      ∃ v', Blk wr (w.heap.size + 1) 65 #[.map (some w.heap.size), v'] ∧ Ow cI 2 (w.heap.size + 2) wr v' (li (dvd (fun y => ks.getD y 0) j).1)) (fun i _ => ks.length - (intOf i).toNat)
  case atStart => exact ⟨0, Nat.zero_le _, rfl, HB.out, by rw [HZ.out]; exact Nat.le_refl _, HM.out, _, HP.out, Ow.nil _ _⟩
  case round =>
    obtain ⟨j, hj, rfl, hb, hz, hm, v', hp, ho⟩ := hrel
    have HBx := Lib.hid hb
    have HMx := Lib.hid hm
    have HPx := Lib.hid hp
    have HOx := Lib.hid ho
    by_cases hlt : j < ks.length
    · have hlt' : j < (li ks).length := by rw [HL.out]; exact hlt
      obtain ⟨b, o, rfl, hbl, hc0⟩ := (show Sl cI w (.slice A (li ks).length c) (li ks) by rw [HL.out]; exact HS.out).below hb |>.atI hlt'
      rw [li_get] at hc0
      have hk := HK.out j
      have hcnt := dvd_count (fun y => ks.getD y 0) j
      have hln : (li (dvd (fun y => ks.getD y 0) j).1).length ≤ 1000 := by rw [li_length, dvd_length]; omega
      have C : Hid (Calls Tryz.prog 54 #[.pointer (some ⟨w.heap.size + 1, 0, none⟩), .int .i64 (ks.getD j 0 : Nat)] wr fun e w' => e = .returned (.tuple #[]) ∧ Below w.heap.size wr w' ∧ w.heap.size + 2 ≤ w'.heap.size ∧ Mp w' w.heap.size (fst (fun y => ks.getD y 0) (j + 1)) (dvd (fun y => ks.getD y 0) (j + 1)).2 ∧
          ∃ v', Blk w' (w.heap.size + 1) 65 #[.map (some w.heap.size), v'] ∧ Ow cI 2 (w.heap.size + 2) w' v' (li (dvd (fun y => ks.getD y 0) (j + 1)).1)) := by
        refine Lib.hid ?_
        cases hf : (List.range j).find? (fun z => decide (ks.getD z 0 = ks.getD j 0)) with
        | some y =>
          have e1 : dvd (fun y => ks.getD y 0) (j + 1) = ((dvd (fun y => ks.getD y 0) j).1 ++ [(dvd (fun y => ks.getD y 0) j).1.getD y 0], (dvd (fun y => ks.getD y 0) j).2) := by rw [dvd, hf]
          have e2 := fst_step_known (key := fun y => ks.getD y 0) hf
          refine (impl_add_known (w.heap.size + 1) w.heap.size _ _ _ _ _ _ (w.heap.size + 2) wr HPx.out HMx.out HOx.out (by omega) (by omega) (by omega) hz hk (fst_known (key := fun y => ks.getD y 0) hf) hln).mono fun e w' ⟨he, v', h1, h2, h3, h4⟩ => ?_
          have h5 := h4 w.heap.size (by omega) (Nat.le_refl _) (by omega)
          refine ⟨he, h5, Nat.le_trans hz h5.size, ?_, v', h1, ?_⟩
          · rw [e1, e2]; exact h2
          · rw [e1]; rw [li_append]; exact h3
        | none =>
          have e1 : dvd (fun y => ks.getD y 0) (j + 1) = ((dvd (fun y => ks.getD y 0) j).1 ++ [(dvd (fun y => ks.getD y 0) j).2], (dvd (fun y => ks.getD y 0) j).2 + 1) := by rw [dvd, hf]
          have e2 := fst_step_new (key := fun y => ks.getD y 0) hf
          refine (impl_add_new (w.heap.size + 1) w.heap.size _ _ _ _ _ (w.heap.size + 2) wr HPx.out HMx.out HOx.out (by omega) (by omega) (by omega) hz hk (fst_new (key := fun y => ks.getD y 0) hf) (by omega) hln).mono fun e w' ⟨he, v', h1, h2, h3, h4⟩ => ?_
          have h5 := h4 w.heap.size (by omega) (Nat.le_refl _) (by omega)
          refine ⟨he, h5, Nat.le_trans hz h5.size, ?_, v', h1, ?_⟩
          · rw [e1, e2]; exact h2
          · rw [e1]; rw [li_append]; exact h3
      clear hb hm hp ho hln hcnt
      obtain ⟨q, hq⟩ : ∃ q, ks.getD j 0 = q := ⟨_, rfl⟩
      rw [hq] at hc0 C
      clear hq hk
      go_wp2_with fail
      refine C.out.mono ?_
      rintro e w1 ⟨rfl, h5, hz1, hm1, v1, hp1, ho1⟩
      have HM1 := Lib.hid hm1
      have HP1 := Lib.hid hp1
      have HO1 := Lib.hid ho1
      have HB1 := Lib.hid h5
      clear hm1 hp1 ho1 h5
      go_wp2
      go_roundw
      case rel => exact ⟨j + 1, by omega, by go_num, HBx.out.trans HB1.out, hz1, HM1.out, _, HP1.out, HO1.out⟩
      case measure => simp [intOf]; omega
    · obtain rfl : j = ks.length := by omega
      have k0 := hp.cell
      have l0 := hp.lt
      obtain ⟨Av, cv, rfl⟩ := ho.opn
      clear hb hm hp ho
      go_wp2
      go_ret
      exact ⟨_, rfl, HOx.out.mono (by omega), HBx.out⟩
theorem impl_classesOf (v : Value) (ks : List Nat) (w : World) (h : Sl cI w v (li ks)) (hk : ∀ i, ks.getD i 0 < 256) (hl : ks.length ≤ 200) :
    Calls Tryz.prog 23 #[v] w fun e w' => ∃ u, e = .returned u ∧ Ow cI 2 w.heap.size w' u (li (dvd (fun y => ks.getD y 0) ks.length).1) ∧ Below w.heap.size w w' := by
  obtain ⟨A, c, rfl⟩ := h.opn
  have HC := Lib.hid (impl_divided _ ks w h hk hl)
  clear h hk
  go_enter Tryz.func23, Tryz.ntmps23
  go_wp2_with fail
  refine HC.out.mono ?_
  rintro e w1 ⟨u, rfl, ho, hb⟩
  obtain ⟨Av, cv, rfl⟩ := ho.opn
  have HO := Lib.hid ho
  have HB := Lib.hid hb
  clear ho hb
  go_wp2
  go_ret
  exact ⟨_, rfl, HO.out, HB.out⟩
/- Contracts of chapter 7, of the reference: l07Classes, BisimulationClasses. -/
/-- the classes of a model's worlds -/
def bcl (ns us : List Nat) (x : Nat) : List Nat × Nat := dvd (fun y => (bnd ns us ns us 16).getD y 0) x
theorem find_first {p : Nat → Bool} {x j : Nat} (hj : j < x) (h : p j = true) (hn : ∀ i, i < j → p i = false) : (List.range x).find? p = some j := by
  rw [List.find?_eq_some_iff_append]
  refine ⟨h, List.range j, (List.range (x - (j + 1))).map (fun i => j + 1 + i), ?_, fun a ha => by rw [List.mem_range] at ha; rw [hn a ha]; rfl⟩
  rw [show x = (j + 1) + (x - (j + 1)) by omega, List.range_add, List.range_succ]
  simp
/- Contracts of BisimulationClasses, of the program: arguments that are no model. -/
end Go.Proofs.YtaigiopoogbbbaaGreat
