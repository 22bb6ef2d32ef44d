/- Joined of several texts: M07m, AN, 07j, 07l. -/
import Derived.Test.YtnolbgdbboiehaaGreatLA
import Derived.Test.YtnolbgdbboiehaaGreatHI
import Derived.Test.YtnolbgdbboiehaaGreatSA
import Derived.Maps.OwnSet
import Derived.Maps.OwnOps
namespace Go.Proofs.YtnolbgdbboiehaaGreat
open Go.RowKit
set_option linter.unusedVariables false
set_option linter.unusedSimpArgs false
/- A map from int64 to int64 that the call makes, in words of a finite function: what the walk of divided wants. -/
open Go.RowKit Go.Maps
theorem keyI : Keyed Tryz.prog 2 := int_keyed Tryz.underlying2
theorem zeroI (w : World) : (zeroValue 2).run Tryz.prog w = .ok (.int .i64 0) w := by kernel_rfl
theorem wf_i64 {a : Int} (h : -9223372036854775808 ≤ a ∧ a ≤ 9223372036854775807) : (Lit.int .i64 a).wf = true := WalkArith.wf_i64 (by omega)
theorem key_i64 {a : Nat} (h : a < 256) : keyOf Tryz.prog 2 (.int .i64 (a : Int)) = some (.int .i64 (a : Int)) := keyOf_int_mk Tryz.underlying2 (wf_i64 (by omega))
/-- block M is a map of c entries that is f -/
def Mp (w : World) (M : Nat) (f : Nat → Option Nat) (c : Nat) : Prop :=
  ∃ (n : Nat) (D : DataW Unit), n ≤ c ∧ w.ownsMap Tryz.prog 2 (plainElem Tryz.prog 2) M n D ∧ Maps.size D = c ∧
    ∀ a : Nat, a < 256 → Maps.has D (.int .i64 (a : Int)) = (f a).isSome ∧ ∀ x, f a = some x → D.atKey (.int .i64 (a : Int)) (.lit (.int .i64 0)) = .lit (.int .i64 (x : Int))
theorem Mp.made (w : World) : Mp (w.alloc (.map #[] 0)) w.heap.size (fun _ => none) 0 :=
  ⟨0, .map [], Nat.le_refl _, World.ownsMap_made w _ _ _, rfl, fun a _ => ⟨rfl, fun x hx => by cases hx⟩⟩
theorem Mp.lt {w : World} {M : Nat} {f : Nat → Option Nat} {c : Nat} (h : Mp w M f c) : M < w.heap.size := by
  obtain ⟨n, D, -, h, -⟩ := h
  exact h.lt
theorem Mp.grown {w w' : World} {row : Option Nat} {M : Nat} {f : Nat → Option Nat} {c : Nat} (h : Mp w M f c) (hg : w.grownBy w' row) (hne : some M ≠ row) : Mp w' M f c := by
  obtain ⟨n, D, h1, h2, h3⟩ := h
  exact ⟨n, D, h1, h2.kept hg hne, h3⟩
theorem Mp.setCell {w : World} {M : Nat} {f : Nat → Option Nat} {c : Nat} (h : Mp w M f c) {p : Addr} (hp : M ≠ p.block) (u : Value) : Mp (w.setCell p u) M f c := by
  obtain ⟨n, D, h1, h2, h3⟩ := h
  exact ⟨n, D, h1, h2.setCell hp u, h3⟩
theorem Mp.drew {w : World} {M : Nat} {f : Nat → Option Nat} {c : Nat} (h : Mp w M f c) : Mp w.drew M f c := h
theorem Mp.ok {w : World} {M : Nat} {f : Nat → Option Nat} {c : Nat} (h : Mp w M f c) {a : Nat} (ha : a < 256) :
    ∃ x : Int, (Instr.lookup 152 (.map (some M)) (.int .i64 (a : Int)) true).run Tryz.prog w = .ok (.tuple #[.int .i64 x, .bool (f a).isSome]) w := by
  obtain ⟨n, D, h1, h2, h3, h4⟩ := h
  obtain ⟨v, ps, hrun, hv⟩ := h2.look_ok keyI Tryz.underlying152 (zeroI w) (plainElem_int Tryz.underlying2 (wf_i64 (by decide))) (key_i64 ha)
  obtain ⟨x, rfl, -, -⟩ := plainElem_int_inv Tryz.underlying2 hv
  exact ⟨x, by rw [← (h4 a ha).1]; exact hrun⟩
theorem Mp.get {w : World} {M : Nat} {f : Nat → Option Nat} {c : Nat} (h : Mp w M f c) {a x : Nat} (ha : a < 256) (hx : f a = some x) :
    (Instr.lookup 152 (.map (some M)) (.int .i64 (a : Int)) false).run Tryz.prog w = .ok (.int .i64 (x : Int)) w := by
  obtain ⟨n, D, h1, h2, h3, h4⟩ := h
  obtain ⟨y, hrun, hat, -⟩ := h2.lookup_int keyI Tryz.underlying152 Tryz.underlying2 (zeroI w) (key_i64 ha)
  rw [(h4 a ha).2 x hx] at hat
  have hat2 : (x : Int) = y := by simpa using hat
  rw [hat2]
  exact hrun
theorem Mp.len {w : World} {M : Nat} {f : Nat → Option Nat} {c : Nat} (h : Mp w M f c) (ty : TypeId) : (Builtin.len_ #[152] ty #[.map (some M)]).run Tryz.prog w = .ok (.int .i64 (c : Int)) w := by
  obtain ⟨n, D, h1, h2, h3, h4⟩ := h
  have := h2.len Tryz.underlying152 ty
  rwa [h3] at this
theorem Mp.put {w : World} {M : Nat} {f : Nat → Option Nat} {c : Nat} (h : Mp w M f c) (hc : c ≤ 255) {a : Nat} (ha : a < 256) (hn : f a = none) {x : Nat} (hx : x < 256) :
    ∃ w', (Instr.mapUpdate 152 (.map (some M)) (.int .i64 (a : Int)) (.int .i64 (x : Int))).run Tryz.prog w = .ok () w' ∧ Mp w' M (fun b => if b = a then some x else f b) (c + 1) ∧ w.grownBy w' (some M) := by
  obtain ⟨n, D, h1, h2, h3, h4⟩ := h
  obtain ⟨w', hrun, hown, hg⟩ := h2.update keyI Tryz.underlying152 (by unfold maxLen; omega) (key_i64 ha) (plainElem_int Tryz.underlying2 (wf_i64 (a := (x : Int)) (by omega)))
  refine ⟨w', hrun, ⟨n + 1, _, by omega, hown, ?_, fun b hb => ?_⟩, hg⟩
  · rw [size_put (h2.tidy keyI), (h4 a ha).1, hn, h3]; rfl
  · by_cases he : b = a
    · subst he
      refine ⟨by rw [has_put_same h2.isMap (by trivial)]; simp, fun y hy => ?_⟩
      dsimp only at hy
      rw [if_pos rfl] at hy
      have hy2 : x = y := Option.some.inj hy
      rw [atKey_put_same h2.isMap (by trivial), hy2]
    · have hne : Lit.int .i64 (b : Int) ≠ Lit.int .i64 (a : Int) := fun e => by injection e with _ e; exact he (by omega)
      refine ⟨by rw [has_put_other hne, (h4 b hb).1]; dsimp only; rw [if_neg he], fun y hy => ?_⟩
      dsimp only at hy
      rw [if_neg he] at hy
      rw [atKey_put_other hne]
      exact (h4 b hb).2 y hy
/- Joined of several texts: 07n, 07o, 07p. -/
/- Contracts of chapter 7, of the program: a partition's add. -/
set_option maxRecDepth 100000 in
theorem impl_add_known (p M : Nat) (f : Nat → Option Nat) (c key x : Nat) (v : Value) (xs : List Int) (B : Nat) (w : World) (hp : Blk w p 154 #[.map (some M), v]) (hm : Mp w M f c) (ho : Ow cI 2 B w v xs)
    (hpM : p ≠ M) (hpB : p < B) (hMB : M < B) (hBw : B ≤ w.heap.size) (hk : key < 256) (hf : f key = some x) (hl : xs.length ≤ 1000) :
    Calls Tryz.prog 187 #[.pointer (some ⟨p, 0, none⟩), .int .i64 key] w
      fun e w' => e = .returned (.tuple #[]) ∧ ∃ v', Blk w' p 154 #[.map (some M), v'] ∧ Mp w' M f c ∧ Ow cI 2 B w' v' (xs ++ [(x : Int)]) ∧ ∀ L, L ≤ p → L ≤ M → L ≤ B → Below L w w' := by
  obtain ⟨A, cc, rfl⟩ := ho.opn
  obtain ⟨y, hrun⟩ := hm.ok hk
  rw [hf] at hrun
  have hget := hm.get hk hf
  have k0 := hp.cell
  have f0 := hp.frozen
  have l0 := hp.lt
  go_enter Tryz.func187, Tryz.ntmps187
  go_upto_region 3 with fail
  have hod := ho.below (Below.refl _ _).drew
  have hgd := (hm.drew).get hk hf
  have hpd : Blk w.drew p 154 #[.map (some M), .slice A xs.length cc] := hp
  have hl9 : (xs ++ [(x : Int)]).length = xs.length + 1 := by simp
  have hne : (some p : Option Nat) ≠ (Value.slice A xs.length cc).ownBlock := fun e => by have := (ho.block p e.symm).1; omega
  have hneM : (some M : Option Nat) ≠ (Value.slice A xs.length cc).ownBlock := fun e => by have := (ho.block M e.symm).1; omega
  have hBd : B ≤ w.drew.heap.size := hBw
  clear hrun
  go_region_law (refine step_one (K := cI) _ ty_int64 rfl _ _ rfl (B := B) (xs := xs) (by simp [Act.eval, Act.put]; done) hod (x : Int) rfl (by simp [Act.eval, Act.put]; done) (by omega) hBd ?_; intro v1 w5 ho1 hg1 hb1 hat1; obtain ⟨g9, c9, hv9, hg9, -⟩ := ho1.form (by simp); rw [hl9] at hv9; subst hv9; have hk9 := (hpd.alloc _).grown hg1 hne; have kc9 := hk9.cell; have kf9 := hk9.frozen; have kl9 := hk9.lt)
  all_goals
    have Y1 := Lib.hid (hk9.set_ 1 (.slice (some ⟨g9, 0, none⟩) (xs.length + 1) c9))
    have Y2 := Lib.hid ((((hm.drew).grown (World.grownBy_alloc _ _ none) (by simp)).grown hg1 hneM).setCell (p := ⟨p, 1, none⟩) (fun e => hpM e.symm) (.slice (some ⟨g9, 0, none⟩) (xs.length + 1) c9))
    have Y3 := Lib.hid (ho1.setBelow (p := ⟨p, 1, none⟩) hpB (.slice (some ⟨g9, 0, none⟩) (xs.length + 1) c9))
    have Y4 := Lib.hid (fun (L : Nat) (h1 : L ≤ p) (_ : L ≤ M) (h3 : L ≤ B) => (((Below.refl L w).drew).trans (hb1.mono h3)).setCell (p := ⟨p, 1, none⟩) h1 (.slice (some ⟨g9, 0, none⟩) (xs.length + 1) c9))
    clear ho1 hg1 hb1 hat1 hk9 kc9 kf9
    go_wp2
    refine ⟨rfl, .tuple #[], ?_, rfl, _, Y1.out, Y2.out, Y3.out, Y4.out⟩
    first | rfl | kernel_rfl | (simp [results, Tryz.results187, go_sem]; done)
/- Contracts of chapter 7, of the program: a partition's add, at a new key. -/
set_option maxRecDepth 100000 in
theorem impl_add_new (p M : Nat) (f : Nat → Option Nat) (c key : Nat) (v : Value) (xs : List Int) (B : Nat) (w : World) (hp : Blk w p 154 #[.map (some M), v]) (hm : Mp w M f c) (ho : Ow cI 2 B w v xs)
    (hpM : p ≠ M) (hpB : p < B) (hMB : M < B) (hBw : B ≤ w.heap.size) (hk : key < 256) (hf : f key = none) (hc : c ≤ 255) (hl : xs.length ≤ 1000) :
    Calls Tryz.prog 187 #[.pointer (some ⟨p, 0, none⟩), .int .i64 key] w
      fun e w' => e = .returned (.tuple #[]) ∧ ∃ v', Blk w' p 154 #[.map (some M), v'] ∧ Mp w' M (fun b => if b = key then some c else f b) (c + 1) ∧ Ow cI 2 B w' v' (xs ++ [(c : Int)]) ∧ ∀ L, L ≤ p → L ≤ M → L ≤ B → Below L w w' := by
  obtain ⟨A, cc, rfl⟩ := ho.opn
  obtain ⟨y, hrun⟩ := hm.ok hk
  rw [hf] at hrun
  have k0 := hp.cell
  have f0 := hp.frozen
  have l0 := hp.lt
  obtain ⟨w2, hrun2, hm2, hg2⟩ := (hm.drew).put hc hk hf (x := c) (by omega)
  have hlen := fun ty => (hm.drew).len ty
  go_enter Tryz.func187, Tryz.ntmps187
  go_upto_region 2 with fail
  go_still_tail 10, (by kernel_rfl)
  go_upto_region 3 with fail
  have hz2 : w.heap.size ≤ w2.heap.size := hg2.size
  have hp2 : Blk w2 p 154 #[.map (some M), .slice A xs.length cc] := Blk.grown (w := w.drew) hp hg2 (fun e => hpM (by injection e))
  have ho2 := ((ho.below (Below.refl _ _).drew).ob.keep (Keep.of_grown hg2 (fun k hk => by injection hk with e; subst e; exact ⟨Nat.le_refl _, Nat.lt_succ_self _⟩)) (.inr (by omega))).1
  have HB2 := Lib.hid (fun (L : Nat) (h2 : L ≤ M) => ((Below.refl L w).drew).grown hg2 (by have := hm.lt; show L ≤ w.heap.size; omega) (fun k hk => by injection hk with e; omega))
  clear k0 f0 l0 hrun2 hlen
  have k0 := hp2.cell
  have f0 := hp2.frozen
  have l0 := hp2.lt
  have hod := ho2.below (Below.refl _ _).drew
  have hgd := (hm2.drew).get hk (x := c) (by simp)
  have hpd : Blk w2.drew p 154 #[.map (some M), .slice A xs.length cc] := hp2
  have hl9 : (xs ++ [(c : Int)]).length = xs.length + 1 := by simp
  have hne : (some p : Option Nat) ≠ (Value.slice A xs.length cc).ownBlock := fun e => by have := (ho2.block p e.symm).1; omega
  have hneM : (some M : Option Nat) ≠ (Value.slice A xs.length cc).ownBlock := fun e => by have := (ho2.block M e.symm).1; omega
  have hBd : B ≤ w2.drew.heap.size := Nat.le_trans hBw hz2
  clear hrun
  go_region_law (refine step_one (K := cI) _ ty_int64 rfl _ _ rfl (B := B) (xs := xs) (by simp [Act.eval, Act.put]; done) hod (c : Int) rfl (by simp [Act.eval, Act.put]; done) (by omega) hBd ?_; intro v1 w5 ho1 hg1 hb1 hat1; obtain ⟨g9, c9, hv9, hg9, -⟩ := ho1.form (by simp); rw [hl9] at hv9; subst hv9; have hk9 := (hpd.alloc _).grown hg1 hne; have kc9 := hk9.cell; have kf9 := hk9.frozen; have kl9 := hk9.lt)
  all_goals
    have Y1 := Lib.hid (hk9.set_ 1 (.slice (some ⟨g9, 0, none⟩) (xs.length + 1) c9))
    have Y2 := Lib.hid ((((hm2.drew).grown (World.grownBy_alloc _ _ none) (by simp)).grown hg1 hneM).setCell (p := ⟨p, 1, none⟩) (fun e => hpM e.symm) (.slice (some ⟨g9, 0, none⟩) (xs.length + 1) c9))
    have Y3 := Lib.hid (ho1.setBelow (p := ⟨p, 1, none⟩) hpB (.slice (some ⟨g9, 0, none⟩) (xs.length + 1) c9))
    have Y4 := Lib.hid (fun (L : Nat) (h1 : L ≤ p) (h2 : L ≤ M) (h3 : L ≤ B) => ((((HB2.out L h2)).drew).trans (hb1.mono h3)).setCell (p := ⟨p, 1, none⟩) h1 (.slice (some ⟨g9, 0, none⟩) (xs.length + 1) c9))
    clear ho1 hg1 hb1 hat1 hk9 kc9 kf9
    go_wp2
    refine ⟨rfl, .tuple #[], ?_, rfl, _, Y1.out, Y2.out, Y3.out, Y4.out⟩
    first | rfl | kernel_rfl | (simp [results, Tryz.results187, go_sem]; done)
/- Contracts of chapter 7, of the program: divided. -/
set_option maxRecDepth 100000 in
theorem impl_divided (v : Value) (ks : List Nat) (w : World) (h : Sl cI w v (li ks)) (hk : ∀ i, ks.getD i 0 < 256) (hl : ks.length ≤ 200) :
    Calls Tryz.prog 101 #[v] w fun e w' => ∃ u, e = .returned u ∧ Ow cI 2 w.heap.size w' u (li (dvd (fun y => ks.getD y 0) ks.length).1) ∧ Below w.heap.size w w' := by
  obtain ⟨A, c, rfl⟩ := h.opn
  have hmm := @run_makeMap Tryz.prog
  go_enter Tryz.func101, Tryz.ntmps101
  go_upto_region 2 with fail
  have HM : Hid (Mp ((w.alloc (.map #[] 0)).alloc (.cells #[.map (some w.heap.size), .slice none 0 0] 154)) w.heap.size (fst (fun y => ks.getD y 0) 0) 0) := Lib.hid ((Mp.made w).grown (World.grownBy_alloc _ _ none) (by simp))
  have HP : Hid (Blk ((w.alloc (.map #[] 0)).alloc (.cells #[.map (some w.heap.size), .slice none 0 0] 154)) (w.heap.size + 1) 154 #[.map (some w.heap.size), .slice none 0 0]) := Lib.hid (Blk.new' (w.alloc (.map #[] 0)) _ _ (by simp))
  have HB : Hid (Below w.heap.size w ((w.alloc (.map #[] 0)).alloc (.cells #[.map (some w.heap.size), .slice none 0 0] 154))) := Lib.hid (((Below.refl _ _).alloc (Nat.le_refl _) _).alloc (by simp) _)
  have HZ : Hid (((w.alloc (.map #[] 0)).alloc (.cells #[.map (some w.heap.size), .slice none 0 0] 154)).heap.size = w.heap.size + 2) := Lib.hid (by simp)
  have HL := Lib.hid (li_length ks)
  have HK := Lib.hid hk
  have HS := Lib.hid h
  rw [HL.out] at HS ⊢
  have HQ := Lib.hid hmm
  clear hmm hk h
  generalize World.alloc (w.alloc (.map #[] 0)) _ = W at *
  go_wp2
  go_loopw [10] (fun i wr => ∃ j : Nat, j ≤ ks.length ∧ i = .int .i64 j ∧ Below w.heap.size w wr ∧ w.heap.size + 2 ≤ wr.heap.size ∧ Mp wr w.heap.size (fst (fun y => ks.getD y 0) j) (dvd (fun y => ks.getD y 0) j).2 ∧
      ∃ v', Blk wr (w.heap.size + 1) 154 #[.map (some w.heap.size), v'] ∧ Ow cI 2 (w.heap.size + 2) wr v' (li (dvd (fun y => ks.getD y 0) j).1)) (fun i _ => ks.length - (intOf i).toNat)
  case atStart => exact ⟨0, Nat.zero_le _, rfl, HB.out, by rw [HZ.out]; exact Nat.le_refl _, HM.out, _, HP.out, Ow.nil _ _⟩
  case round =>
    obtain ⟨j, hj, rfl, hb, hz, hm, v', hp, ho⟩ := hrel
    have HBx := Lib.hid hb
    have HMx := Lib.hid hm
    have HPx := Lib.hid hp
    have HOx := Lib.hid ho
    by_cases hlt : j < ks.length
    · have hlt' : j < (li ks).length := by rw [HL.out]; exact hlt
      obtain ⟨b, o, rfl, hbl, hc0⟩ := (show Sl cI w (.slice A (li ks).length c) (li ks) by rw [HL.out]; exact HS.out).below hb |>.atI hlt'
      rw [li_get] at hc0
      have hk := HK.out j
      have hcnt := dvd_count (fun y => ks.getD y 0) j
      have hln : (li (dvd (fun y => ks.getD y 0) j).1).length ≤ 1000 := by rw [li_length, dvd_length]; omega
      have C : Hid (Calls Tryz.prog 187 #[.pointer (some ⟨w.heap.size + 1, 0, none⟩), .int .i64 (ks.getD j 0 : Nat)] wr fun e w' => e = .returned (.tuple #[]) ∧ Below w.heap.size wr w' ∧ w.heap.size + 2 ≤ w'.heap.size ∧ Mp w' w.heap.size (fst (fun y => ks.getD y 0) (j + 1)) (dvd (fun y => ks.getD y 0) (j + 1)).2 ∧
          ∃ v', Blk w' (w.heap.size + 1) 154 #[.map (some w.heap.size), v'] ∧ Ow cI 2 (w.heap.size + 2) w' v' (li (dvd (fun y => ks.getD y 0) (j + 1)).1)) := by
        refine Lib.hid ?_
        cases hf : (List.range j).find? (fun z => decide (ks.getD z 0 = ks.getD j 0)) with
        | some y =>
          have e1 : dvd (fun y => ks.getD y 0) (j + 1) = ((dvd (fun y => ks.getD y 0) j).1 ++ [(dvd (fun y => ks.getD y 0) j).1.getD y 0], (dvd (fun y => ks.getD y 0) j).2) := by rw [dvd, hf]
          have e2 := fst_step_known (key := fun y => ks.getD y 0) hf
          refine (impl_add_known (w.heap.size + 1) w.heap.size _ _ _ _ _ _ (w.heap.size + 2) wr HPx.out HMx.out HOx.out (by omega) (by omega) (by omega) hz hk (fst_known (key := fun y => ks.getD y 0) hf) hln).mono fun e w' ⟨he, v', h1, h2, h3, h4⟩ => ?_
          have h5 := h4 w.heap.size (by omega) (Nat.le_refl _) (by omega)
          refine ⟨he, h5, Nat.le_trans hz h5.size, ?_, v', h1, ?_⟩
          · rw [e1, e2]; exact h2
          · rw [e1]; rw [li_append]; exact h3
        | none =>
          have e1 : dvd (fun y => ks.getD y 0) (j + 1) = ((dvd (fun y => ks.getD y 0) j).1 ++ [(dvd (fun y => ks.getD y 0) j).2], (dvd (fun y => ks.getD y 0) j).2 + 1) := by rw [dvd, hf]
          have e2 := fst_step_new (key := fun y => ks.getD y 0) hf
          refine (impl_add_new (w.heap.size + 1) w.heap.size _ _ _ _ _ (w.heap.size + 2) wr HPx.out HMx.out HOx.out (by omega) (by omega) (by omega) hz hk (fst_new (key := fun y => ks.getD y 0) hf) (by omega) hln).mono fun e w' ⟨he, v', h1, h2, h3, h4⟩ => ?_
          have h5 := h4 w.heap.size (by omega) (Nat.le_refl _) (by omega)
          refine ⟨he, h5, Nat.le_trans hz h5.size, ?_, v', h1, ?_⟩
          · rw [e1, e2]; exact h2
          · rw [e1]; rw [li_append]; exact h3
      clear hb hm hp ho hln hcnt
      obtain ⟨q, hq⟩ : ∃ q, ks.getD j 0 = q := ⟨_, rfl⟩
      rw [hq] at hc0 C
      clear hq hk
      go_wp2_with fail
      refine C.out.mono ?_
      rintro e w1 ⟨rfl, h5, hz1, hm1, v1, hp1, ho1⟩
      have HM1 := Lib.hid hm1
      have HP1 := Lib.hid hp1
      have HO1 := Lib.hid ho1
      have HB1 := Lib.hid h5
      clear hm1 hp1 ho1 h5
      go_wp2
      go_roundw
      case rel => exact ⟨j + 1, by omega, by go_num, HBx.out.trans HB1.out, hz1, HM1.out, _, HP1.out, HO1.out⟩
      case measure => simp [intOf]; omega
    · obtain rfl : j = ks.length := by omega
      have k0 := hp.cell
      have l0 := hp.lt
      obtain ⟨Av, cv, rfl⟩ := ho.opn
      clear hb hm hp ho
      go_wp2
      go_ret
      exact ⟨_, rfl, HOx.out.mono (by omega), HBx.out⟩
theorem impl_classesOf (v : Value) (ks : List Nat) (w : World) (h : Sl cI w v (li ks)) (hk : ∀ i, ks.getD i 0 < 256) (hl : ks.length ≤ 200) :
    Calls Tryz.prog 42 #[v] w fun e w' => ∃ u, e = .returned u ∧ Ow cI 2 w.heap.size w' u (li (dvd (fun y => ks.getD y 0) ks.length).1) ∧ Below w.heap.size w w' := by
  obtain ⟨A, c, rfl⟩ := h.opn
  have HC := Lib.hid (impl_divided _ ks w h hk hl)
  clear h hk
  go_enter Tryz.func42, Tryz.ntmps42
  go_wp2_with fail
  refine HC.out.mono ?_
  rintro e w1 ⟨u, rfl, ho, hb⟩
  obtain ⟨Av, cv, rfl⟩ := ho.opn
  have HO := Lib.hid ho
  have HB := Lib.hid hb
  clear ho hb
  go_wp2
  go_ret
  exact ⟨_, rfl, HO.out, HB.out⟩
/- Contracts of chapter 7, of the reference: l07Classes, BisimulationClasses. -/
/-- the classes of a model's worlds -/
def bcl (ns us : List Nat) (x : Nat) : List Nat × Nat := dvd (fun y => (bnd ns us ns us 16).getD y 0) x
theorem find_first {p : Nat → Bool} {x j : Nat} (hj : j < x) (h : p j = true) (hn : ∀ i, i < j → p i = false) : (List.range x).find? p = some j := by
  rw [List.find?_eq_some_iff_append]
  refine ⟨h, List.range j, (List.range (x - (j + 1))).map (fun i => j + 1 + i), ?_, fun a ha => by rw [List.mem_range] at ha; rw [hn a ha]; rfl⟩
  rw [show x = (j + 1) + (x - (j + 1)) by omega, List.range_add, List.range_succ]
  simp
set_option maxRecDepth 100000 in
theorem spec_l07Classes (ns us : List Nat) (A0 A1 : Option Addr) (c0 c1 : Nat) (w : World) (hm : Mdl w (.slice A0 ns.length c0) (.slice A1 6 c1) ns us) (h1 : MdN ns us) :
    Calls Tryz.prog 41 #[.agg #[.int .i64 ns.length, .slice A0 ns.length c0, .slice A1 6 c1]] w
      fun e w' => ∃ A c, e = .returned (.slice A ns.length c) ∧ Ow cI 2 w.heap.size w' (.slice A ns.length c) (li (bcl ns us ns.length).1) ∧ Below w.heap.size w w' := by
  have h8 := h1.r.1
  have hb0 := below_alloc' w (.cells #[.int .i64 ns.length, .slice A0 ns.length c0, .slice A1 6 c1] 28)
  have hk0 := Blk.new w 28 #[.int .i64 ns.length, .slice A0 ns.length c0, .slice A1 6 c1]
  have HB := Lib.hid hb0
  have HK0 := Lib.hid hk0
  have HS := Lib.hid (fun W (hW : Below w.heap.size w W) => spec_l07Greatest ns us ns us A0 A1 A0 A1 c0 c1 c0 c1 W (hm.below hW) (hm.below hW) h1 h1)
  have HR := Lib.hid h1.r
  clear hb0 hk0 hm h1
  go_enter Tryz.func41, Tryz.ntmps41
  go_upto_region 1 with fail
  generalize World.alloc w _ = W at *
  have k0 := HK0.out.cell
  have l0 := HK0.out.lt
  go_wp2_with fail
  refine (HS.out _ HB.out).mono ?_
  rintro e w1 ⟨Ag, cg, rfl, hg, hb⟩
  have HLK := Lib.hid (show (li (bnd ns us ns us 16)).length = ns.length by rw [li_length, bnd_length])
  have HG := Lib.hid hg
  have HB1 := Lib.hid hb
  have hsz1 := hb.size
  clear k0 hg hb
  go_wp2
  go_loopw [4, 5, 6] (fun v ct i wr => ∃ x : Nat, x ≤ ns.length ∧ i = .int .i64 x ∧ ct = .int .i64 (bcl ns us x).2 ∧ Ow cI 2 w1.heap.size wr v (li (bcl ns us x).1) ∧ Below w1.heap.size w1 wr) (fun _ _ i _ => ns.length - (intOf i).toNat)
  case atStart => exact ⟨0, Nat.zero_le _, rfl, rfl, Ow.lit [] rfl rfl (Nat.le_refl _), (Below.refl _ _).alloc (Nat.le_refl _) _⟩
  case round =>
    obtain ⟨x, hx, rfl, rfl, ho, hb⟩ := hrel
    obtain ⟨Ao, co, rfl⟩ := ho.opn
    have hLo : (li (bcl ns us x).1).length = x := by rw [li_length]; exact dvd_length _ _
    rw [hLo] at ho ⊢
    have HO := Lib.hid ho
    have HBx := Lib.hid hb
    have hkx := (HK0.out.below HB1.out l0).below hb (Nat.lt_of_lt_of_le l0 hsz1)
    have k2 := hkx.cell
    have l2 := hkx.lt
    by_cases hxn : x < ns.length
    · clear ho hb hkx
      have hcx := dvd_count (fun y => (bnd ns us ns us 16).getD y 0) x
      have HD : Hid (bcl ns us (x + 1) = match (List.range x).find? (fun y => decide ((bnd ns us ns us 16).getD y 0 = (bnd ns us ns us 16).getD x 0)) with
        | some y => ((bcl ns us x).1 ++ [(bcl ns us x).1.getD y 0], (bcl ns us x).2)
        | none => ((bcl ns us x).1 ++ [(bcl ns us x).2], (bcl ns us x).2 + 1)) := Lib.hid rfl
      have HLT := Lib.hid (dvd_lt (fun y => (bnd ns us ns us 16).getD y 0) x)
      change (bcl ns us x).2 ≤ x at hcx
      replace HLT : Hid (∀ c ∈ (bcl ns us x).1, c < (bcl ns us x).2) := HLT
      generalize bcl ns us x = d at *
      obtain ⟨dl, dc⟩ := d
      simp only at HO hcx HD HLT hLo ⊢
      have HLd := Lib.hid hLo
      go_wp2
      clear k2 l2
      go_loop [7, 8] (fun cl y => ∃ j : Nat, j ≤ x ∧ y = .int .i64 j ∧ ((cl = .int .i64 (-1) ∧ ∀ i, i < j → ¬ (bnd ns us ns us 16).getD i 0 = (bnd ns us ns us 16).getD x 0) ∨
        (∃ i, cl = .int .i64 (dl.getD i 0 : Nat) ∧ i < x ∧ (List.range x).find? (fun y => decide ((bnd ns us ns us 16).getD y 0 = (bnd ns us ns us 16).getD x 0)) = some i))) (fun _ y => x - (intOf y).toNat)
      case atStart => exact ⟨0, Nat.zero_le _, rfl, .inl ⟨rfl, fun i hi => by omega⟩⟩
      case round =>
        obtain ⟨j, hj, rfl, hor⟩ := hrel
        have hsz := HBx.out.size
        rcases hor with ⟨rfl, hno⟩ | ⟨i, rfl, hix, hfi⟩
        · by_cases hjx : j < x
          · have hj' : j < (li (bnd ns us ns us 16)).length := by rw [HLK.out]; omega
            obtain ⟨b, o, rfl, hbl, hc0⟩ := (HG.out.below HBx.out).atI hj'
            rw [li_get] at hc0
            have hm := Nat.lt_of_lt_of_le (getD_lt (bnd_lt ns us ns us 16) j) (two_pow_256 h8)
            have ER := Lib.hid (rel_row ns us HR.out 16 hxn (show j < ns.length by omega))
            have hjo : j < (li dl).length := by rw [HLd.out]; exact hjx
            obtain ⟨b2, o2, hA2, hbl2, hd0⟩ := HO.out.sl.atI hjo
            rw [li_get] at hd0
            subst hA2
            have HNO := Lib.hid hno
            clear hno
            obtain ⟨q, hqq⟩ : ∃ q, dl.getD j 0 = q := ⟨_, rfl⟩
            have HQQ := Lib.hid hqq
            rw [hqq] at hd0
            clear hqq
            by_cases he : (bnd ns us ns us 16).getD j 0 = (bnd ns us ns us 16).getD x 0
            · have HF : Hid ((List.range x).find? (fun y => decide ((bnd ns us ns us 16).getD y 0 = (bnd ns us ns us 16).getD x 0)) = some j) := Lib.hid (find_first hjx (decide_eq_true he) (fun i hi => decide_eq_false (HNO.out i hi)))
              rw [decide_eq_true he] at ER
              obtain ⟨m, hmm⟩ : ∃ m, (bnd ns us ns us 16).getD j 0 = m := ⟨_, rfl⟩
              rw [hmm] at hc0 hm ER
              clear he HNO hmm
              have i1 : (j : Int) < (ns.length : Int) := by omega
              go_wp2_with fail
              refine (spec_l01Bit _ x _ (by omega) (by omega)).mono ?_
              rintro e w4 ⟨rfl, rfl⟩
              rw [ER.out]
              go_wp2
              go_round
              case rel => exact ⟨j + 1, by omega, by go_num, .inr ⟨j, by rw [HQQ.out], hjx, HF.out⟩⟩
              case measure => simp [intOf]; omega
            · rw [decide_eq_false he] at ER
              obtain ⟨m, hmm⟩ : ∃ m, (bnd ns us ns us 16).getD j 0 = m := ⟨_, rfl⟩
              rw [hmm] at hc0 hm ER
              have HNO' : Hid (∀ i, i < j + 1 → ¬ (bnd ns us ns us 16).getD i 0 = (bnd ns us ns us 16).getD x 0) := Lib.hid (fun i hi => (Nat.lt_or_ge i j).elim (fun h => HNO.out i h) (fun h => (show i = j by omega) ▸ he))
              clear he HNO hmm
              have i1 : (j : Int) < (ns.length : Int) := by omega
              go_wp2_with fail
              refine (spec_l01Bit _ x _ (by omega) (by omega)).mono ?_
              rintro e w4 ⟨rfl, rfl⟩
              rw [ER.out]
              go_wp2
              go_round
              case rel => exact ⟨j + 1, by omega, by go_num, .inl ⟨rfl, HNO'.out⟩⟩
              case measure => simp [intOf]; omega
          · have hjx : j = x := by omega
            subst hjx
            have HF : Hid ((List.range j).find? (fun y => decide ((bnd ns us ns us 16).getD y 0 = (bnd ns us ns us 16).getD j 0)) = none) := Lib.hid (by
              rw [List.find?_eq_none]
              intro y hy
              rw [List.mem_range] at hy
              rw [decide_eq_true_eq]
              exact hno y hy)
            rw [HF.out] at HD
            have HD2 : Hid (bcl ns us (j + 1) = (dl ++ [dc], dc + 1)) := Lib.hid HD.out
            clear hno HF HD
            go_wp2_with (at_builtin; refine stopHere ?_)
            refine goHere ?_
            refine ap_one (K := cI) _ ty_int64 rfl _ _ rfl (B := w1.heap.size) (xs := li dl) rfl HO.out (dc : Int) rfl rfl (by rw [HLd.out]; omega) hsz ?_
            intro v1 w5 ho1 hg1 hb1 hat1
            have O1 := Lib.hid ho1
            have HB5 := Lib.hid (HBx.out.trans hb1)
            clear ho1 hg1 hb1 hat1
            go_wp2
            go_roundw
            case rel => exact ⟨j + 1, by omega, by go_num, by rw [HD2.out]; go_num, by rw [HD2.out, show li (dl ++ [dc]) = li dl ++ [(dc : Int)] from li_append _ _]; exact O1.out, HB5.out⟩
            case measure => simp [intOf]; omega
        · rw [hfi] at HD
          have HD2 : Hid (bcl ns us (x + 1) = (dl ++ [dl.getD i 0], dc)) := Lib.hid HD.out
          clear hfi HD
          generalize hq : dl.getD i 0 = q at *
          have HQ := Lib.hid hq
          clear hq
          have hd1 : decide ((q : Int) < 0) = false := decide_eq_false (by omega)
          by_cases hjx : j < x
          all_goals
            go_wp2_with (at_builtin; refine stopHere ?_)
            refine goHere ?_
            refine ap_one (K := cI) _ ty_int64 rfl _ _ rfl (B := w1.heap.size) (xs := li dl) rfl HO.out (q : Int) rfl rfl (by rw [HLd.out]; omega) hsz ?_
            intro v1 w5 ho1 hg1 hb1 hat1
            have O1 := Lib.hid ho1
            have HB5 := Lib.hid (HBx.out.trans hb1)
            clear ho1 hg1 hb1 hat1
            go_wp2
            go_roundw
            case rel => exact ⟨x + 1, by omega, by go_num, by rw [HD2.out], by rw [HD2.out, show li (dl ++ [q]) = li dl ++ [(q : Int)] from li_append _ _]; exact O1.out, HB5.out⟩
            case measure => simp [intOf]; omega
    · obtain rfl : x = ns.length := by omega
      have hO2 := Lib.hid (ho.mono (Nat.le_trans HB.out.size hsz1))
      clear ho hb hkx
      go_wp2
      go_ret
      exact ⟨_, _, rfl, hO2.out, bthen HB.out (HB1.out.trans (HBx.out.mono hsz1))⟩
theorem spec_BisimulationClasses_ok (ns us : List Nat) (A0 A1 : Option Addr) (c0 c1 : Nat) (w : World) (hm : Mdl w (.slice A0 ns.length c0) (.slice A1 6 c1) ns us) (h1 : MdN ns us) (hok : mdOk ns.length (li ns) (li us) = true) :
    Calls Tryz.prog 11 #[.agg #[.int .i64 ns.length, .slice A0 ns.length c0, .slice A1 6 c1]] w
      fun e w' => ∃ u, e = .returned (.tuple #[u, .int .i64 0]) ∧ Ow cI 2 w.heap.size w' u (li (bcl ns us ns.length).1) ∧ Below w.heap.size w w' := by
  have h8 := h1.r.1
  have hb0 := below_alloc' w (.cells #[.int .i64 ns.length, .slice A0 ns.length c0, .slice A1 6 c1] 28)
  have hk0 := Blk.new w 28 #[.int .i64 ns.length, .slice A0 ns.length c0, .slice A1 6 c1]
  have HB := Lib.hid hb0
  have HK0 := Lib.hid hk0
  have E1 := Lib.hid (li_length ns)
  have E2 := Lib.hid (show (li us).length = 6 by rw [li_length, h1.l])
  have HI := Lib.hid (fun W (hW : Below w.heap.size w W) => hok ▸ spec_l06Is ns.length _ _ (li ns) (li us) W (hm.a.below hW) (hm.u.below hW) (by rw [E1.out]; omega) (by rw [E2.out]; omega))
  have HC := Lib.hid (fun W (hW : Below w.heap.size w W) => spec_l07Classes ns us A0 A1 c0 c1 W (hm.below hW) h1)
  clear hb0 hk0 hm h1 hok
  go_enter Tryz.func11, Tryz.ntmps11
  go_upto_region 1 with fail
  generalize World.alloc w _ = W at *
  have k0 := HK0.out.cell
  have l0 := HK0.out.lt
  go_wp2_with fail
  refine (HI.out _ HB.out).mono ?_
  rintro e w1 ⟨rfl, hb⟩
  have HB1 := Lib.hid (bthen HB.out hb)
  have k1 := (HK0.out.below hb l0).cell
  have l1 := (HK0.out.below hb l0).lt
  clear k0 hb
  go_wp2_with fail
  refine (HC.out _ HB1.out).mono ?_
  rintro e w2 ⟨A, c, rfl, ho, hb⟩
  have HO := Lib.hid (ho.mono HB1.out.size)
  have HB2 := Lib.hid (bthen HB1.out hb)
  clear ho hb k1
  go_wp2
  go_ret2
  exact ⟨_, rfl, HO.out, HB2.out⟩
theorem spec_BisimulationClasses_bad (n : Int) (va vu : Value) (xs vs : List Int) (w : World) (ha : Sl cI w va xs) (hu : Sl cI w vu vs) (hl : xs.length ≤ 1048576) (hl' : vs.length ≤ 1048576) (hc : mdOk n xs vs = false) :
    Calls Tryz.prog 11 #[.agg #[.int .i64 n, va, vu]] w fun e w' => e = .returned (.tuple #[.slice none 0 0, .int .i64 1]) ∧ Below w.heap.size w w' := by
  obtain ⟨A0, c0, rfl⟩ := ha.opn
  obtain ⟨A1, c1, rfl⟩ := hu.opn
  have hb0 := below_alloc' w (.cells #[.int .i64 n, .slice A0 xs.length c0, .slice A1 vs.length c1] 28)
  have hk0 := Blk.new w 28 #[.int .i64 n, .slice A0 xs.length c0, .slice A1 vs.length c1]
  have HB := Lib.hid hb0
  have HK0 := Lib.hid hk0
  have HI := Lib.hid (hc ▸ spec_l06Is n _ _ xs vs _ (ha.below hb0) (hu.below hb0) (by omega) (by omega))
  clear ha hu hb0 hk0 hc
  go_enter Tryz.func11, Tryz.ntmps11
  go_upto_region 1 with fail
  generalize World.alloc w _ = W at *
  have k0 := HK0.out.cell
  have l0 := HK0.out.lt
  go_wp2_with fail
  refine HI.out.mono ?_
  rintro e w1 ⟨rfl, hb⟩
  have HB1 := Lib.hid (bthen HB.out hb)
  clear k0 hb
  go_wp2
  go_ret2
  exact ⟨rfl, HB1.out⟩
/- Contracts of BisimulationClasses, of the program: arguments that are no model. -/
theorem impl_BisimulationClasses_bad (n : Int) (va vu : Value) (xs vs : List Int) (w : World) (ha : Sl cI w va xs) (hu : Sl cI w vu vs) (hl : xs.length ≤ 1048576) (hl' : vs.length ≤ 1048576) (hc : mdOk n xs vs = false) :
    Calls Tryz.prog 10 #[.agg #[.int .i64 n, va, vu]] w fun e w' => e = .returned (.tuple #[.slice none 0 0, .int .i64 1]) ∧ Below w.heap.size w w' := by
  obtain ⟨A0, c0, rfl⟩ := ha.opn
  obtain ⟨A1, c1, rfl⟩ := hu.opn
  have hb0 := below_alloc' w (.cells #[.int .i64 n, .slice A0 xs.length c0, .slice A1 vs.length c1] 28)
  have hk0 := Blk.new w 28 #[.int .i64 n, .slice A0 xs.length c0, .slice A1 vs.length c1]
  have HB := Lib.hid hb0
  have HK0 := Lib.hid hk0
  have HI := Lib.hid (hc ▸ impl_isModel n _ _ xs vs _ (ha.below hb0) (hu.below hb0) (by omega) (by omega))
  clear ha hu hb0 hk0 hc
  go_enter Tryz.func10, Tryz.ntmps10
  go_upto_region 1 with fail
  generalize World.alloc w _ = W at *
  have k0 := HK0.out.cell
  have l0 := HK0.out.lt
  go_wp2_with fail
  refine HI.out.mono ?_
  rintro e w1 ⟨rfl, hb⟩
  have HB1 := Lib.hid (bthen HB.out hb)
  clear k0 hb
  go_wp2
  go_ret2
  exact ⟨rfl, HB1.out⟩
theorem impl_BisimulationClasses_ok (ns us : List Nat) (A0 A1 : Option Addr) (c0 c1 : Nat) (w : World) (hm : Mdl w (.slice A0 ns.length c0) (.slice A1 6 c1) ns us) (h1 : MdN ns us) (hok : mdOk ns.length (li ns) (li us) = true) :
    Calls Tryz.prog 10 #[.agg #[.int .i64 ns.length, .slice A0 ns.length c0, .slice A1 6 c1]] w
      fun e w' => ∃ u, e = .returned (.tuple #[u, .int .i64 0]) ∧ Ow cI 2 w.heap.size w' u (li (bcl ns us ns.length).1) ∧ Below w.heap.size w w' := by
  have h8 := h1.r.1
  have hb0 := below_alloc' w (.cells #[.int .i64 ns.length, .slice A0 ns.length c0, .slice A1 6 c1] 28)
  have hk0 := Blk.new w 28 #[.int .i64 ns.length, .slice A0 ns.length c0, .slice A1 6 c1]
  have HB := Lib.hid hb0
  have HK0 := Lib.hid hk0
  have E1 := Lib.hid (li_length ns)
  have E2 := Lib.hid (show (li us).length = 6 by rw [li_length, h1.l])
  have HI := Lib.hid (fun W (hW : Below w.heap.size w W) => hok ▸ impl_isModel ns.length _ _ (li ns) (li us) W (hm.a.below hW) (hm.u.below hW) (by rw [E1.out]; omega) (by rw [E2.out]; omega))
  have HC := Lib.hid (fun W (hW : Below w.heap.size w W) => impl_bisimilar ns us ns us A0 A1 A0 A1 c0 c1 c0 c1 W (hm.below hW) (hm.below hW) h1 h1)
  have HD := Lib.hid (fun v W (hW : Sl cI W v (li (bnd ns us ns us 16))) => impl_classesOf v (bnd ns us ns us 16) W hW (fun i => Nat.lt_of_lt_of_le (getD_lt (bnd_lt ns us ns us 16) i) (two_pow_256 h8)) (by rw [bnd_length]; omega))
  have HE : Hid ((dvd (fun y => (bnd ns us ns us 16).getD y 0) (bnd ns us ns us 16).length).1 = (bcl ns us ns.length).1) := Lib.hid (by rw [bnd_length]; rfl)
  clear hb0 hk0 hm h1 hok
  go_enter Tryz.func10, Tryz.ntmps10
  go_upto_region 1 with fail
  generalize World.alloc w _ = W at *
  have k0 := HK0.out.cell
  have l0 := HK0.out.lt
  go_wp2_with fail
  refine (HI.out _ HB.out).mono ?_
  rintro e w1 ⟨rfl, hb⟩
  have HB1 := Lib.hid (bthen HB.out hb)
  have k1 := (HK0.out.below hb l0).cell
  have l1 := (HK0.out.below hb l0).lt
  clear k0 hb
  go_wp2_with fail
  refine (HC.out _ HB1.out).mono ?_
  rintro e w2 ⟨A, c, rfl, hg, hb⟩
  have HG := Lib.hid hg
  have HB2 := Lib.hid (bthen HB1.out hb)
  clear hg hb k1
  go_wp2_with fail
  refine (HD.out _ _ HG.out).mono ?_
  rintro e w3 ⟨u, rfl, ho, hb⟩
  rw [HE.out] at ho
  obtain ⟨Au, cu, rfl⟩ := ho.opn
  have HO := Lib.hid (ho.mono HB2.out.size)
  have HB3 := Lib.hid (bthen HB2.out hb)
  clear ho hb
  go_wp2
  go_ret2
  exact ⟨_, rfl, HO.out, HB3.out⟩
end Go.Proofs.YtnolbgdbboiehaaGreat
