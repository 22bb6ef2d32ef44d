/- The reference's drawing of Heyting algebras, by the shape of what is drawn: l18Bend, l18Some, l18Draw. Written by gen19G.py. -/
import Derived.Test.YtgkogfjifcfkoaaGreatY46
namespace Go.Proofs.YtgkogfjifcfkoaaGreat
open Go.RowKit
set_option linter.unusedVariables false
set_option linter.unusedSimpArgs false
theorem ObS.owT {lo hi : Nat} {w : World} {v : Value} {xss : List (List Int)} (h : ObS lo hi w v xss) : OwT lo w v xss := by
  obtain ⟨hs, h1, h2, h3, h4, h5⟩ := h
  refine ⟨hs, h1, h2, fun i a b => ⟨(h4 i a b).1, ?_⟩⟩
  cases hq : hs[i].val.ownBlock with
  | none => exact .inl rfl
  | some k => exact .inr fun e => ((h4 i a b).2 k hq).2 e.symm
/-- a table, or one without its first row -/
def Tb (B : Nat) (W : World) (v : Value) (X : List (List Int)) : Prop :=
  (X = [] ∧ ∃ A c, v = .slice A 0 c ∧ c ≤ 9223372036854775807) ∨ ∃ u Y, OwT B W u Y ∧ ((v = u ∧ X = Y) ∨ ∃ g n c, u = .slice (some ⟨g, 0, none⟩) n c ∧ v = .slice (some ⟨g, 1, none⟩) (n - 1) (c - 1) ∧ 1 ≤ n ∧ X = Y.drop 1)
theorem Tb.sl {B : Nat} {W : World} {v : Value} {X : List (List Int)} (h : Tb B W v X) : Sl2 cI W v X := by
  obtain ⟨rfl, A, c, rfl, hc⟩ | ⟨u, Y, hu, ⟨rfl, rfl⟩ | ⟨g, n, c, rfl, rfl, hn, rfl⟩⟩ := h
  · exact ⟨[], ⟨A, c, rfl, Nat.zero_le _, hc, Rd.nil⟩, rfl, fun i a => by simp at a⟩
  · exact hu.sl2
  · obtain ⟨hs, h1, h2, h3⟩ := hu
    obtain ⟨⟨A', c', e1, e2, e3⟩, -⟩ := id h1
    injection e1 with e4 e5 e6
    subst e6
    have q := Sl.cutAt (A' := some ⟨g, 1, none⟩) (n' := n - 1) (c' := c - 1) h1.sl (i := 1) (j := hs.length) (by omega) (Nat.le_refl _) (by omega) (fun b o e => by
      injection e with e
      injection e with e8 e9
      subst e8
      subst e9
      rfl) (by omega) (by omega)
    rw [List.take_of_length_le (by rw [List.length_drop]; exact Nat.le_refl _)] at q
    refine ⟨hs.drop 1, q, by rw [List.length_drop, List.length_drop, h2], fun i a b => ?_⟩
    rw [List.getElem_drop, List.getElem_drop]
    exact (h3 _ _ _).1.sl
theorem Tb.of {B : Nat} {W : World} {v : Value} {X : List (List Int)} (h : OwT B W v X) : Tb B W v X := .inr ⟨v, X, h, .inl ⟨rfl, rfl⟩⟩
theorem Tb.map {B B' : Nat} {W W' : World} {v : Value} {X : List (List Int)} (h : Tb B W v X) (hk : ∀ u Y, OwT B W u Y → OwT B' W' u Y) : Tb B' W' v X := by
  rcases h with h | ⟨u, Y, hu, hh⟩
  · exact .inl h
  · exact .inr ⟨u, Y, hk u Y hu, hh⟩
theorem Tb.tl {B : Nat} {W : World} {g n c : Nat} {Y : List (List Int)} (h : OwT B W (.slice (some ⟨g, 0, none⟩) n c) Y) (hn : 1 ≤ n) : Tb B W (.slice (some ⟨g, 1, none⟩) (n - 1) (c - 1)) (Y.drop 1) :=
  .inr ⟨_, Y, h, .inr ⟨g, n, c, rfl, rfl, hn, rfl⟩⟩
/-- three drawn tables -/
structure Dw (B : Nat) (W : World) (a o i : Value) (A O I : List (List Int)) : Prop where
  sz : SzH A O I
  a : OwT B W a A
  o : Tb B W o O
  i : OwT B W i I
section
variable {B B' : Nat} {W W' : World} {a o i : Value} {A O I : List (List Int)}
theorem Dw.hy (h : Dw B W a o i A O I) : Hy W a o i A O I := ⟨h.a.sl2, h.o.sl, h.i.sl2⟩
theorem Dw.below (h : Dw B W a o i A O I) (hb : Below W.heap.size W W') : Dw B W' a o i A O I := ⟨h.sz, h.a.below hb, h.o.map fun u Y q => q.below hb, h.i.below hb⟩
theorem Dw.mono (h : Dw B W a o i A O I) (hb : B' ≤ B) : Dw B' W a o i A O I := ⟨h.sz, h.a.mono hb, h.o.map fun u Y q => q.mono hb, h.i.mono hb⟩
theorem Dw.setBelow (h : Dw B W a o i A O I) {p : Addr} (hp : p.block < B) (u : Value) : Dw B (W.setCell p u) a o i A O I := ⟨h.sz, h.a.setBelow hp u, h.o.map fun _ _ q => q.setBelow hp u, h.i.setBelow hp u⟩
theorem Dw.kept {g : Nat} (h : Dw B W a o i A O I) (hg : W.grownBy W' (some g)) (hB : g < B) : Dw B W' a o i A O I := ⟨h.sz, h.a.kept hg hB, h.o.map fun _ _ q => q.kept hg hB, h.i.kept hg hB⟩
theorem Dw.opn (h : Dw B W a o i A O I) : ∃ va ca vo co vi ci, a = .slice va A.length ca ∧ o = .slice vo O.length co ∧ i = .slice vi I.length ci := by
  obtain ⟨va, ca, e1⟩ := h.a.sl2.opn
  obtain ⟨vo, co, e2⟩ := h.o.sl.opn
  obtain ⟨vi, ci, e3⟩ := h.i.sl2.opn
  exact ⟨va, ca, vo, co, vi, ci, e1, e2, e3⟩
end
theorem SzT.set_ {X : List (List Int)} (h : SzT X) (x y : Nat) (z : Int) (hx : x < X.length) : SzT (X.set x ((X[x]).set y z)) := by
  refine ⟨by rw [List.length_set]; exact h.l, fun r hr => ?_⟩
  rcases List.mem_or_eq_of_mem_set hr with h1 | h1
  · exact h.r r h1
  · rw [h1, List.length_set]
    exact h.r _ (List.getElem_mem hx)
theorem SzT.drop_ {X : List (List Int)} (h : SzT X) : SzT (X.drop 1) :=
  ⟨Nat.le_trans (by rw [List.length_drop]; omega) h.l, fun r hr => h.r r (List.mem_of_mem_drop hr)⟩
theorem Bt.dw {B : Nat} {W : World} {a o i : Value} {ns : List Nat} (h : Bt B W a o i ns) (h30 : ns.length ≤ 30) : Dw B W a o i (tabI (fA ns) ns.length ns.length) (tabI (fO ns) ns.length ns.length) (tabI (fI ns) ns.length ns.length) :=
  ⟨built_sz ns h30, h.a, Tb.of h.o, h.i⟩
theorem gr_cell {w w' : World} {g : Nat} (h : w.grownBy w' (some g)) {p : Addr} (hp : p.block < w.heap.size) (hg : p.block ≠ g) : w'.cell? p = w.cell? p := by
  have := h.block p.block hp (fun e => hg (by injection e))
  unfold World.cell?
  rw [this]
theorem tabI_row (f : Nat → Nat → Int) {n k x : Nat} (hx : x < (tabI f n k).length) : ((tabI f n k)[x]).length = n := by
  rw [tabI_get, rowI_length]
set_option maxRecDepth 100000 in
set_option maxHeartbeats 8000000 in
theorem spec_l18Bend (w0 : World) (v : Value) (xs : List (Fin 256)) (w : World) (g B : Nat) (a o i : Value) (ns : List Nat) (S : Src 95 w0 v xs w g) (hgB : g < B) (hBw : B ≤ w.heap.size) (hBt : Bt B w a o i ns) (h1 : 1 ≤ ns.length) (h30 : ns.length ≤ 30) :
    Calls Tryz.prog 109 #[.pointer (some ⟨g, 0, none⟩), .agg #[a, o, i, .int .i64 (botI ns), .int .i64 (topI ns)]] w fun e w' => ∃ a' o' i' b' t' A O I, e = .returned (.agg #[a', o', i', .int .i64 b', .int .i64 t']) ∧ A.length = ns.length ∧ Dw B w' a' o' i' A O I ∧ Src 95 w0 v xs w' g ∧ w.grownBy w' (some g) := by
  obtain ⟨va, ca, vo, co, vi, ci, rfl, rfl, rfl⟩ := hBt.opn
  generalize botI ns = bt at *
  generalize topI ns = tp at *
  have DW0 := Lib.hid (hBt.dw h30)
  have TAL := Lib.hid (tabI_length (fA ns) ns.length ns.length)
  have TOL := Lib.hid (tabI_length (fO ns) ns.length ns.length)
  have TIL := Lib.hid (tabI_length (fI ns) ns.length ns.length)
  have HT := Lib.hid hBt
  obtain ⟨TA, hTA⟩ : ∃ X, tabI (fA ns) ns.length ns.length = X := ⟨_, rfl⟩
  obtain ⟨TO, hTO⟩ : ∃ X, tabI (fO ns) ns.length ns.length = X := ⟨_, rfl⟩
  obtain ⟨TI, hTI⟩ : ∃ X, tabI (fI ns) ns.length ns.length = X := ⟨_, rfl⟩
  rw [hTA] at DW0 TAL
  rw [hTO] at DW0 TOL
  rw [hTI] at DW0 TIL
  have OA : Hid (OwT B w (.slice va ns.length ca) TA) := Lib.hid (hTA ▸ hBt.a)
  have OO : Hid (OwT B w (.slice vo ns.length co) TO) := Lib.hid (hTO ▸ hBt.o)
  have OI : Hid (OwT B w (.slice vi ns.length ci) TI) := Lib.hid (hTI ▸ hBt.i)
  have RAL : Hid (∀ x (hx : x < TA.length), (TA[x]).length = ns.length) := Lib.hid (by rw [← hTA]; exact fun x hx => tabI_row _ hx)
  have ROL : Hid (∀ x (hx : x < TO.length), (TO[x]).length = ns.length) := Lib.hid (by rw [← hTO]; exact fun x hx => tabI_row _ hx)
  have RIL : Hid (∀ x (hx : x < TI.length), (TI[x]).length = ns.length) := Lib.hid (by rw [← hTI]; exact fun x hx => tabI_row _ hx)
  clear hTA hTO hTI hBt HT
  obtain ⟨n, hn⟩ : ∃ n, ns.length = n := ⟨_, rfl⟩
  rw [hn] at DW0 TAL TOL TIL RAL ROL RIL OA OO OI h1 h30 ⊢
  clear hn
  have C2 : Hid (∀ X, OwT B X (.slice va n ca) TA → Calls Tryz.prog 72 #[.agg #[.slice va n ca, .slice vo n co, .slice vi n ci, .int .i64 bt, .int .i64 tp]] X fun e w' => e = .returned (.int .i64 (n : Int)) ∧ Below X.heap.size X w') := Lib.hid (fun X hX => by
    have := spec_l18Size (.slice va n ca) (.slice vo n co) (.slice vi n ci) bt tp TA X hX.sl2
    rwa [TAL.out] at this)
  have COW : Hid (∀ X u Y, OwT B X u Y → SzT Y → Calls Tryz.prog 158 #[u] X fun e w' => ∃ u, e = .returned u ∧ ObS X.heap.size w'.heap.size w' u Y ∧ Below X.heap.size X w') := Lib.hid (fun X u Y hX hY => spec_l01Own2 u Y X hX.sl2 hY.l hY.r)
  have hb0 := below_alloc' w (.cells #[.slice va n ca, .slice vo n co, .slice vi n ci, .int .i64 bt, .int .i64 tp] 26)
  have hk0 := Blk.new w 26 #[.slice va n ca, .slice vo n co, .slice vi n ci, .int .i64 bt, .int .i64 tp]
  have hb1 := below_alloc' (w.alloc (.cells #[.slice va n ca, .slice vo n co, .slice vi n ci, .int .i64 bt, .int .i64 tp] 26)) (.cells #[.slice none 0 0, .slice none 0 0, .slice none 0 0, .int .i64 0, .int .i64 0] 26)
  have R : Hid (Blk ((w.alloc (.cells #[.slice va n ca, .slice vo n co, .slice vi n ci, .int .i64 bt, .int .i64 tp] 26)).alloc (.cells #[.slice none 0 0, .slice none 0 0, .slice none 0 0, .int .i64 0, .int .i64 0] 26)) (w.heap.size + 1) 26 #[.slice none 0 0, .slice none 0 0, .slice none 0 0, .int .i64 0, .int .i64 0]) := Lib.hid (Blk.new' _ _ _ (by simp))
  have D := Lib.hid (((Dg.start S).below hb0).below hb1)
  have HK := Lib.hid (hk0.below hb1 hk0.lt)
  have HG := Lib.hid hgB
  have HW := Lib.hid hBw
  have HL1 := Lib.hid h1
  clear hb0 hb1 hk0 S hgB hBw h1
  go_enter Tryz.func109, Tryz.ntmps109
  go_upto_region 1 with fail
  generalize World.alloc (w.alloc _) _ = W at *
  have kh := HK.out.cell
  have lh := HK.out.lt
  go_wp2_with fail
  refine (C2.out _ (OA.out.kept D.out.gr HG.out)).mono ?_
  rintro e w1 ⟨rfl, hb⟩
  clear kh lh C2
  replace HK := Lib.hid (HK.out.below hb HK.out.lt)
  replace R := Lib.hid (R.out.below hb R.out.lt)
  replace D := Lib.hid (D.out.below hb)
  clear hb
  go_wp2_with fail
  refine (spec_l01Next _ _ _ _ _ (n : Int) D.out.S (by have := HL1.out; omega) (by omega)).mono ?_
  rintro e w2 ⟨x, rfl, hx, hS, hg, -⟩
  replace HK := Lib.hid (D.out.blk HK.out (Nat.le_refl _) hg)
  replace R := Lib.hid (D.out.blk R.out (Nat.le_succ _) hg)
  replace D := Lib.hid (D.out.call hS hg)
  clear hS hg
  go_wp2_with fail
  refine (spec_l01Next _ _ _ _ _ (n : Int) D.out.S (by have := HL1.out; omega) (by omega)).mono ?_
  rintro e w3 ⟨y, rfl, hy, hS, hg, -⟩
  replace HK := Lib.hid (D.out.blk HK.out (Nat.le_refl _) hg)
  replace R := Lib.hid (D.out.blk R.out (Nat.le_succ _) hg)
  replace D := Lib.hid (D.out.call hS hg)
  clear hS hg
  have kh := HK.out.cell
  have lh := HK.out.lt
  go_wp2_with fail
  refine (COW.out _ _ _ (OI.out.kept D.out.gr HG.out) DW0.out.sz.i).mono ?_
  rintro e w4 ⟨u0, rfl, OT, hb⟩
  clear kh lh
  replace OT := Lib.hid (OT.wide (show w.heap.size + 2 ≤ w3.heap.size from R.out.lt) (Nat.le_refl _))
  obtain ⟨hi, hhi⟩ : ∃ hi, w4.heap.size = hi := ⟨_, rfl⟩
  rw [hhi] at OT
  clear hhi
  replace HK := Lib.hid (HK.out.below hb HK.out.lt)
  replace R := Lib.hid (R.out.below hb R.out.lt)
  replace D := Lib.hid (D.out.below hb)
  clear hb
  have hxn : x < n := by omega
  have hyn : y < n := by omega
  have GLT : Hid (g < w.heap.size + 2) := Lib.hid (by have := HG.out; have := HW.out; omega)
  have OTg : Hid (∀ (hi : Nat) (X Y : World), X.grownBy Y (some g) → ∀ u Z, ObS (w.heap.size + 2) hi X u Z → ObS (w.heap.size + 2) hi Y u Z) := Lib.hid (fun hi X Y hg u Z h => h.grown hg (fun k e => by injection e with e; subst e; exact .inl GLT.out))
  clear hx hy
  obtain ⟨vu, cu, rfl⟩ := OT.out.opn
  rw [TIL.out] at OT ⊢
  go_wp2_with fail
  refine (spec_l01Next _ _ _ _ _ 6 D.out.S (by omega) (by omega)).mono ?_
  rintro e w5 ⟨k6, rfl, hk6, hS, hg, -⟩
  replace HK := Lib.hid (D.out.blk HK.out (Nat.le_refl _) hg)
  replace R := Lib.hid (D.out.blk R.out (Nat.le_succ _) hg)
  replace OT := Lib.hid (OTg.out _ _ _ hg _ _ OT.out)
  replace D := Lib.hid (D.out.call hS hg)
  clear hS hg
  have hk7 : k6 = 0 ∨ k6 = 1 ∨ k6 = 2 ∨ k6 = 3 ∨ k6 = 4 ∨ k6 = 5 := by omega
  clear hk6
  rcases hk7 with rfl | rfl | rfl | rfl | rfl | rfl
  · skip
    go_wp2_with fail
    refine (spec_l01Next _ _ _ _ _ ((n : Int) + 2) D.out.S (by omega) (by omega)).mono ?_
    rintro e w6 ⟨kk, rfl, hkk, hS, hg, -⟩
    replace HK := Lib.hid (D.out.blk HK.out (Nat.le_refl _) hg)
    replace R := Lib.hid (D.out.blk R.out (Nat.le_succ _) hg)
    replace D := Lib.hid (D.out.call hS hg)
    clear hS hg
    have kh := HK.out.cell
    have fh := HK.out.frozen
    have lh := HK.out.lt
    go_upto_region 22 with fail
    replace HK := Lib.hid (HK.out.set_ 3 (.int .i64 ((kk : Int) - 1)))
    replace R := Lib.hid (R.out.far (p := ⟨w.heap.size, 3, none⟩) (Nat.succ_ne_self _) (.int .i64 ((kk : Int) - 1)))
    replace D := Lib.hid (D.out.set (p := ⟨w.heap.size, 3, none⟩) (Nat.le_refl _) (.int .i64 ((kk : Int) - 1)))
    clear kh fh lh
    generalize World.setCell w6 _ _ = w7 at *
    have kh := HK.out.cell
    have lh := HK.out.lt
    have k0 : w7.cell? ⟨w.heap.size, 0, none⟩ = some (.slice va n ca) := kh 0
    have k1 : w7.cell? ⟨w.heap.size, 1, none⟩ = some (.slice vo n co) := kh 1
    have k2 : w7.cell? ⟨w.heap.size, 2, none⟩ = some (.slice vi n ci) := kh 2
    have k3 : w7.cell? ⟨w.heap.size, 3, none⟩ = some (.int .i64 ((kk : Int) - 1)) := kh 3
    have k4 : w7.cell? ⟨w.heap.size, 4, none⟩ = some (.int .i64 tp) := kh 4
    clear kh
    have kr := R.out.cell
    have fr := R.out.frozen
    have lr := R.out.lt
    go_wp2
    refine bodyPost_ret (v := .agg #[.slice va n ca, .slice vo n co, .slice vi n ci, .int .i64 ((kk : Int) - 1), .int .i64 tp]) (by simp [results, Tryz.results109, go_sem, kr, fr, lr]) rfl ⟨_, _, _, _, _, TA, TO, TI, rfl, TAL.out, ?_, ?_, ?_⟩
    · have DF := (Dg.set (Dg.set (Dg.set (Dg.set (Dg.set D.out (p := ⟨w.heap.size + 1, 0, none⟩) (Nat.le_succ _) (.slice va n ca)) (p := ⟨w.heap.size + 1, 1, none⟩) (Nat.le_succ _) (.slice vo n co)) (p := ⟨w.heap.size + 1, 2, none⟩) (Nat.le_succ _) (.slice vi n ci)) (p := ⟨w.heap.size + 1, 3, none⟩) (Nat.le_succ _) (.int .i64 ((kk : Int) - 1))) (p := ⟨w.heap.size + 1, 4, none⟩) (Nat.le_succ _) (.int .i64 tp))
      exact ⟨DW0.out.sz, (OA.out.kept DF.gr HG.out), Tb.of (OO.out.kept DF.gr HG.out), (OI.out.kept DF.gr HG.out)⟩
    · exact (Dg.set (Dg.set (Dg.set (Dg.set (Dg.set D.out (p := ⟨w.heap.size + 1, 0, none⟩) (Nat.le_succ _) (.slice va n ca)) (p := ⟨w.heap.size + 1, 1, none⟩) (Nat.le_succ _) (.slice vo n co)) (p := ⟨w.heap.size + 1, 2, none⟩) (Nat.le_succ _) (.slice vi n ci)) (p := ⟨w.heap.size + 1, 3, none⟩) (Nat.le_succ _) (.int .i64 ((kk : Int) - 1))) (p := ⟨w.heap.size + 1, 4, none⟩) (Nat.le_succ _) (.int .i64 tp)).S
    · exact (Dg.set (Dg.set (Dg.set (Dg.set (Dg.set D.out (p := ⟨w.heap.size + 1, 0, none⟩) (Nat.le_succ _) (.slice va n ca)) (p := ⟨w.heap.size + 1, 1, none⟩) (Nat.le_succ _) (.slice vo n co)) (p := ⟨w.heap.size + 1, 2, none⟩) (Nat.le_succ _) (.slice vi n ci)) (p := ⟨w.heap.size + 1, 3, none⟩) (Nat.le_succ _) (.int .i64 ((kk : Int) - 1))) (p := ⟨w.heap.size + 1, 4, none⟩) (Nat.le_succ _) (.int .i64 tp)).gr
  · skip
    go_wp2_with fail
    refine (spec_l01Next _ _ _ _ _ ((n : Int) + 2) D.out.S (by omega) (by omega)).mono ?_
    rintro e w6 ⟨kk, rfl, hkk, hS, hg, -⟩
    replace HK := Lib.hid (D.out.blk HK.out (Nat.le_refl _) hg)
    replace R := Lib.hid (D.out.blk R.out (Nat.le_succ _) hg)
    replace D := Lib.hid (D.out.call hS hg)
    clear hS hg
    have kh := HK.out.cell
    have fh := HK.out.frozen
    have lh := HK.out.lt
    go_upto_region 22 with fail
    replace HK := Lib.hid (HK.out.set_ 4 (.int .i64 ((kk : Int) - 1)))
    replace R := Lib.hid (R.out.far (p := ⟨w.heap.size, 4, none⟩) (Nat.succ_ne_self _) (.int .i64 ((kk : Int) - 1)))
    replace D := Lib.hid (D.out.set (p := ⟨w.heap.size, 4, none⟩) (Nat.le_refl _) (.int .i64 ((kk : Int) - 1)))
    clear kh fh lh
    generalize World.setCell w6 _ _ = w7 at *
    have kh := HK.out.cell
    have lh := HK.out.lt
    have k0 : w7.cell? ⟨w.heap.size, 0, none⟩ = some (.slice va n ca) := kh 0
    have k1 : w7.cell? ⟨w.heap.size, 1, none⟩ = some (.slice vo n co) := kh 1
    have k2 : w7.cell? ⟨w.heap.size, 2, none⟩ = some (.slice vi n ci) := kh 2
    have k3 : w7.cell? ⟨w.heap.size, 3, none⟩ = some (.int .i64 bt) := kh 3
    have k4 : w7.cell? ⟨w.heap.size, 4, none⟩ = some (.int .i64 ((kk : Int) - 1)) := kh 4
    clear kh
    have kr := R.out.cell
    have fr := R.out.frozen
    have lr := R.out.lt
    go_wp2
    refine bodyPost_ret (v := .agg #[.slice va n ca, .slice vo n co, .slice vi n ci, .int .i64 bt, .int .i64 ((kk : Int) - 1)]) (by simp [results, Tryz.results109, go_sem, kr, fr, lr]) rfl ⟨_, _, _, _, _, TA, TO, TI, rfl, TAL.out, ?_, ?_, ?_⟩
    · have DF := (Dg.set (Dg.set (Dg.set (Dg.set (Dg.set D.out (p := ⟨w.heap.size + 1, 0, none⟩) (Nat.le_succ _) (.slice va n ca)) (p := ⟨w.heap.size + 1, 1, none⟩) (Nat.le_succ _) (.slice vo n co)) (p := ⟨w.heap.size + 1, 2, none⟩) (Nat.le_succ _) (.slice vi n ci)) (p := ⟨w.heap.size + 1, 3, none⟩) (Nat.le_succ _) (.int .i64 bt)) (p := ⟨w.heap.size + 1, 4, none⟩) (Nat.le_succ _) (.int .i64 ((kk : Int) - 1)))
      exact ⟨DW0.out.sz, (OA.out.kept DF.gr HG.out), Tb.of (OO.out.kept DF.gr HG.out), (OI.out.kept DF.gr HG.out)⟩
    · exact (Dg.set (Dg.set (Dg.set (Dg.set (Dg.set D.out (p := ⟨w.heap.size + 1, 0, none⟩) (Nat.le_succ _) (.slice va n ca)) (p := ⟨w.heap.size + 1, 1, none⟩) (Nat.le_succ _) (.slice vo n co)) (p := ⟨w.heap.size + 1, 2, none⟩) (Nat.le_succ _) (.slice vi n ci)) (p := ⟨w.heap.size + 1, 3, none⟩) (Nat.le_succ _) (.int .i64 bt)) (p := ⟨w.heap.size + 1, 4, none⟩) (Nat.le_succ _) (.int .i64 ((kk : Int) - 1))).S
    · exact (Dg.set (Dg.set (Dg.set (Dg.set (Dg.set D.out (p := ⟨w.heap.size + 1, 0, none⟩) (Nat.le_succ _) (.slice va n ca)) (p := ⟨w.heap.size + 1, 1, none⟩) (Nat.le_succ _) (.slice vo n co)) (p := ⟨w.heap.size + 1, 2, none⟩) (Nat.le_succ _) (.slice vi n ci)) (p := ⟨w.heap.size + 1, 3, none⟩) (Nat.le_succ _) (.int .i64 bt)) (p := ⟨w.heap.size + 1, 4, none⟩) (Nat.le_succ _) (.int .i64 ((kk : Int) - 1))).gr
  · skip
    have hxT : x < TI.length := by rw [TIL.out]; exact hxn
    have hyT : y < (TI[x]).length := by rw [RIL.out x hxT]; exact hyn
    go_upto_region 10 with fail
    have hI : w5.grownBy (w5).drew (some g) := grown_drewN (World.grownBy.refl _ _) 1
    have hLx : (TI[x]).length = n := RIL.out x hxT
    obtain ⟨gT, cT, g2, c2, e9, t1, t2, t3, t4, t5, t6, t7⟩ := OT.out.put hxT hyT
    rw [hLx] at t2
    injection e9 with e9 e10 e11
    subst e9
    clear e10 e11
    have hw2 : IntKind.i64.wrap ((n : Int) + 2) = (n : Int) + 2 := IntWalk.i64_in _ ⟨by omega, by omega⟩
    have hgT : gT ≠ g := fun e => by
      have := OT.out.sl.opn
      obtain ⟨hs9, q1, -⟩ := OT.out
      have := (q1.block gT rfl).1
      have := GLT.out
      omega
    have hxi : (x : Int) < (n : Int) := by omega
    have hyi : (y : Int) < (n : Int) := by omega
    have hx0 : (0 : Int) ≤ (x : Int) := by omega
    have hy0 : (0 : Int) ≤ (y : Int) := by omega
    refine wp_region_sched (fun X : World => w5.grownBy X (some g) ∧ Src 95 w0 v xs X g) 11 [0, 1, 2, 3, 4, 5, 6, 7, 9, 10] [0, 1, 2, 3, 4, 5, 6, 7, 8, 9, 10] (by kernel_rfl) (by kernel_rfl) ⟨hI, (D.out.drewN 1).S⟩ ?_
    have hI2 : w5.grownBy (w5).drew (some g) ∧ Src 95 w0 v xs (w5).drew g := ⟨hI, (D.out.drewN 1).S⟩
    repeat
      apply wpSched_q rfl rfl
      case h =>
        intro w' hI K hK
        have cc0 : w'.cell? ⟨gT, x, none⟩ = some (.slice (some ⟨g2, 0, none⟩) n c2) := (gr_cell hI.1 (p := ⟨gT, x, none⟩) t1 hgT).trans t2
        simp only [quietV, stillV]
        go_simp
        exact hK
      go_simp
    refine wpSched_r rfl rfl ?_ hI2
    intro K hK _
    go_simp
    refine (spec_l01Next _ _ _ _ _ ((n : Int) + 2) hI2.2 (by omega) (by omega)).mono ?_
    rintro e w8 ⟨kk, rfl, hkk, hS, hg, -⟩
    have hI8 := And.intro (hI2.1.trans hg) hS
    refine hK _ _ hI8 ?_
    clear hK K
    repeat
      apply wpSched_q rfl rfl
      case h =>
        intro w' hI K hK
        simp only [quietV, stillV]
        go_simp
        exact hK
      go_simp
    refine wpSched_nil ?_
    try simp only [List.drop_succ_cons, List.drop_zero, List.drop_nil]
    replace OT := Lib.hid (OTg.out _ _ _ hI8.1 _ _ OT.out)
    replace HK := Lib.hid (D.out.blk HK.out (Nat.le_refl _) hI8.1)
    replace R := Lib.hid (D.out.blk R.out (Nat.le_succ _) hI8.1)
    replace D := Lib.hid (D.out.call hI8.2 hI8.1)
    have tx := (gr_cell hI8.1 (p := ⟨gT, x, none⟩) t1 hgT).trans t2
    clear hI hI2 hI8 hS hg hw2 t1 t2 t3 t4 t5 t6 t7
    obtain ⟨gT', cT', g2', c2', e9, t1, t2, t3, t4, t5, t6, t7⟩ := OT.out.put hxT hyT
    rw [hLx] at t2
    injection e9 with e9 e10 e11
    injection e9 with e9
    injection e9 with e9 e12 e13
    subst e9
    have e15 := tx.symm.trans t2
    injection e15 with e15
    injection e15 with e15 e16 e17
    injection e15 with e15
    injection e15 with e15 e18 e19
    subst e15
    have t8 := t7 ((kk : Int) - 1)
    clear e10 e11 e12 e13 e16 e17 e18 e19 tx t7
    go_upto_region 11 with fail
    replace OT := Lib.hid t8
    replace HK := Lib.hid (HK.out.far (p := ⟨g2, y, none⟩) (show w.heap.size ≠ g2 by omega) (.int .i64 ((kk : Int) - 1)))
    replace R := Lib.hid (R.out.far (p := ⟨g2, y, none⟩) (show w.heap.size + 1 ≠ g2 by omega) (.int .i64 ((kk : Int) - 1)))
    replace D := Lib.hid (D.out.set (p := ⟨g2, y, none⟩) (show w.heap.size ≤ g2 by omega) (.int .i64 ((kk : Int) - 1)))
    clear t1 t2 t3 t4 t5 t6 t8
    generalize World.setCell w8 _ _ = w9 at *
    have SZ9 := Lib.hid (SzT.set_ DW0.out.sz.i x y ((kk : Int) - 1) hxT)
    have SL9 : Hid ((TI.set x ((TI[x]).set y ((kk : Int) - 1))).length = n) := Lib.hid (by rw [List.length_set]; exact TIL.out)
    generalize TI.set x ((TI[x]).set y ((kk : Int) - 1)) = T9 at *
    clear hLx hxT hyT hkk
    have kh := HK.out.cell
    have fh := HK.out.frozen
    have lh := HK.out.lt
    go_upto_region 22 with fail
    replace HK := Lib.hid (HK.out.set_ 2 (.slice (some ⟨gT, 0, none⟩) n cu))
    replace R := Lib.hid (R.out.far (p := ⟨w.heap.size, 2, none⟩) (Nat.succ_ne_self _) (.slice (some ⟨gT, 0, none⟩) n cu))
    replace D := Lib.hid (D.out.set (p := ⟨w.heap.size, 2, none⟩) (Nat.le_refl _) (.slice (some ⟨gT, 0, none⟩) n cu))
    replace OT := Lib.hid (OT.out.setBelow (p := ⟨w.heap.size, 2, none⟩) (show w.heap.size < w.heap.size + 2 by omega) (.slice (some ⟨gT, 0, none⟩) n cu))
    clear kh fh lh
    generalize World.setCell w9 _ _ = w7 at *
    have kh := HK.out.cell
    have lh := HK.out.lt
    have k0 : w7.cell? ⟨w.heap.size, 0, none⟩ = some (.slice va n ca) := kh 0
    have k1 : w7.cell? ⟨w.heap.size, 1, none⟩ = some (.slice vo n co) := kh 1
    have k2 : w7.cell? ⟨w.heap.size, 2, none⟩ = some (.slice (some ⟨gT, 0, none⟩) n cu) := kh 2
    have k3 : w7.cell? ⟨w.heap.size, 3, none⟩ = some (.int .i64 bt) := kh 3
    have k4 : w7.cell? ⟨w.heap.size, 4, none⟩ = some (.int .i64 tp) := kh 4
    clear kh
    have kr := R.out.cell
    have fr := R.out.frozen
    have lr := R.out.lt
    go_wp2
    refine bodyPost_ret (v := .agg #[.slice va n ca, .slice vo n co, .slice (some ⟨gT, 0, none⟩) n cu, .int .i64 bt, .int .i64 tp]) (by simp [results, Tryz.results109, go_sem, kr, fr, lr]) rfl ⟨_, _, _, _, _, TA, TO, T9, rfl, TAL.out, ?_, ?_, ?_⟩
    · have DF := (Dg.set (Dg.set (Dg.set (Dg.set (Dg.set D.out (p := ⟨w.heap.size + 1, 0, none⟩) (Nat.le_succ _) (.slice va n ca)) (p := ⟨w.heap.size + 1, 1, none⟩) (Nat.le_succ _) (.slice vo n co)) (p := ⟨w.heap.size + 1, 2, none⟩) (Nat.le_succ _) (.slice (some ⟨gT, 0, none⟩) n cu)) (p := ⟨w.heap.size + 1, 3, none⟩) (Nat.le_succ _) (.int .i64 bt)) (p := ⟨w.heap.size + 1, 4, none⟩) (Nat.le_succ _) (.int .i64 tp))
      exact ⟨⟨DW0.out.sz.a, DW0.out.sz.o, SZ9.out⟩, (OA.out.kept DF.gr HG.out), Tb.of (OO.out.kept DF.gr HG.out), ((OwT.setBelow (OwT.setBelow (OwT.setBelow (OwT.setBelow (OwT.setBelow OT.out.owT (p := ⟨w.heap.size + 1, 0, none⟩) (Nat.lt_succ_self _) (.slice va n ca)) (p := ⟨w.heap.size + 1, 1, none⟩) (Nat.lt_succ_self _) (.slice vo n co)) (p := ⟨w.heap.size + 1, 2, none⟩) (Nat.lt_succ_self _) (.slice (some ⟨gT, 0, none⟩) n cu)) (p := ⟨w.heap.size + 1, 3, none⟩) (Nat.lt_succ_self _) (.int .i64 bt)) (p := ⟨w.heap.size + 1, 4, none⟩) (Nat.lt_succ_self _) (.int .i64 tp)).mono (show B ≤ w.heap.size + 2 by have := HW.out; omega))⟩
    · exact (Dg.set (Dg.set (Dg.set (Dg.set (Dg.set D.out (p := ⟨w.heap.size + 1, 0, none⟩) (Nat.le_succ _) (.slice va n ca)) (p := ⟨w.heap.size + 1, 1, none⟩) (Nat.le_succ _) (.slice vo n co)) (p := ⟨w.heap.size + 1, 2, none⟩) (Nat.le_succ _) (.slice (some ⟨gT, 0, none⟩) n cu)) (p := ⟨w.heap.size + 1, 3, none⟩) (Nat.le_succ _) (.int .i64 bt)) (p := ⟨w.heap.size + 1, 4, none⟩) (Nat.le_succ _) (.int .i64 tp)).S
    · exact (Dg.set (Dg.set (Dg.set (Dg.set (Dg.set D.out (p := ⟨w.heap.size + 1, 0, none⟩) (Nat.le_succ _) (.slice va n ca)) (p := ⟨w.heap.size + 1, 1, none⟩) (Nat.le_succ _) (.slice vo n co)) (p := ⟨w.heap.size + 1, 2, none⟩) (Nat.le_succ _) (.slice (some ⟨gT, 0, none⟩) n cu)) (p := ⟨w.heap.size + 1, 3, none⟩) (Nat.le_succ _) (.int .i64 bt)) (p := ⟨w.heap.size + 1, 4, none⟩) (Nat.le_succ _) (.int .i64 tp)).gr
  · skip
    have kh := HK.out.cell
    have lh := HK.out.lt
    clear OT
    go_wp2_with fail
    refine (COW.out _ _ _ (OA.out.kept D.out.gr HG.out) DW0.out.sz.a).mono ?_
    rintro e w6 ⟨u1, rfl, OT, hb⟩
    clear kh lh
    replace OT := Lib.hid (OT.wide (show w.heap.size + 2 ≤ w5.heap.size from R.out.lt) (Nat.le_refl _))
    obtain ⟨hj, hhj⟩ : ∃ hj, w6.heap.size = hj := ⟨_, rfl⟩
    rw [hhj] at OT
    clear hhj
    replace HK := Lib.hid (HK.out.below hb HK.out.lt)
    replace R := Lib.hid (R.out.below hb R.out.lt)
    replace D := Lib.hid (D.out.below hb)
    clear hb
    obtain ⟨vu, cu, rfl⟩ := OT.out.opn
    rw [TAL.out] at OT ⊢
    have hxT : x < TA.length := by rw [TAL.out]; exact hxn
    have hyT : y < (TA[x]).length := by rw [RAL.out x hxT]; exact hyn
    go_upto_region 14 with fail
    have hI : w6.grownBy (w6).drew (some g) := grown_drewN (World.grownBy.refl _ _) 1
    have hLx : (TA[x]).length = n := RAL.out x hxT
    obtain ⟨gT, cT, g2, c2, e9, t1, t2, t3, t4, t5, t6, t7⟩ := OT.out.put hxT hyT
    rw [hLx] at t2
    injection e9 with e9 e10 e11
    subst e9
    clear e10 e11
    have hw2 : IntKind.i64.wrap ((n : Int) + 2) = (n : Int) + 2 := IntWalk.i64_in _ ⟨by omega, by omega⟩
    have hgT : gT ≠ g := fun e => by
      have := OT.out.sl.opn
      obtain ⟨hs9, q1, -⟩ := OT.out
      have := (q1.block gT rfl).1
      have := GLT.out
      omega
    have hxi : (x : Int) < (n : Int) := by omega
    have hyi : (y : Int) < (n : Int) := by omega
    have hx0 : (0 : Int) ≤ (x : Int) := by omega
    have hy0 : (0 : Int) ≤ (y : Int) := by omega
    refine wp_region_sched (fun X : World => w6.grownBy X (some g) ∧ Src 95 w0 v xs X g) 11 [0, 1, 2, 3, 4, 5, 6, 7, 9, 10] [0, 1, 2, 3, 4, 5, 6, 7, 8, 9, 10] (by kernel_rfl) (by kernel_rfl) ⟨hI, (D.out.drewN 1).S⟩ ?_
    have hI2 : w6.grownBy (w6).drew (some g) ∧ Src 95 w0 v xs (w6).drew g := ⟨hI, (D.out.drewN 1).S⟩
    repeat
      apply wpSched_q rfl rfl
      case h =>
        intro w' hI K hK
        have cc0 : w'.cell? ⟨gT, x, none⟩ = some (.slice (some ⟨g2, 0, none⟩) n c2) := (gr_cell hI.1 (p := ⟨gT, x, none⟩) t1 hgT).trans t2
        simp only [quietV, stillV]
        go_simp
        exact hK
      go_simp
    refine wpSched_r rfl rfl ?_ hI2
    intro K hK _
    go_simp
    refine (spec_l01Next _ _ _ _ _ ((n : Int) + 2) hI2.2 (by omega) (by omega)).mono ?_
    rintro e w8 ⟨kk, rfl, hkk, hS, hg, -⟩
    have hI8 := And.intro (hI2.1.trans hg) hS
    refine hK _ _ hI8 ?_
    clear hK K
    repeat
      apply wpSched_q rfl rfl
      case h =>
        intro w' hI K hK
        simp only [quietV, stillV]
        go_simp
        exact hK
      go_simp
    refine wpSched_nil ?_
    try simp only [List.drop_succ_cons, List.drop_zero, List.drop_nil]
    replace OT := Lib.hid (OTg.out _ _ _ hI8.1 _ _ OT.out)
    replace HK := Lib.hid (D.out.blk HK.out (Nat.le_refl _) hI8.1)
    replace R := Lib.hid (D.out.blk R.out (Nat.le_succ _) hI8.1)
    replace D := Lib.hid (D.out.call hI8.2 hI8.1)
    have tx := (gr_cell hI8.1 (p := ⟨gT, x, none⟩) t1 hgT).trans t2
    clear hI hI2 hI8 hS hg hw2 t1 t2 t3 t4 t5 t6 t7
    obtain ⟨gT', cT', g2', c2', e9, t1, t2, t3, t4, t5, t6, t7⟩ := OT.out.put hxT hyT
    rw [hLx] at t2
    injection e9 with e9 e10 e11
    injection e9 with e9
    injection e9 with e9 e12 e13
    subst e9
    have e15 := tx.symm.trans t2
    injection e15 with e15
    injection e15 with e15 e16 e17
    injection e15 with e15
    injection e15 with e15 e18 e19
    subst e15
    have t8 := t7 ((kk : Int) - 1)
    clear e10 e11 e12 e13 e16 e17 e18 e19 tx t7
    go_upto_region 15 with fail
    replace OT := Lib.hid t8
    replace HK := Lib.hid (HK.out.far (p := ⟨g2, y, none⟩) (show w.heap.size ≠ g2 by omega) (.int .i64 ((kk : Int) - 1)))
    replace R := Lib.hid (R.out.far (p := ⟨g2, y, none⟩) (show w.heap.size + 1 ≠ g2 by omega) (.int .i64 ((kk : Int) - 1)))
    replace D := Lib.hid (D.out.set (p := ⟨g2, y, none⟩) (show w.heap.size ≤ g2 by omega) (.int .i64 ((kk : Int) - 1)))
    clear t1 t2 t3 t4 t5 t6 t8
    generalize World.setCell w8 _ _ = w9 at *
    have SZ9 := Lib.hid (SzT.set_ DW0.out.sz.a x y ((kk : Int) - 1) hxT)
    have SL9 : Hid ((TA.set x ((TA[x]).set y ((kk : Int) - 1))).length = n) := Lib.hid (by rw [List.length_set]; exact TAL.out)
    generalize TA.set x ((TA[x]).set y ((kk : Int) - 1)) = T9 at *
    clear hLx hxT hyT hkk
    have kh := HK.out.cell
    have fh := HK.out.frozen
    have lh := HK.out.lt
    go_upto_region 22 with fail
    replace HK := Lib.hid (HK.out.set_ 0 (.slice (some ⟨gT, 0, none⟩) n cu))
    replace R := Lib.hid (R.out.far (p := ⟨w.heap.size, 0, none⟩) (Nat.succ_ne_self _) (.slice (some ⟨gT, 0, none⟩) n cu))
    replace D := Lib.hid (D.out.set (p := ⟨w.heap.size, 0, none⟩) (Nat.le_refl _) (.slice (some ⟨gT, 0, none⟩) n cu))
    replace OT := Lib.hid (OT.out.setBelow (p := ⟨w.heap.size, 0, none⟩) (show w.heap.size < w.heap.size + 2 by omega) (.slice (some ⟨gT, 0, none⟩) n cu))
    clear kh fh lh
    generalize World.setCell w9 _ _ = w7 at *
    have kh := HK.out.cell
    have lh := HK.out.lt
    have k0 : w7.cell? ⟨w.heap.size, 0, none⟩ = some (.slice (some ⟨gT, 0, none⟩) n cu) := kh 0
    have k1 : w7.cell? ⟨w.heap.size, 1, none⟩ = some (.slice vo n co) := kh 1
    have k2 : w7.cell? ⟨w.heap.size, 2, none⟩ = some (.slice vi n ci) := kh 2
    have k3 : w7.cell? ⟨w.heap.size, 3, none⟩ = some (.int .i64 bt) := kh 3
    have k4 : w7.cell? ⟨w.heap.size, 4, none⟩ = some (.int .i64 tp) := kh 4
    clear kh
    have kr := R.out.cell
    have fr := R.out.frozen
    have lr := R.out.lt
    go_wp2
    refine bodyPost_ret (v := .agg #[.slice (some ⟨gT, 0, none⟩) n cu, .slice vo n co, .slice vi n ci, .int .i64 bt, .int .i64 tp]) (by simp [results, Tryz.results109, go_sem, kr, fr, lr]) rfl ⟨_, _, _, _, _, T9, TO, TI, rfl, SL9.out, ?_, ?_, ?_⟩
    · have DF := (Dg.set (Dg.set (Dg.set (Dg.set (Dg.set D.out (p := ⟨w.heap.size + 1, 0, none⟩) (Nat.le_succ _) (.slice (some ⟨gT, 0, none⟩) n cu)) (p := ⟨w.heap.size + 1, 1, none⟩) (Nat.le_succ _) (.slice vo n co)) (p := ⟨w.heap.size + 1, 2, none⟩) (Nat.le_succ _) (.slice vi n ci)) (p := ⟨w.heap.size + 1, 3, none⟩) (Nat.le_succ _) (.int .i64 bt)) (p := ⟨w.heap.size + 1, 4, none⟩) (Nat.le_succ _) (.int .i64 tp))
      exact ⟨⟨SZ9.out, DW0.out.sz.o, DW0.out.sz.i⟩, ((OwT.setBelow (OwT.setBelow (OwT.setBelow (OwT.setBelow (OwT.setBelow OT.out.owT (p := ⟨w.heap.size + 1, 0, none⟩) (Nat.lt_succ_self _) (.slice (some ⟨gT, 0, none⟩) n cu)) (p := ⟨w.heap.size + 1, 1, none⟩) (Nat.lt_succ_self _) (.slice vo n co)) (p := ⟨w.heap.size + 1, 2, none⟩) (Nat.lt_succ_self _) (.slice vi n ci)) (p := ⟨w.heap.size + 1, 3, none⟩) (Nat.lt_succ_self _) (.int .i64 bt)) (p := ⟨w.heap.size + 1, 4, none⟩) (Nat.lt_succ_self _) (.int .i64 tp)).mono (show B ≤ w.heap.size + 2 by have := HW.out; omega)), Tb.of (OO.out.kept DF.gr HG.out), (OI.out.kept DF.gr HG.out)⟩
    · exact (Dg.set (Dg.set (Dg.set (Dg.set (Dg.set D.out (p := ⟨w.heap.size + 1, 0, none⟩) (Nat.le_succ _) (.slice (some ⟨gT, 0, none⟩) n cu)) (p := ⟨w.heap.size + 1, 1, none⟩) (Nat.le_succ _) (.slice vo n co)) (p := ⟨w.heap.size + 1, 2, none⟩) (Nat.le_succ _) (.slice vi n ci)) (p := ⟨w.heap.size + 1, 3, none⟩) (Nat.le_succ _) (.int .i64 bt)) (p := ⟨w.heap.size + 1, 4, none⟩) (Nat.le_succ _) (.int .i64 tp)).S
    · exact (Dg.set (Dg.set (Dg.set (Dg.set (Dg.set D.out (p := ⟨w.heap.size + 1, 0, none⟩) (Nat.le_succ _) (.slice (some ⟨gT, 0, none⟩) n cu)) (p := ⟨w.heap.size + 1, 1, none⟩) (Nat.le_succ _) (.slice vo n co)) (p := ⟨w.heap.size + 1, 2, none⟩) (Nat.le_succ _) (.slice vi n ci)) (p := ⟨w.heap.size + 1, 3, none⟩) (Nat.le_succ _) (.int .i64 bt)) (p := ⟨w.heap.size + 1, 4, none⟩) (Nat.le_succ _) (.int .i64 tp)).gr
  · skip
    have kh := HK.out.cell
    have lh := HK.out.lt
    clear OT
    go_wp2_with fail
    refine (COW.out _ _ _ (OO.out.kept D.out.gr HG.out) DW0.out.sz.o).mono ?_
    rintro e w6 ⟨u1, rfl, OT, hb⟩
    clear kh lh
    replace OT := Lib.hid (OT.wide (show w.heap.size + 2 ≤ w5.heap.size from R.out.lt) (Nat.le_refl _))
    obtain ⟨hj, hhj⟩ : ∃ hj, w6.heap.size = hj := ⟨_, rfl⟩
    rw [hhj] at OT
    clear hhj
    replace HK := Lib.hid (HK.out.below hb HK.out.lt)
    replace R := Lib.hid (R.out.below hb R.out.lt)
    replace D := Lib.hid (D.out.below hb)
    clear hb
    obtain ⟨vu, cu, rfl⟩ := OT.out.opn
    rw [TOL.out] at OT ⊢
    have hxT : x < TO.length := by rw [TOL.out]; exact hxn
    have hyT : y < (TO[x]).length := by rw [ROL.out x hxT]; exact hyn
    go_upto_region 18 with fail
    have hI : w6.grownBy (w6).drew (some g) := grown_drewN (World.grownBy.refl _ _) 1
    have hLx : (TO[x]).length = n := ROL.out x hxT
    obtain ⟨gT, cT, g2, c2, e9, t1, t2, t3, t4, t5, t6, t7⟩ := OT.out.put hxT hyT
    rw [hLx] at t2
    injection e9 with e9 e10 e11
    subst e9
    clear e10 e11
    have hw2 : IntKind.i64.wrap ((n : Int) + 2) = (n : Int) + 2 := IntWalk.i64_in _ ⟨by omega, by omega⟩
    have hgT : gT ≠ g := fun e => by
      have := OT.out.sl.opn
      obtain ⟨hs9, q1, -⟩ := OT.out
      have := (q1.block gT rfl).1
      have := GLT.out
      omega
    have hxi : (x : Int) < (n : Int) := by omega
    have hyi : (y : Int) < (n : Int) := by omega
    have hx0 : (0 : Int) ≤ (x : Int) := by omega
    have hy0 : (0 : Int) ≤ (y : Int) := by omega
    refine wp_region_sched (fun X : World => w6.grownBy X (some g) ∧ Src 95 w0 v xs X g) 11 [0, 1, 2, 3, 4, 5, 6, 7, 9, 10] [0, 1, 2, 3, 4, 5, 6, 7, 8, 9, 10] (by kernel_rfl) (by kernel_rfl) ⟨hI, (D.out.drewN 1).S⟩ ?_
    have hI2 : w6.grownBy (w6).drew (some g) ∧ Src 95 w0 v xs (w6).drew g := ⟨hI, (D.out.drewN 1).S⟩
    repeat
      apply wpSched_q rfl rfl
      case h =>
        intro w' hI K hK
        have cc0 : w'.cell? ⟨gT, x, none⟩ = some (.slice (some ⟨g2, 0, none⟩) n c2) := (gr_cell hI.1 (p := ⟨gT, x, none⟩) t1 hgT).trans t2
        simp only [quietV, stillV]
        go_simp
        exact hK
      go_simp
    refine wpSched_r rfl rfl ?_ hI2
    intro K hK _
    go_simp
    refine (spec_l01Next _ _ _ _ _ ((n : Int) + 2) hI2.2 (by omega) (by omega)).mono ?_
    rintro e w8 ⟨kk, rfl, hkk, hS, hg, -⟩
    have hI8 := And.intro (hI2.1.trans hg) hS
    refine hK _ _ hI8 ?_
    clear hK K
    repeat
      apply wpSched_q rfl rfl
      case h =>
        intro w' hI K hK
        simp only [quietV, stillV]
        go_simp
        exact hK
      go_simp
    refine wpSched_nil ?_
    try simp only [List.drop_succ_cons, List.drop_zero, List.drop_nil]
    replace OT := Lib.hid (OTg.out _ _ _ hI8.1 _ _ OT.out)
    replace HK := Lib.hid (D.out.blk HK.out (Nat.le_refl _) hI8.1)
    replace R := Lib.hid (D.out.blk R.out (Nat.le_succ _) hI8.1)
    replace D := Lib.hid (D.out.call hI8.2 hI8.1)
    have tx := (gr_cell hI8.1 (p := ⟨gT, x, none⟩) t1 hgT).trans t2
    clear hI hI2 hI8 hS hg hw2 t1 t2 t3 t4 t5 t6 t7
    obtain ⟨gT', cT', g2', c2', e9, t1, t2, t3, t4, t5, t6, t7⟩ := OT.out.put hxT hyT
    rw [hLx] at t2
    injection e9 with e9 e10 e11
    injection e9 with e9
    injection e9 with e9 e12 e13
    subst e9
    have e15 := tx.symm.trans t2
    injection e15 with e15
    injection e15 with e15 e16 e17
    injection e15 with e15
    injection e15 with e15 e18 e19
    subst e15
    have t8 := t7 ((kk : Int) - 1)
    clear e10 e11 e12 e13 e16 e17 e18 e19 tx t7
    go_upto_region 19 with fail
    replace OT := Lib.hid t8
    replace HK := Lib.hid (HK.out.far (p := ⟨g2, y, none⟩) (show w.heap.size ≠ g2 by omega) (.int .i64 ((kk : Int) - 1)))
    replace R := Lib.hid (R.out.far (p := ⟨g2, y, none⟩) (show w.heap.size + 1 ≠ g2 by omega) (.int .i64 ((kk : Int) - 1)))
    replace D := Lib.hid (D.out.set (p := ⟨g2, y, none⟩) (show w.heap.size ≤ g2 by omega) (.int .i64 ((kk : Int) - 1)))
    clear t1 t2 t3 t4 t5 t6 t8
    generalize World.setCell w8 _ _ = w9 at *
    have SZ9 := Lib.hid (SzT.set_ DW0.out.sz.o x y ((kk : Int) - 1) hxT)
    have SL9 : Hid ((TO.set x ((TO[x]).set y ((kk : Int) - 1))).length = n) := Lib.hid (by rw [List.length_set]; exact TOL.out)
    generalize TO.set x ((TO[x]).set y ((kk : Int) - 1)) = T9 at *
    clear hLx hxT hyT hkk
    have kh := HK.out.cell
    have fh := HK.out.frozen
    have lh := HK.out.lt
    go_upto_region 22 with fail
    replace HK := Lib.hid (HK.out.set_ 1 (.slice (some ⟨gT, 0, none⟩) n cu))
    replace R := Lib.hid (R.out.far (p := ⟨w.heap.size, 1, none⟩) (Nat.succ_ne_self _) (.slice (some ⟨gT, 0, none⟩) n cu))
    replace D := Lib.hid (D.out.set (p := ⟨w.heap.size, 1, none⟩) (Nat.le_refl _) (.slice (some ⟨gT, 0, none⟩) n cu))
    replace OT := Lib.hid (OT.out.setBelow (p := ⟨w.heap.size, 1, none⟩) (show w.heap.size < w.heap.size + 2 by omega) (.slice (some ⟨gT, 0, none⟩) n cu))
    clear kh fh lh
    generalize World.setCell w9 _ _ = w7 at *
    have kh := HK.out.cell
    have lh := HK.out.lt
    have k0 : w7.cell? ⟨w.heap.size, 0, none⟩ = some (.slice va n ca) := kh 0
    have k1 : w7.cell? ⟨w.heap.size, 1, none⟩ = some (.slice (some ⟨gT, 0, none⟩) n cu) := kh 1
    have k2 : w7.cell? ⟨w.heap.size, 2, none⟩ = some (.slice vi n ci) := kh 2
    have k3 : w7.cell? ⟨w.heap.size, 3, none⟩ = some (.int .i64 bt) := kh 3
    have k4 : w7.cell? ⟨w.heap.size, 4, none⟩ = some (.int .i64 tp) := kh 4
    clear kh
    have kr := R.out.cell
    have fr := R.out.frozen
    have lr := R.out.lt
    go_wp2
    refine bodyPost_ret (v := .agg #[.slice va n ca, .slice (some ⟨gT, 0, none⟩) n cu, .slice vi n ci, .int .i64 bt, .int .i64 tp]) (by simp [results, Tryz.results109, go_sem, kr, fr, lr]) rfl ⟨_, _, _, _, _, TA, T9, TI, rfl, TAL.out, ?_, ?_, ?_⟩
    · have DF := (Dg.set (Dg.set (Dg.set (Dg.set (Dg.set D.out (p := ⟨w.heap.size + 1, 0, none⟩) (Nat.le_succ _) (.slice va n ca)) (p := ⟨w.heap.size + 1, 1, none⟩) (Nat.le_succ _) (.slice (some ⟨gT, 0, none⟩) n cu)) (p := ⟨w.heap.size + 1, 2, none⟩) (Nat.le_succ _) (.slice vi n ci)) (p := ⟨w.heap.size + 1, 3, none⟩) (Nat.le_succ _) (.int .i64 bt)) (p := ⟨w.heap.size + 1, 4, none⟩) (Nat.le_succ _) (.int .i64 tp))
      exact ⟨⟨DW0.out.sz.a, SZ9.out, DW0.out.sz.i⟩, (OA.out.kept DF.gr HG.out), Tb.of ((OwT.setBelow (OwT.setBelow (OwT.setBelow (OwT.setBelow (OwT.setBelow OT.out.owT (p := ⟨w.heap.size + 1, 0, none⟩) (Nat.lt_succ_self _) (.slice va n ca)) (p := ⟨w.heap.size + 1, 1, none⟩) (Nat.lt_succ_self _) (.slice (some ⟨gT, 0, none⟩) n cu)) (p := ⟨w.heap.size + 1, 2, none⟩) (Nat.lt_succ_self _) (.slice vi n ci)) (p := ⟨w.heap.size + 1, 3, none⟩) (Nat.lt_succ_self _) (.int .i64 bt)) (p := ⟨w.heap.size + 1, 4, none⟩) (Nat.lt_succ_self _) (.int .i64 tp)).mono (show B ≤ w.heap.size + 2 by have := HW.out; omega)), (OI.out.kept DF.gr HG.out)⟩
    · exact (Dg.set (Dg.set (Dg.set (Dg.set (Dg.set D.out (p := ⟨w.heap.size + 1, 0, none⟩) (Nat.le_succ _) (.slice va n ca)) (p := ⟨w.heap.size + 1, 1, none⟩) (Nat.le_succ _) (.slice (some ⟨gT, 0, none⟩) n cu)) (p := ⟨w.heap.size + 1, 2, none⟩) (Nat.le_succ _) (.slice vi n ci)) (p := ⟨w.heap.size + 1, 3, none⟩) (Nat.le_succ _) (.int .i64 bt)) (p := ⟨w.heap.size + 1, 4, none⟩) (Nat.le_succ _) (.int .i64 tp)).S
    · exact (Dg.set (Dg.set (Dg.set (Dg.set (Dg.set D.out (p := ⟨w.heap.size + 1, 0, none⟩) (Nat.le_succ _) (.slice va n ca)) (p := ⟨w.heap.size + 1, 1, none⟩) (Nat.le_succ _) (.slice (some ⟨gT, 0, none⟩) n cu)) (p := ⟨w.heap.size + 1, 2, none⟩) (Nat.le_succ _) (.slice vi n ci)) (p := ⟨w.heap.size + 1, 3, none⟩) (Nat.le_succ _) (.int .i64 bt)) (p := ⟨w.heap.size + 1, 4, none⟩) (Nat.le_succ _) (.int .i64 tp)).gr
  · have hO := OO.out.sl2.opn
    have hL := HL1.out
    obtain ⟨hsO, q1, q2, q3⟩ := id OO.out
    obtain ⟨gO, cO, hvO, -, -, -, -⟩ := q1.form (by rw [q2, TOL.out]; omega)
    injection hvO with hvO1 hvO2 hvO3
    subst hvO1
    clear hvO2 hvO3 q1 q2 q3 hO
    have hcn : n ≤ co := by
      obtain ⟨hs9, ⟨⟨A9, c9, e9, e8, -⟩, -⟩, e7, -⟩ := OO.out
      injection e9 with e9 e10 e11
      have := TOL.out
      omega
    have hc63 : co ≤ 9223372036854775807 := by
      obtain ⟨hs9, ⟨⟨A9, c9, e9, -, e8⟩, -⟩, e7, -⟩ := OO.out
      injection e9 with e9 e10 e11
      omega
    by_cases hco : co = 1
    · have hn1 : n = 1 := by omega
      subst hco
      subst hn1
      have kh := HK.out.cell
      have fh := HK.out.frozen
      have lh := HK.out.lt
      go_upto_region 22 with fail
      replace HK := Lib.hid (HK.out.set_ 1 (.slice (some ⟨gO, 0, none⟩) 0 0))
      replace R := Lib.hid (R.out.far (p := ⟨w.heap.size, 1, none⟩) (Nat.succ_ne_self _) (.slice (some ⟨gO, 0, none⟩) 0 0))
      replace D := Lib.hid (D.out.set (p := ⟨w.heap.size, 1, none⟩) (Nat.le_refl _) (.slice (some ⟨gO, 0, none⟩) 0 0))
      clear kh fh lh
      generalize World.setCell w5 _ _ = w7 at *
      have kh := HK.out.cell
      have lh := HK.out.lt
      have k0 : w7.cell? ⟨w.heap.size, 0, none⟩ = some (.slice va 1 ca) := kh 0
      have k1 : w7.cell? ⟨w.heap.size, 1, none⟩ = some (.slice (some ⟨gO, 0, none⟩) 0 0) := kh 1
      have k2 : w7.cell? ⟨w.heap.size, 2, none⟩ = some (.slice vi 1 ci) := kh 2
      have k3 : w7.cell? ⟨w.heap.size, 3, none⟩ = some (.int .i64 bt) := kh 3
      have k4 : w7.cell? ⟨w.heap.size, 4, none⟩ = some (.int .i64 tp) := kh 4
      clear kh
      have kr := R.out.cell
      have fr := R.out.frozen
      have lr := R.out.lt
      go_wp2
      refine bodyPost_ret (v := .agg #[.slice va 1 ca, .slice (some ⟨gO, 0, none⟩) 0 0, .slice vi 1 ci, .int .i64 bt, .int .i64 tp]) (by simp [results, Tryz.results109, go_sem, kr, fr, lr]) rfl ⟨_, _, _, _, _, TA, [], TI, rfl, TAL.out, ?_, ?_, ?_⟩
      · have DF := (Dg.set (Dg.set (Dg.set (Dg.set (Dg.set D.out (p := ⟨w.heap.size + 1, 0, none⟩) (Nat.le_succ _) (.slice va 1 ca)) (p := ⟨w.heap.size + 1, 1, none⟩) (Nat.le_succ _) (.slice (some ⟨gO, 0, none⟩) 0 0)) (p := ⟨w.heap.size + 1, 2, none⟩) (Nat.le_succ _) (.slice vi 1 ci)) (p := ⟨w.heap.size + 1, 3, none⟩) (Nat.le_succ _) (.int .i64 bt)) (p := ⟨w.heap.size + 1, 4, none⟩) (Nat.le_succ _) (.int .i64 tp))
        exact ⟨⟨DW0.out.sz.a, ⟨Nat.zero_le _, fun r hr => by cases hr⟩, DW0.out.sz.i⟩, (OA.out.kept DF.gr HG.out), .inl ⟨rfl, _, _, rfl, by omega⟩, (OI.out.kept DF.gr HG.out)⟩
      · exact (Dg.set (Dg.set (Dg.set (Dg.set (Dg.set D.out (p := ⟨w.heap.size + 1, 0, none⟩) (Nat.le_succ _) (.slice va 1 ca)) (p := ⟨w.heap.size + 1, 1, none⟩) (Nat.le_succ _) (.slice (some ⟨gO, 0, none⟩) 0 0)) (p := ⟨w.heap.size + 1, 2, none⟩) (Nat.le_succ _) (.slice vi 1 ci)) (p := ⟨w.heap.size + 1, 3, none⟩) (Nat.le_succ _) (.int .i64 bt)) (p := ⟨w.heap.size + 1, 4, none⟩) (Nat.le_succ _) (.int .i64 tp)).S
      · exact (Dg.set (Dg.set (Dg.set (Dg.set (Dg.set D.out (p := ⟨w.heap.size + 1, 0, none⟩) (Nat.le_succ _) (.slice va 1 ca)) (p := ⟨w.heap.size + 1, 1, none⟩) (Nat.le_succ _) (.slice (some ⟨gO, 0, none⟩) 0 0)) (p := ⟨w.heap.size + 1, 2, none⟩) (Nat.le_succ _) (.slice vi 1 ci)) (p := ⟨w.heap.size + 1, 3, none⟩) (Nat.le_succ _) (.int .i64 bt)) (p := ⟨w.heap.size + 1, 4, none⟩) (Nat.le_succ _) (.int .i64 tp)).gr
    · skip
      have kh := HK.out.cell
      have fh := HK.out.frozen
      have lh := HK.out.lt
      go_upto_region 22 with fail
      replace HK := Lib.hid (HK.out.set_ 1 (.slice (some ⟨gO, 1, none⟩) (n - 1) (co - 1)))
      replace R := Lib.hid (R.out.far (p := ⟨w.heap.size, 1, none⟩) (Nat.succ_ne_self _) (.slice (some ⟨gO, 1, none⟩) (n - 1) (co - 1)))
      replace D := Lib.hid (D.out.set (p := ⟨w.heap.size, 1, none⟩) (Nat.le_refl _) (.slice (some ⟨gO, 1, none⟩) (n - 1) (co - 1)))
      clear kh fh lh
      generalize World.setCell w5 _ _ = w7 at *
      have kh := HK.out.cell
      have lh := HK.out.lt
      have k0 : w7.cell? ⟨w.heap.size, 0, none⟩ = some (.slice va n ca) := kh 0
      have k1 : w7.cell? ⟨w.heap.size, 1, none⟩ = some (.slice (some ⟨gO, 1, none⟩) (n - 1) (co - 1)) := kh 1
      have k2 : w7.cell? ⟨w.heap.size, 2, none⟩ = some (.slice vi n ci) := kh 2
      have k3 : w7.cell? ⟨w.heap.size, 3, none⟩ = some (.int .i64 bt) := kh 3
      have k4 : w7.cell? ⟨w.heap.size, 4, none⟩ = some (.int .i64 tp) := kh 4
      clear kh
      have kr := R.out.cell
      have fr := R.out.frozen
      have lr := R.out.lt
      go_wp2
      refine bodyPost_ret (v := .agg #[.slice va n ca, .slice (some ⟨gO, 1, none⟩) (n - 1) (co - 1), .slice vi n ci, .int .i64 bt, .int .i64 tp]) (by simp [results, Tryz.results109, go_sem, kr, fr, lr]) rfl ⟨_, _, _, _, _, TA, (TO.drop 1), TI, rfl, TAL.out, ?_, ?_, ?_⟩
      · have DF := (Dg.set (Dg.set (Dg.set (Dg.set (Dg.set D.out (p := ⟨w.heap.size + 1, 0, none⟩) (Nat.le_succ _) (.slice va n ca)) (p := ⟨w.heap.size + 1, 1, none⟩) (Nat.le_succ _) (.slice (some ⟨gO, 1, none⟩) (n - 1) (co - 1))) (p := ⟨w.heap.size + 1, 2, none⟩) (Nat.le_succ _) (.slice vi n ci)) (p := ⟨w.heap.size + 1, 3, none⟩) (Nat.le_succ _) (.int .i64 bt)) (p := ⟨w.heap.size + 1, 4, none⟩) (Nat.le_succ _) (.int .i64 tp))
        exact ⟨⟨DW0.out.sz.a, DW0.out.sz.o.drop_, DW0.out.sz.i⟩, (OA.out.kept DF.gr HG.out), Tb.tl (OO.out.kept DF.gr HG.out) hL, (OI.out.kept DF.gr HG.out)⟩
      · exact (Dg.set (Dg.set (Dg.set (Dg.set (Dg.set D.out (p := ⟨w.heap.size + 1, 0, none⟩) (Nat.le_succ _) (.slice va n ca)) (p := ⟨w.heap.size + 1, 1, none⟩) (Nat.le_succ _) (.slice (some ⟨gO, 1, none⟩) (n - 1) (co - 1))) (p := ⟨w.heap.size + 1, 2, none⟩) (Nat.le_succ _) (.slice vi n ci)) (p := ⟨w.heap.size + 1, 3, none⟩) (Nat.le_succ _) (.int .i64 bt)) (p := ⟨w.heap.size + 1, 4, none⟩) (Nat.le_succ _) (.int .i64 tp)).S
      · exact (Dg.set (Dg.set (Dg.set (Dg.set (Dg.set D.out (p := ⟨w.heap.size + 1, 0, none⟩) (Nat.le_succ _) (.slice va n ca)) (p := ⟨w.heap.size + 1, 1, none⟩) (Nat.le_succ _) (.slice (some ⟨gO, 1, none⟩) (n - 1) (co - 1))) (p := ⟨w.heap.size + 1, 2, none⟩) (Nat.le_succ _) (.slice vi n ci)) (p := ⟨w.heap.size + 1, 3, none⟩) (Nat.le_succ _) (.int .i64 bt)) (p := ⟨w.heap.size + 1, 4, none⟩) (Nat.le_succ _) (.int .i64 tp)).gr
end Go.Proofs.YtgkogfjifcfkoaaGreat
