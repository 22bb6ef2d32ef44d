/- Contracts of the least renumbering, of the program: permutations and leastRelation. -/
import Derived.Test.YtkdldfomdbgcaaaGreat34P
namespace Go.Proofs.YtkdldfomdbgcaaaGreat
open Go.RowKit
set_option linter.unusedVariables false
set_option linter.unusedSimpArgs false
theorem impl_permutations_1 (C : GC) (hr : RelN C.ns) (hn : C.ns.length = C.n) : ∀ j, GrowOK C j
  | 0 => impl_permutations_1_zero C hr hn
  | j + 1 => impl_permutations_1_succ C hr hn j (impl_permutations_1 C hr hn j)
/-- a make of no numbers with room for n -/
theorem mk_roomI {ops : Array Oper} {rest : List Oper} {o : Oper} {a : Act} {Q : Exit → Act → World → Prop} (w : World) (hgd : o.guard = none) (l c : Operand) (ho : o.op = Op.makeSlice 22 l c) (n : Nat)
    (hl : a.eval l = .int .i64 0) (hc : a.eval c = .int .i64 (n : Int)) (hn : n ≤ 1048576)
    (h : ∀ w', Ow cI 2 w.heap.size w' (.slice (some ⟨w.heap.size, 0, none⟩) 0 n) [] → Below w.heap.size w w' → wpList Tryz.prog ops Q rest (a.put o.dst (.slice (some ⟨w.heap.size, 0, none⟩) 0 n)) w') :
    wpList Tryz.prog ops Q (o :: rest) a w := by
  obtain ⟨i, hi, hz, hsize, hby⟩ := ty_int64.info
  have hb : i.bytes = 8 := hby
  refine wpList_make_own w hgd l c 22 ho w.heap.size 2 i _ 1 ty_int64.under hi hz hsize .i64 .i64 n n hl hc rfl (by rw [hb]; omega) (by simp only [maxLen]; omega) (Nat.le_refl _) fun w' hown hg => ?_
  exact h w' ⟨⟨_, _, rfl, Nat.zero_le _, by omega⟩, hown⟩ ((Below.refl _ _).grown hg (Nat.le_refl _) (by simp))
set_option maxRecDepth 100000 in
set_option maxHeartbeats 1000000 in
theorem impl_permutations (ns b : List Nat) (va vb : Value) (ba bb : Nat) (w : World) (hka : Blk w ba 22 #[va]) (hkb : Blk w bb 22 #[vb]) (sa : Sl cI w va (li ns)) (sb : Ow cI 2 ba w vb (li b))
    (la : ∀ k, va.ownBlock = some k → k < w.heap.size) (ha : va.ownBlock ≠ some bb) (hb : vb.ownBlock ≠ some bb) (hne : bb ≠ ba) (hr : RelN ns) (hbl : b.length = ns.length) :
    Calls Tryz.prog 80 #[.int .i64 (ns.length : Int), .func (.func 81) #[] #[.pointer (some ⟨ba, 0, none⟩), .pointer (some ⟨bb, 0, none⟩)]] w fun e w' => e = .returned (.tuple #[]) ∧ ∃ vb', Blk w' bb 22 #[vb'] ∧ Ow cI 2 ba w' vb' (li ((ext ns.length ns.length []).foldl (lstep ns) b)) ∧ KpS (fun k => k = bb) w w' := by
  have h8 := hr.1
  have LA := hka.lt
  have LB := hkb.lt
  have lb := fun k e => (sb.block k e).2
  go_enter Tryz.func80, Tryz.ntmps80
  go_wp2_with (at_make; refine stopHere ?_)
  refine goHere ?_
  refine mk_roomI _ rfl _ _ rfl ns.length rfl rfl (by omega) ?_
  intro w3 hO3 hb3
  have hk5 := Blk.new' (w3.alloc (.cells #[.slice (some ⟨w.heap.size + 1 + 1, 0, none⟩) 0 ns.length] 22)) 109 #[.nilFunc] (g := w3.heap.size + 1) (by simp)
  have HK5 := Lib.hid hk5
  have r5 := hk5.cell 0
  have f5 := hk5.frozen 0
  have l5 := hk5.lt
  clear hk5
  have hsf : ∀ (f : FuncId) (x y : Array Value) (A : Addr) (m : Mode) (W : World), (store A (.func (.func f) x y) m).run Tryz.prog W = stored Tryz.prog W A (.func (.func f) x y) m := fun f x y A m W => run_store Tryz.prog W A _ m rfl
  go_upto_region 4 with fail
  clear hsf r5 f5 l5 HK5
  have hW2 : ((w.alloc (.cells #[.int .i64 (ns.length : Int)] 2)).alloc (.cells #[.func (.func 81) #[] #[.pointer (some ⟨ba, 0, none⟩), .pointer (some ⟨bb, 0, none⟩)]] 90)).heap.size = w.heap.size + 1 + 1 := by simp
  rw [hW2] at hO3
  have g3 := (hO3.block (w.heap.size + 1 + 1) rfl).2
  have hbW : Below w.heap.size w w3 := bthen (bthen (below_alloc' _ _) (below_alloc' _ _)) hb3
  have hb5 : Below w.heap.size w ((w3.alloc (.cells #[.slice (some ⟨w.heap.size + 1 + 1, 0, none⟩) 0 ns.length] 22)).alloc (.cells #[.func (.func 119) #[] #[.pointer (some ⟨w3.heap.size, 0, none⟩), .pointer (some ⟨w.heap.size, 0, none⟩), .pointer (some ⟨w.heap.size + 1, 0, none⟩), .pointer (some ⟨w3.heap.size + 1, 0, none⟩)]] 109)) := bthen (bthen hbW (below_alloc' _ _)) (below_alloc' _ _)
  have hG : GS ⟨ns.length, w.heap.size, w.heap.size + 1, w3.heap.size, w3.heap.size + 1, ba, bb, va, ns⟩ ((w3.alloc (.cells #[.slice (some ⟨w.heap.size + 1 + 1, 0, none⟩) 0 ns.length] 22)).alloc (.cells #[.func (.func 119) #[] #[.pointer (some ⟨w3.heap.size, 0, none⟩), .pointer (some ⟨w.heap.size, 0, none⟩), .pointer (some ⟨w.heap.size + 1, 0, none⟩), .pointer (some ⟨w3.heap.size + 1, 0, none⟩)]] 109)) (.slice (some ⟨w.heap.size + 1 + 1, 0, none⟩) 0 ns.length) [] vb b :=
    { kn := ((((Blk.new w _ _).alloc _).below hb3 (by rw [hW2]; omega)).alloc _).alloc _
      kf := (((Blk.new' (g := w.heap.size + 1) _ _ _ (by simp)).below hb3 (by rw [hW2]; omega)).alloc _).alloc _
      ko := (Blk.new w3 _ _).alloc _
      kg := Blk.new' _ _ _ (by simp)
      ka := hka.below hb5 LA
      kb := hkb.below hb5 LB
      so := ((hO3.mono (Nat.zero_le _)).alloc _).alloc _
      sa := sa.below hb5
      sb := sb.below hb5
      ao := fun k e => by
        have e : w.heap.size + 1 + 1 = k := Option.some.inj e
        subst e
        exact ⟨by show _ ≠ w.heap.size; omega, by show _ ≠ w.heap.size + 1; omega, by show _ ≠ w3.heap.size; omega, by show _ ≠ w3.heap.size + 1; omega, by show _ ≠ ba; omega, by show _ ≠ bb; omega, fun e => by have := la _ e; omega, fun e => by have := lb _ e; omega⟩
      aa := ⟨fun e => by have := la _ e; have : w3.heap.size < w.heap.size := this; omega, ha⟩
      ab := ⟨fun e => by have := lb _ e; have : w3.heap.size < w.heap.size := this; omega, hb⟩
      ne := ⟨by show w3.heap.size ≠ w.heap.size; omega, by show w3.heap.size ≠ w.heap.size + 1; omega, by show w3.heap.size ≠ w3.heap.size + 1; omega, by show w3.heap.size ≠ ba; omega, by show w3.heap.size ≠ bb; omega⟩
      ne2 := ⟨by show bb ≠ w.heap.size; omega, by show bb ≠ w.heap.size + 1; omega, by show bb ≠ w3.heap.size + 1; omega, hne⟩ }
  have HG := Lib.hid hG
  have HB := Lib.hid hb5
  have HH := Lib.hid (fun W (hW : GS ⟨ns.length, w.heap.size, w.heap.size + 1, w3.heap.size, w3.heap.size + 1, ba, bb, va, ns⟩ W (.slice (some ⟨w.heap.size + 1 + 1, 0, none⟩) 0 ns.length) [] vb b) => impl_permutations_1 _ hr rfl ns.length [] b W _ vb 0 hW ⟨by simp, by simp⟩ (by simp) hbl (fun x _ => by simp) (Nat.pow_pos (by decide)))
  rw [show ((0 : Nat) : Int) = 0 from rfl] at HH
  have G3 := Lib.hid g3
  clear hG hb5 hbW hW2 g3 hO3 hb3 sa sb la lb hka hkb ha hb hr hbl
  generalize World.alloc (World.alloc w3 _) _ = w5 at *
  have d1 := HG.out.kg.cell 0
  have y1 := HG.out.kg.lt
  go_wp2_with fail
  clear d1 y1
  refine (HH.out _ HG.out).mono ?_
  rintro e w6 ⟨rfl, vo, vb', h1, h2, -⟩
  have H1 := Lib.hid h1
  have H2 := Lib.hid h2
  clear h1 h2
  go_wp2
  go_end0
  refine ⟨rfl, vb', H1.out.kb, H1.out.sb, (KpS.of HB.out).transG H2.out ?_⟩
  rintro k hk (h | h | h)
  · have h : k = w3.heap.size := h
    have := G3.out; omega
  · exact h
  · have h : w.heap.size + 1 + 1 = k := Option.some.inj h
    omega
set_option maxRecDepth 100000 in
set_option maxHeartbeats 1000000 in
theorem impl_leastRelation (ns : List Nat) (v : Value) (w : World) (h : Sl cI w v (li ns)) (lv : ∀ k, v.ownBlock = some k → k < w.heap.size) (hr : RelN ns) :
    Calls Tryz.prog 51 #[v] w fun e w' => ∃ A c, e = .returned (.slice A ns.length c) ∧ Ow cI 2 w.heap.size w' (.slice A ns.length c) (li (lst ns)) ∧ Below w.heap.size w w' := by
  obtain ⟨A0, c0, rfl⟩ := h.opn
  have h8 := hr.1
  have EL := Lib.hid (li_length ns)
  rw [EL.out] at h lv ⊢
  have H := Lib.hid h
  have LV := Lib.hid lv
  have LL := Lib.hid (show (li (lst ns)).length = ns.length by rw [li_length, lst_length])
  have HC := Lib.hid (fun W (hW : Sl cI W (.slice A0 ns.length c0) (li ns)) => slices_Clone_int64 _ (li ns) W hW (by rw [EL.out]; omega))
  have HS := Lib.hid (fun W (hW : Sl cI W (.slice A0 ns.length c0) (li ns)) => impl_size_int64 _ (li ns) W hW)
  rw [EL.out] at HS
  have HP := Lib.hid (fun vb ba bb W h1 h2 h3 h4 h5 h6 h7 h8 => impl_permutations ns ns (.slice A0 ns.length c0) vb ba bb W h1 h2 h3 h4 h5 h6 h7 h8 hr rfl)
  have HL : Hid ((ext ns.length ns.length []).foldl (lstep ns) ns = lst ns) := Lib.hid rfl
  clear h lv hr
  go_enter Tryz.func51, Tryz.ntmps51
  go_upto_region 1 with fail
  have hb := below_alloc' w (.cells #[.slice A0 ns.length c0] 22)
  have hk := Blk.new w 22 #[.slice A0 ns.length c0]
  have KA := Lib.hid hk
  have HB := Lib.hid hb
  replace H := Lib.hid (H.out.below hb)
  clear hb hk
  generalize World.alloc w _ = w1 at *
  have d1 := KA.out.cell 0
  have y1 := KA.out.lt
  go_wp2_with fail
  refine (HC.out _ H.out).mono ?_
  rintro e w2 ⟨u, rfl, ho, hb⟩
  obtain ⟨A2, c2, rfl⟩ := ho.opn
  rw [EL.out] at ho ⊢
  have O := Lib.hid ho
  have Z1 : Hid (w.heap.size < w1.heap.size) := Lib.hid y1
  replace KA := Lib.hid (KA.out.below hb KA.out.lt)
  replace H := Lib.hid (H.out.below hb)
  replace HB := Lib.hid (bthen HB.out hb)
  have Z2 : Hid (w1.heap.size ≤ w2.heap.size) := Lib.hid hb.size
  clear ho hb d1 y1
  go_upto_region 2 with fail
  have hb := below_alloc' w2 (.cells #[.slice A2 ns.length c2] 22)
  have KB := Lib.hid (Blk.new w2 22 #[.slice A2 ns.length c2])
  have O2 := Lib.hid (O.out.alloc (.cells #[.slice A2 ns.length c2] 22))
  replace KA := Lib.hid (KA.out.alloc (.cells #[.slice A2 ns.length c2] 22))
  replace H := Lib.hid (H.out.below hb)
  replace HB := Lib.hid (bthen HB.out hb)
  have OB := Lib.hid (O.out.block)
  clear hb O
  generalize World.alloc w2 _ = w3 at *
  have d1 := KA.out.cell 0
  have y1 := KA.out.lt
  go_wp2_with fail
  refine (HS.out _ H.out).mono ?_
  rintro e w4 ⟨rfl, rfl⟩
  go_wp2_with fail
  clear d1 y1
  refine (HP.out _ _ _ _ KA.out KB.out H.out (O2.out.mono (Nat.le_of_lt Z1.out)) (fun k e => Nat.lt_of_lt_of_le (LV.out k e) HB.out.size) (fun e => by have := LV.out _ e; have := Z1.out; have := Z2.out; omega) (fun e => by have := (OB.out _ e).2; omega) (by have := Z1.out; have := Z2.out; omega)).mono ?_
  rintro e w5 ⟨rfl, vb, hk, ho, hkp⟩
  rw [HL.out] at ho
  obtain ⟨A5, c5, rfl⟩ := ho.opn
  rw [LL.out] at ho hk
  have O5 := Lib.hid ho
  have HF : Hid (Below w.heap.size w w5) := Lib.hid (HB.out.trans (hkp.toBelow HB.out.size (fun k hk e => by have := Z1.out; have := Z2.out; omega)))
  have d1 := hk.cell 0
  have y1 := hk.lt
  clear hk ho hkp HP HC HS
  go_wp2
  go_ret
  exact ⟨_, _, rfl, O5.out, HF.out⟩
end Go.Proofs.YtkdldfomdbgcaaaGreat
