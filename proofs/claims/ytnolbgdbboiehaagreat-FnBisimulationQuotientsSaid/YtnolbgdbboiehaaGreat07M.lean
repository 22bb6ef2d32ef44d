/- IsModelMorphism of the program, at a morphism. -/
import Derived.Test.YtnolbgdbboiehaaGreat07A
import Derived.Test.YtnolbgdbboiehaaGreat07q
import Derived.Test.YtnolbgdbboiehaaGreat05f
import Derived.Test.YtnolbgdbboiehaaGreatSB
import Derived.Test.YtnolbgdbboiehaaGreatSch
namespace Go.Proofs.YtnolbgdbboiehaaGreat
open Go.RowKit
set_option linter.unusedVariables false
set_option linter.unusedSimpArgs false
/-- a map of worlds is a morphism of models -/
structure Mph (ns us ks ts cl : List Nat) : Prop where
  m : MdN ns us
  n : MdN ks ts
  l : cl.length = ns.length
  b : ∀ c ∈ cl, c < ks.length
  a : ∀ x, x < ns.length → img (pw cl) (ns.getD x 0) = ks.getD (cl.getD x 0) 0
  t : ∀ x, x < ns.length → tru us x = tru ts (cl.getD x 0)
theorem impl_isMap_1 (x : Int) (B k m c : Nat) (A : Option Addr) (w : World) (hc0 : w.cell? ⟨B, 0, none⟩ = some (.int .i64 (k : Int))) (hc1 : w.cell? ⟨B, 1, none⟩ = some (.slice A m c)) (hB : B < w.heap.size) (hk : k ≤ 8) :
    Calls Tryz.prog 104 #[.int .i64 x, .pointer (some ⟨B, 0, none⟩)] w fun e w' => e = .returned (.bool (!inR x 0 ((k : Int) - 1))) ∧ Below w.heap.size w w' := by
  have HH := Lib.hid (impl_hasWorld7 (k : Int) x (.slice A m c) A m c rfl w ⟨by omega, by omega⟩)
  go_enter Tryz.func104, Tryz.ntmps104
  go_wp2_with fail
  refine HH.out.mono ?_
  rintro e w1 ⟨rfl, hb⟩
  have HB := Lib.hid hb
  clear hb
  go_wp2
  go_ret
  exact ⟨rfl, HB.out⟩
theorem en_isMap_1 : ∀ (args : Array Value) (w : World), (callFunc 104 args).run Tryz.prog w = .ok (.enter 104 args) w := enters Tryz.func104 (by kernel_rfl) (by kernel_rfl)
set_option maxRecDepth 100000 in
theorem impl_isMap_ok (n k : Nat) (A B C : Option Addr) (ma ca mb cb cc : Nat) (cl : List Nat) (w : World) (h : Sl cI w (.slice C n cc) (li cl)) (hl : cl.length = n) (hb : ∀ c ∈ cl, c < k) (hn : n ≤ 8) (hk : k ≤ 8) :
    Calls Tryz.prog 45 #[.agg #[.int .i64 (n : Int), .slice A ma ca], .agg #[.int .i64 (k : Int), .slice B mb cb], .slice C n cc] w fun e w' => e = .returned (.bool true) ∧ Below w.heap.size w w' := by
  have hb0 := below_alloc' w (.cells #[.int .i64 (n : Int), .slice A ma ca] 26)
  have hb1 := below_alloc' (w.alloc (.cells #[.int .i64 (n : Int), .slice A ma ca] 26)) (.cells #[.int .i64 (k : Int), .slice B mb cb] 26)
  have hk0 := Blk.new w 26 #[.int .i64 (n : Int), .slice A ma ca]
  have hk1 : Blk _ (w.heap.size + 1) _ _ := Blk.new' (w.alloc (.cells #[.int .i64 (n : Int), .slice A ma ca] 26)) 26 #[.int .i64 (k : Int), .slice B mb cb] (by simp)
  have HB := Lib.hid (bthen hb0 hb1)
  have HK0 := Lib.hid (hk0.below hb1 hk0.lt)
  have HK1 := Lib.hid hk1
  have H0 := Lib.hid ((h.below hb0).below hb1)
  have HL := Lib.hid (show (li cl).length = n by rw [li_length, hl])
  have HR : Hid (∀ i (hi : i < (li cl).length), (!inR (li cl)[i] 0 ((k : Int) - 1)) = false) := Lib.hid (fun i hi => by
    have hi' : i < cl.length := by rwa [li_length] at hi
    have := hb cl[i] (List.getElem_mem hi')
    have e : (li cl)[i] = ((cl[i] : Nat) : Int) := by simp [li]
    rw [e, inR_true (Int.natCast_nonneg _) (by omega)]; rfl)
  clear hb0 hb1 hk0 hk1 h hl hb
  go_enter Tryz.func45, Tryz.ntmps45
  go_upto_region 1 with fail
  generalize World.alloc (w.alloc _) _ = W at *
  have c0 := HK0.out.cell 0
  have l0 := HK0.out.lt
  have HS := Lib.hid (fun X (hX : Sl cI X (.slice C n cc) (li cl)) => impl_size_int64 _ (li cl) X hX)
  rw [HL.out] at HS
  have HC := Lib.hid (fun X (hX : Below W.heap.size W X) => slices_ContainsFunc_ints (.slice C n cc) (li cl) 104 #[.pointer (some ⟨w.heap.size + 1, 0, none⟩)] (fun _ => false) X (H0.out.below hX) (by rw [HL.out]; omega) en_isMap_1 (fun X' hX' i hi => by
    have l1 := HK1.out.lt
    have hl2 : w.heap.size + 1 < X.heap.size := Nat.lt_of_lt_of_le l1 hX.size
    have e0 := (hX'.cell (p := ⟨w.heap.size + 1, 0, none⟩) hl2).trans ((hX.cell (p := ⟨w.heap.size + 1, 0, none⟩) l1).trans (HK1.out.cell 0))
    have e1 := (hX'.cell (p := ⟨w.heap.size + 1, 1, none⟩) hl2).trans ((hX.cell (p := ⟨w.heap.size + 1, 1, none⟩) l1).trans (HK1.out.cell 1))
    have := impl_isMap_1 (li cl)[i] (w.heap.size + 1) k mb cb B X' e0 e1 (Nat.lt_of_lt_of_le hl2 hX'.size) hk
    rw [HR.out i hi] at this
    exact this))
  have HA : ((List.range (li cl).length).any fun _ => false) = false := by simp
  rw [HA] at HC
  clear HA
  first | go_region_held3 (fun w' => w'.cell? ⟨w.heap.size, 0, none⟩ = some (.int .i64 (n : Int))) (first | exact c0' | exact c0 | (simp [*]; done)) (first | (go_at_call 103; refine (HS.out _ (H0.out.drewN _)).mono ?_; rintro e w2 ⟨rfl, rfl⟩) | (go_at_call 90; refine (HC.out _ (below_drewN (Below.refl _ _) _)).mono ?_; rintro e w3 ⟨rfl, hb3⟩; have c0' := (hb3.cell (p := ⟨w.heap.size, 0, none⟩) l0).trans c0)) | fail
  all_goals
    have HB3 := Lib.hid (HB.out.trans ((below_drewN (Below.refl _ _) _).trans hb3 |>.mono HB.out.size))
    clear c0' hb3
    go_wp2
    go_ret
    exact ⟨rfl, HB3.out⟩
theorem en_isMorphism_1 : ∀ (args : Array Value) (w : World), (callFunc 105 args).run Tryz.prog w = .ok (.enter 105 args) w := enters Tryz.func105 (by kernel_rfl) (by kernel_rfl)
set_option maxRecDepth 100000 in
theorem impl_isMorphism_1 (ns us ks ts cl : List Nat) (H : Mph ns us ks ts cl) (x Bi Bf Bg ca cb cc : Nat) (n k : Int) (A B C : Option Addr) (w : World) (ha : Sl cI w (.slice A ns.length ca) (li ns)) (hb : Sl cI w (.slice B ks.length cb) (li ks)) (hc : Sl cI w (.slice C ns.length cc) (li cl))
    (ci : w.cell? ⟨Bi, 0, none⟩ = some (.slice C ns.length cc)) (cf : w.cell? ⟨Bf, 1, none⟩ = some (.slice A ns.length ca)) (cg : w.cell? ⟨Bg, 1, none⟩ = some (.slice B ks.length cb)) (li_ : Bi < w.heap.size) (lf : Bf < w.heap.size) (lg : Bg < w.heap.size) (hx : x < ns.length) :
    Calls Tryz.prog 105 #[.int .i64 x, .pointer (some ⟨Bi, 0, none⟩), .pointer (some ⟨Bf, 0, none⟩), .pointer (some ⟨Bg, 0, none⟩)] w fun e w' => e = .returned (.bool true) ∧ Below w.heap.size w w' := by
  have h8 := H.m.r.1
  have hxc : x < cl.length := by rw [H.l]; exact hx
  have hcx : cl.getD x 0 < ks.length := H.b _ (getD_mem hxc)
  have HI := Lib.hid (fun X (hX : Below w.heap.size w X) => impl_mapMask (.slice C ns.length cc) cl (ns.getD x 0) X (hc.below hX) (by rw [H.l]; exact h8) (fun c hc => Nat.lt_of_lt_of_le (H.b c hc) H.n.r.1) (by rw [H.l]; exact getD_lt H.m.r.2 x))
  rw [H.a x hx] at HI
  obtain ⟨ba, oa, rfl, hba, c1⟩ := ha.atI (k := x) (by rw [li_length]; exact hx)
  obtain ⟨bc, oc, rfl, hbc, c2⟩ := hc.atI (k := x) (by rw [li_length]; exact hxc)
  obtain ⟨bb, ob, rfl, hbb, c3⟩ := hb.atI (k := cl.getD x 0) (by rw [li_length]; exact hcx)
  rw [li_get] at c1 c2 c3
  have hkl := H.n.r.1
  generalize ks.getD (cl.getD x 0) 0 = r at *
  generalize cl.getD x 0 = z at *
  generalize ns.getD x 0 = y at *
  clear H ha hb hc hxc
  go_enter Tryz.func105, Tryz.ntmps105
  go_upto_region 1 with fail
  have hI := (Below.refl w.heap.size w).drew
  refine wp_region_sched (Below w.heap.size w) 16 [0, 1, 2, 3, 4, 5, 7, 8, 9, 10, 11, 12, 13, 14, 15] [0, 1, 2, 3, 4, 5, 7, 8, 9, 10, 11, 12, 13, 14, 6, 15] (by kernel_rfl) (by kernel_rfl) hI ?_
  repeat
    apply wpSched_q rfl rfl
    case h =>
      intro w' hI K hK
      have ci' := (hI.cell (p := ⟨Bi, 0, none⟩) li_).trans ci
      have cf' := (hI.cell (p := ⟨Bf, 1, none⟩) lf).trans cf
      have cg' := (hI.cell (p := ⟨Bg, 1, none⟩) lg).trans cg
      have c1' := (hI.cell (p := ⟨ba, oa + x, none⟩) hba).trans c1
      have c2' := (hI.cell (p := ⟨bc, oc + x, none⟩) hbc).trans c2
      have c3' := (hI.cell (p := ⟨bb, ob + z, none⟩) hbb).trans c3
      simp only [quietV, stillV]
      go_simp
      exact hK
    go_simp
  refine wpSched_r rfl rfl ?_ hI
  intro K hK _
  go_simp
  refine (HI.out _ hI).mono ?_
  rintro e w1 ⟨rfl, hb⟩
  replace hI := hI.trans (hb.mono hI.size)
  refine hK _ _ hI ?_
  clear hK K hb HI
  repeat
    apply wpSched_q rfl rfl
    case h =>
      intro w' hI K hK
      simp only [quietV, stillV]
      go_simp
      exact hK
    go_simp
  refine wpSched_nil ?_
  try simp only [List.drop_succ_cons, List.drop_zero, List.drop_nil]
  have HB := Lib.hid hI
  clear hI ci cf cg c1 c2 c3
  go_wp2
  go_ret
  exact ⟨rfl, HB.out⟩
set_option maxRecDepth 100000 in
theorem impl_isMorphism_ok (ns us ks ts cl : List Nat) (H : Mph ns us ks ts cl) (A B C : Option Addr) (ca cb cc : Nat) (w : World) (ha : Sl cI w (.slice A ns.length ca) (li ns)) (hb : Sl cI w (.slice B ks.length cb) (li ks)) (hc : Sl cI w (.slice C ns.length cc) (li cl)) :
    Calls Tryz.prog 46 #[.agg #[.int .i64 (ns.length : Int), .slice A ns.length ca], .agg #[.int .i64 (ks.length : Int), .slice B ks.length cb], .slice C ns.length cc] w fun e w' => e = .returned (.bool true) ∧ Below w.heap.size w w' := by
  have hb0 := below_alloc' w (.cells #[.int .i64 (ns.length : Int), .slice A ns.length ca] 26)
  have hb1 := below_alloc' (w.alloc (.cells #[.int .i64 (ns.length : Int), .slice A ns.length ca] 26)) (.cells #[.int .i64 (ks.length : Int), .slice B ks.length cb] 26)
  have hb2 := below_alloc' ((w.alloc (.cells #[.int .i64 (ns.length : Int), .slice A ns.length ca] 26)).alloc (.cells #[.int .i64 (ks.length : Int), .slice B ks.length cb] 26)) (.cells #[.slice C ns.length cc] 24)
  have hk0 := Blk.new w 26 #[.int .i64 (ns.length : Int), .slice A ns.length ca]
  have hk1 : Blk _ (w.heap.size + 1) _ _ := Blk.new' (w.alloc (.cells #[.int .i64 (ns.length : Int), .slice A ns.length ca] 26)) 26 #[.int .i64 (ks.length : Int), .slice B ks.length cb] (by simp)
  have hk2 : Blk _ (w.heap.size + 2) _ _ := Blk.new' ((w.alloc (.cells #[.int .i64 (ns.length : Int), .slice A ns.length ca] 26)).alloc (.cells #[.int .i64 (ks.length : Int), .slice B ks.length cb] 26)) 24 #[.slice C ns.length cc] (by simp)
  have HB := Lib.hid (bthen (bthen hb0 hb1) hb2)
  have hk01 := hk0.below hb1 hk0.lt
  have HK0 := Lib.hid (hk01.below hb2 hk01.lt)
  have HK1 := Lib.hid (hk1.below hb2 hk1.lt)
  have HK2 := Lib.hid hk2
  have h8 := H.m.r.1
  have HA := Lib.hid (ha.below HB.out)
  have HBB := Lib.hid (hb.below HB.out)
  have HC := Lib.hid (hc.below HB.out)
  clear hb0 hb1 hb2 hk0 hk1 hk2 hk01 ha hb hc
  go_enter Tryz.func46, Tryz.ntmps46
  go_upto_region 1 with fail
  generalize World.alloc (World.alloc (w.alloc _) _) _ = W at *
  have k0 := HK0.out.cell
  have l0 := HK0.out.lt
  have HE := Lib.hid (impl_everyWorld ns.length (.slice A ns.length ca) A ns.length ca rfl 105 #[.pointer (some ⟨w.heap.size + 2, 0, none⟩), .pointer (some ⟨w.heap.size, 0, none⟩), .pointer (some ⟨w.heap.size + 1, 0, none⟩)] (fun _ => true) W h8 en_isMorphism_1 (fun X hX i hi =>
    impl_isMorphism_1 ns us ks ts cl H i (w.heap.size + 2) w.heap.size (w.heap.size + 1) ca cb cc 0 0 A B C X (HA.out.below hX) (HBB.out.below hX) (HC.out.below hX)
      ((hX.cell (p := ⟨w.heap.size + 2, 0, none⟩) HK2.out.lt).trans (HK2.out.cell 0)) ((hX.cell (p := ⟨w.heap.size, 1, none⟩) HK0.out.lt).trans (HK0.out.cell 1)) ((hX.cell (p := ⟨w.heap.size + 1, 1, none⟩) HK1.out.lt).trans (HK1.out.cell 1))
      (Nat.lt_of_lt_of_le HK2.out.lt hX.size) (Nat.lt_of_lt_of_le HK0.out.lt hX.size) (Nat.lt_of_lt_of_le HK1.out.lt hX.size) hi))
  rw [show ((List.range ns.length).all fun _ => true) = true by simp] at HE
  go_wp2_with fail
  refine HE.out.mono ?_
  rintro e w1 ⟨rfl, hb⟩
  have HB1 := Lib.hid (bthen HB.out hb)
  clear hb k0 l0
  go_wp2
  go_ret
  exact ⟨rfl, HB1.out⟩
theorem en_IsModelMorphism_1 : ∀ (args : Array Value) (w : World), (callFunc 48 args).run Tryz.prog w = .ok (.enter 48 args) w := enters Tryz.func48 (by kernel_rfl) (by kernel_rfl)
set_option maxRecDepth 100000 in
theorem impl_IsModelMorphism_1 (ns us ks ts cl : List Nat) (H : Mph ns us ks ts cl) (x Bm Bn Bi : Nat) (A0 A1 B0 B1 C : Option Addr) (c0 c1 d0 d1 cc : Nat) (w : World) (hm : Mdl w (.slice A0 ns.length c0) (.slice A1 6 c1) ns us) (hn : Mdl w (.slice B0 ks.length d0) (.slice B1 6 d1) ks ts) (hc : Sl cI w (.slice C ns.length cc) (li cl))
    (km : ∀ i, w.cell? ⟨Bm, i, none⟩ = #[Value.int .i64 (ns.length : Int), .slice A0 ns.length c0, .slice A1 6 c1][i]?) (kn : ∀ i, w.cell? ⟨Bn, i, none⟩ = #[Value.int .i64 (ks.length : Int), .slice B0 ks.length d0, .slice B1 6 d1][i]?) (ki : w.cell? ⟨Bi, 0, none⟩ = some (.slice C ns.length cc))
    (lm : Bm < w.heap.size) (ln : Bn < w.heap.size) (li_ : Bi < w.heap.size) (hx : x < ns.length) :
    Calls Tryz.prog 48 #[.int .i64 x, .pointer (some ⟨Bm, 0, none⟩), .pointer (some ⟨Bn, 0, none⟩), .pointer (some ⟨Bi, 0, none⟩)] w fun e w' => e = .returned (.bool true) ∧ Below w.heap.size w w' := by
  have h8 := H.m.r.1
  have h8' := H.n.r.1
  have hxc : x < cl.length := by rw [H.l]; exact hx
  have hcx : cl.getD x 0 < ks.length := H.b _ (getD_mem hxc)
  have H1 := Lib.hid (fun X (hX : Below w.heap.size w X) => impl_truths ns.length A0 ns.length c0 (.slice A1 6 c1) us x X (hm.u.below hX) H.m.l H.m.u256 (by omega))
  have H2 := Lib.hid (fun X (hX : Below w.heap.size w X) => impl_truths ks.length B0 ks.length d0 (.slice B1 6 d1) ts (cl.getD x 0) X (hn.u.below hX) H.n.l H.n.u256 (by omega))
  rw [H.t x hx] at H1
  obtain ⟨bc, oc, rfl, hbc, c2⟩ := hc.atI (k := x) (by rw [li_length]; exact hxc)
  rw [li_get] at c2
  have m0 : w.cell? ⟨Bm, 0, none⟩ = some (.int .i64 (ns.length : Int)) := km 0
  have m1 : w.cell? ⟨Bm, 1, none⟩ = some (.slice A0 ns.length c0) := km 1
  have m2 : w.cell? ⟨Bm, 2, none⟩ = some (.slice A1 6 c1) := km 2
  have n0 : w.cell? ⟨Bn, 0, none⟩ = some (.int .i64 (ks.length : Int)) := kn 0
  have n1 : w.cell? ⟨Bn, 1, none⟩ = some (.slice B0 ks.length d0) := kn 1
  have n2 : w.cell? ⟨Bn, 2, none⟩ = some (.slice B1 6 d1) := kn 2
  generalize tru ts (cl.getD x 0) = r at *
  generalize cl.getD x 0 = z at *
  clear H hm hn hc hxc km kn
  go_enter Tryz.func48, Tryz.ntmps48
  go_upto_region 1 with fail
  have hI := (Below.refl w.heap.size w).drew
  refine wp_region_sched (Below w.heap.size w) 10 [0, 1, 3, 4, 5, 6, 7, 9] [0, 1, 3, 4, 5, 6, 7, 2, 8, 9] (by kernel_rfl) (by kernel_rfl) hI ?_
  repeat
    apply wpSched_q rfl rfl
    case h =>
      intro w' hI K hK
      have m0' := (hI.cell (p := ⟨Bm, 0, none⟩) lm).trans m0
      have m1' := (hI.cell (p := ⟨Bm, 1, none⟩) lm).trans m1
      have m2' := (hI.cell (p := ⟨Bm, 2, none⟩) lm).trans m2
      have n0' := (hI.cell (p := ⟨Bn, 0, none⟩) ln).trans n0
      have n1' := (hI.cell (p := ⟨Bn, 1, none⟩) ln).trans n1
      have n2' := (hI.cell (p := ⟨Bn, 2, none⟩) ln).trans n2
      have ki' := (hI.cell (p := ⟨Bi, 0, none⟩) li_).trans ki
      have c2' := (hI.cell (p := ⟨bc, oc + x, none⟩) hbc).trans c2
      simp only [quietV, stillV]
      go_simp
      exact hK
    go_simp
  refine wpSched_r rfl rfl ?_ hI
  intro K hK _
  go_simp
  refine (H1.out _ hI).mono ?_
  rintro e w1 ⟨rfl, hb⟩
  replace hI := hI.trans (hb.mono hI.size)
  refine hK _ _ hI ?_
  clear hK K hb H1
  repeat
    apply wpSched_q rfl rfl
    case h =>
      intro w' hI K hK
      simp only [quietV, stillV]
      go_simp
      exact hK
    go_simp
  refine wpSched_r rfl rfl ?_ hI
  intro K hK _
  go_simp
  refine (H2.out _ hI).mono ?_
  rintro e w2 ⟨rfl, hb⟩
  replace hI := hI.trans (hb.mono hI.size)
  refine hK _ _ hI ?_
  clear hK K hb H2
  repeat
    apply wpSched_q rfl rfl
    case h =>
      intro w' hI K hK
      simp only [quietV, stillV]
      go_simp
      exact hK
    go_simp
  refine wpSched_nil ?_
  try simp only [List.drop_succ_cons, List.drop_zero, List.drop_nil]
  have HB := Lib.hid hI
  clear hI m0 m1 m2 n0 n1 n2 ki c2
  go_wp2
  go_ret
  exact ⟨rfl, HB.out⟩
set_option maxRecDepth 100000 in
theorem impl_IsModelMorphism_ok (ns us ks ts cl : List Nat) (H : Mph ns us ks ts cl) (hok : mdOk ns.length (li ns) (li us) = true) (hok2 : mdOk ks.length (li ks) (li ts) = true) (A0 A1 B0 B1 C : Option Addr) (c0 c1 d0 d1 cc : Nat) (w : World) (hm : Mdl w (.slice A0 ns.length c0) (.slice A1 6 c1) ns us) (hn : Mdl w (.slice B0 ks.length d0) (.slice B1 6 d1) ks ts) (hc : Sl cI w (.slice C ns.length cc) (li cl)) :
    Calls Tryz.prog 14 #[.agg #[.int .i64 ns.length, .slice A0 ns.length c0, .slice A1 6 c1], .agg #[.int .i64 ks.length, .slice B0 ks.length d0, .slice B1 6 d1], .slice C ns.length cc] w fun e w' => e = .returned (.tuple #[.bool true, .int .i64 0]) ∧ Below w.heap.size w w' := by
  have hb0 := below_alloc' w (.cells #[.int .i64 ns.length, .slice A0 ns.length c0, .slice A1 6 c1] 28)
  have hb1 := below_alloc' (w.alloc (.cells #[.int .i64 ns.length, .slice A0 ns.length c0, .slice A1 6 c1] 28)) (.cells #[.int .i64 ks.length, .slice B0 ks.length d0, .slice B1 6 d1] 28)
  have hb2 := below_alloc' ((w.alloc (.cells #[.int .i64 ns.length, .slice A0 ns.length c0, .slice A1 6 c1] 28)).alloc (.cells #[.int .i64 ks.length, .slice B0 ks.length d0, .slice B1 6 d1] 28)) (.cells #[.slice C ns.length cc] 24)
  have hk0 := Blk.new w 28 #[.int .i64 ns.length, .slice A0 ns.length c0, .slice A1 6 c1]
  have hk1 : Blk _ (w.heap.size + 1) _ _ := Blk.new' (w.alloc (.cells #[.int .i64 ns.length, .slice A0 ns.length c0, .slice A1 6 c1] 28)) 28 #[.int .i64 ks.length, .slice B0 ks.length d0, .slice B1 6 d1] (by simp)
  have hk2 : Blk _ (w.heap.size + 2) _ _ := Blk.new' ((w.alloc (.cells #[.int .i64 ns.length, .slice A0 ns.length c0, .slice A1 6 c1] 28)).alloc (.cells #[.int .i64 ks.length, .slice B0 ks.length d0, .slice B1 6 d1] 28)) 24 #[.slice C ns.length cc] (by simp)
  have A : Hid (Below w.heap.size w _) := Lib.hid (bthen (bthen hb0 hb1) hb2)
  have hk01 := hk0.below hb1 hk0.lt
  have HK0 := Lib.hid (hk01.below hb2 hk01.lt)
  have HK1 := Lib.hid (hk1.below hb2 hk1.lt)
  have HK2 := Lib.hid hk2
  have HM := Lib.hid (hm.below A.out)
  have HN := Lib.hid (hn.below A.out)
  have HC := Lib.hid (hc.below A.out)
  have h8 := H.m.r.1
  have h8' := H.n.r.1
  have HIm := Lib.hid (fun X (hX : Mdl X (.slice A0 ns.length c0) (.slice A1 6 c1) ns us) => hok ▸ impl_isModel ns.length _ _ (li ns) (li us) X hX.a hX.u (by rw [li_length]; omega) (by rw [li_length, H.m.l]; omega))
  have HIn := Lib.hid (fun X (hX : Mdl X (.slice B0 ks.length d0) (.slice B1 6 d1) ks ts) => hok2 ▸ impl_isModel ks.length _ _ (li ks) (li ts) X hX.a hX.u (by rw [li_length]; omega) (by rw [li_length, H.n.l]; omega))
  have HMap := Lib.hid (fun X (hX : Sl cI X (.slice C ns.length cc) (li cl)) => impl_isMap_ok ns.length ks.length A0 B0 C ns.length c0 ks.length d0 cc cl X hX H.l H.b h8 h8')
  have HMor := Lib.hid (fun X a b c => impl_isMorphism_ok ns us ks ts cl H A0 B0 C c0 d0 cc X a b c)
  clear hb0 hb1 hb2 hk0 hk1 hk2 hk01 hm hn hc hok hok2
  go_enter Tryz.func14, Tryz.ntmps14
  go_upto_region 1 with fail
  generalize World.alloc (World.alloc (w.alloc _) _) _ = W at *
  have k0 := HK0.out.cell
  have l0 := HK0.out.lt
  have k1 := HK1.out.cell
  have l1 := HK1.out.lt
  have k2 := HK2.out.cell
  have l2 := HK2.out.lt
  go_wp2_with fail
  clear k0 l0 k1 l1 k2 l2
  refine (HIm.out _ HM.out).mono ?_
  rintro e w9 ⟨rfl, hb⟩
  replace HK0 := Lib.hid (HK0.out.below hb HK0.out.lt)
  replace HK1 := Lib.hid (HK1.out.below hb HK1.out.lt)
  replace HK2 := Lib.hid (HK2.out.below hb HK2.out.lt)
  replace HM := Lib.hid (HM.out.below hb)
  replace HN := Lib.hid (HN.out.below hb)
  replace HC := Lib.hid (HC.out.below hb)
  replace A := Lib.hid (bthen A.out hb)
  clear hb
  skip
  have k0 := HK0.out.cell
  have l0 := HK0.out.lt
  have k1 := HK1.out.cell
  have l1 := HK1.out.lt
  have k2 := HK2.out.cell
  have l2 := HK2.out.lt
  go_wp2_with fail
  clear k0 l0 k1 l1 k2 l2
  refine (HIn.out _ HN.out).mono ?_
  rintro e w9 ⟨rfl, hb⟩
  replace HK0 := Lib.hid (HK0.out.below hb HK0.out.lt)
  replace HK1 := Lib.hid (HK1.out.below hb HK1.out.lt)
  replace HK2 := Lib.hid (HK2.out.below hb HK2.out.lt)
  replace HM := Lib.hid (HM.out.below hb)
  replace HN := Lib.hid (HN.out.below hb)
  replace HC := Lib.hid (HC.out.below hb)
  replace A := Lib.hid (bthen A.out hb)
  clear hb
  skip
  have k0 := HK0.out.cell
  have l0 := HK0.out.lt
  have k1 := HK1.out.cell
  have l1 := HK1.out.lt
  have k2 := HK2.out.cell
  have l2 := HK2.out.lt
  go_wp2_with fail
  clear k0 l0 k1 l1 k2 l2
  refine (HMap.out _ HC.out).mono ?_
  rintro e w9 ⟨rfl, hb⟩
  replace HK0 := Lib.hid (HK0.out.below hb HK0.out.lt)
  replace HK1 := Lib.hid (HK1.out.below hb HK1.out.lt)
  replace HK2 := Lib.hid (HK2.out.below hb HK2.out.lt)
  replace HM := Lib.hid (HM.out.below hb)
  replace HN := Lib.hid (HN.out.below hb)
  replace HC := Lib.hid (HC.out.below hb)
  replace A := Lib.hid (bthen A.out hb)
  clear hb
  skip
  have k0 := HK0.out.cell
  have l0 := HK0.out.lt
  have k1 := HK1.out.cell
  have l1 := HK1.out.lt
  have k2 := HK2.out.cell
  have l2 := HK2.out.lt
  go_wp2_with fail
  clear k0 l0 k1 l1 k2 l2
  refine (HMor.out _ HM.out.a HN.out.a HC.out).mono ?_
  rintro e w9 ⟨rfl, hb⟩
  replace HK0 := Lib.hid (HK0.out.below hb HK0.out.lt)
  replace HK1 := Lib.hid (HK1.out.below hb HK1.out.lt)
  replace HK2 := Lib.hid (HK2.out.below hb HK2.out.lt)
  replace HM := Lib.hid (HM.out.below hb)
  replace HN := Lib.hid (HN.out.below hb)
  replace HC := Lib.hid (HC.out.below hb)
  replace A := Lib.hid (bthen A.out hb)
  clear hb
  skip
  have HE := Lib.hid (fun X (hX : X = w9) => impl_everyWorld ns.length (.slice A0 ns.length c0) A0 ns.length c0 rfl 48 #[.pointer (some ⟨w.heap.size, 0, none⟩), .pointer (some ⟨w.heap.size + 1, 0, none⟩), .pointer (some ⟨w.heap.size + 2, 0, none⟩)] (fun _ => true) w9 h8 en_IsModelMorphism_1 (fun X hX i hi =>
    impl_IsModelMorphism_1 ns us ks ts cl H i w.heap.size (w.heap.size + 1) (w.heap.size + 2) A0 A1 B0 B1 C c0 c1 d0 d1 cc X (HM.out.below hX) (HN.out.below hX) (HC.out.below hX)
      (fun j => (hX.cell (p := ⟨w.heap.size, j, none⟩) HK0.out.lt).trans (HK0.out.cell j)) (fun j => (hX.cell (p := ⟨w.heap.size + 1, j, none⟩) HK1.out.lt).trans (HK1.out.cell j)) ((hX.cell (p := ⟨w.heap.size + 2, 0, none⟩) HK2.out.lt).trans (HK2.out.cell 0))
      (Nat.lt_of_lt_of_le HK0.out.lt hX.size) (Nat.lt_of_lt_of_le HK1.out.lt hX.size) (Nat.lt_of_lt_of_le HK2.out.lt hX.size) hi))
  rw [show ((List.range ns.length).all fun _ => true) = true by simp] at HE
  have k0 := HK0.out.cell
  have l0 := HK0.out.lt
  go_wp2_with fail
  clear k0 l0
  refine (HE.out _ rfl).mono ?_
  rintro e w10 ⟨rfl, hb⟩
  replace A := Lib.hid (bthen A.out hb)
  clear hb HE
  go_wp2
  go_ret2
  exact ⟨rfl, A.out⟩
end Go.Proofs.YtnolbgdbboiehaaGreat
