/- Heyting algebras, of the program: isHeytingMap, IsHeytingMap, heytingMapCode, KernelOfMap, ImageOfMap, at a homomorphism. -/
import Derived.Test.YtgkogfjifcfkoaaGreatY40
namespace Go.Proofs.YtgkogfjifcfkoaaGreat
open Go.RowKit
set_option linter.unusedVariables false
set_option linter.unusedSimpArgs false
theorem impl_isHeytingMap_1 (x : Int) (F : Nat) (va : Option Addr) (ca : Nat) (o i : Value) (b t : Int) (A : List (List Int)) (w : World) (h : BxH w F va ca o i b t A) :
    Calls Tryz.prog 107 #[.int .i64 x, .pointer (some ⟨F, 0, none⟩)] w fun e w' => e = .returned (.bool (!inR x 0 ((A.length : Int) - 1))) ∧ Below w.heap.size w w' := by
  have HE := Lib.hid (impl_hasElementH _ o i b t x A w h.a)
  have k0 := h.k.cell
  have l0 := h.k.lt
  clear h
  go_enter Tryz.func107, Tryz.ntmps107
  go_wp2_with fail
  refine HE.out.mono ?_
  rintro e w1 ⟨rfl, hb⟩
  have HB := Lib.hid hb
  clear k0 l0 hb
  go_wp2
  go_ret
  exact ⟨rfl, HB.out⟩
theorem en_isHeytingMap_1 : ∀ (args : Array Value) (w : World), (callFunc 107 args).run Tryz.prog w = .ok (.enter 107 args) w := enters Tryz.func107 (by kernel_rfl) (by kernel_rfl)
/-- a homomorphism -/
structure HmP (A O I : List (List Nat)) (b t : Nat) (A' O' I' : List (List Nat)) (b' t' : Nat) (L : List Nat) : Prop where
  l : L.length = A.length
  bd : ∀ x ∈ L, x < A'.length
  k : kpP A O I b t A' O' I' b' t' L
set_option maxHeartbeats 1000000 in
set_option maxRecDepth 100000 in
theorem impl_isHeytingMap_yes (a o i a' o' i' v : Value) (A O I A' O' I' : List (List Nat)) (b t b' t' : Nat) (L : List Nat) (w : World) (h : Hy w a o i (lil A) (lil O) (lil I)) (h' : Hy w a' o' i' (lil A') (lil O') (lil I')) (hv : Sl cI w v (li L))
    (hT : HyT A O I b t) (hT' : HyT A' O' I' b' t') (hm : HmP A O I b t A' O' I' b' t' L) :
    Calls Tryz.prog 66 #[.agg #[a, o, i, .int .i64 (b : Int), .int .i64 (t : Int)], .agg #[a', o', i', .int .i64 (b' : Int), .int .i64 (t' : Int)], v] w fun e w' => e = .returned (.bool true) ∧ Below w.heap.size w w' := by
  obtain ⟨va, ca, rfl⟩ := h.a.opn
  obtain ⟨vo, co, rfl⟩ := h.o.opn
  obtain ⟨vi, ci, rfl⟩ := h.i.opn
  obtain ⟨va', ca', rfl⟩ := h'.a.opn
  obtain ⟨vo', co', rfl⟩ := h'.o.opn
  obtain ⟨vi', ci', rfl⟩ := h'.i.opn
  obtain ⟨vv, cv, rfl⟩ := hv.opn
  have n30 := hT.n30
  have KE := Lib.hid (fun W (hW : Below w.heap.size w W) => impl_keeps_yes _ _ _ _ _ _ _ A O I A' O' I' b t b' t' A.length A'.length L W (h.below hW) (h'.below hW) (hv.below hW) hT.tA hT.tO hT.tI hT'.tA hT'.tO hT'.tI hT.n30 hT'.n30 hm.l hm.bd hT.bl hT.tl hm.k)
  have LL := Lib.hid (li_length L)
  have ML := Lib.hid hm.l
  have LA := Lib.hid (lil_length A)
  have HV := Lib.hid (fun W (hW : Below w.heap.size w W) => hv.below hW)
  have SI := Lib.hid (fun W (hW : Below w.heap.size w W) => impl_size_int64 _ _ W (hv.below hW))
  have SZ := Lib.hid (fun W (hW : Below w.heap.size w W) => impl_Hsize _ (.slice vo (lil O).length co) (.slice vi (lil I).length ci) (b : Int) (t : Int) _ W (h.a.below hW))
  have IN := Lib.hid (fun j (hj : j < (li L).length) => show (!inR ((li L)[j]) 0 (((lil A').length : Int) - 1)) = false by
    rw [li_get, lil_length]
    have := hm.bd _ (getD_mem (show j < L.length by rw [li_length] at hj; exact hj))
    rw [Bool.not_eq_false', inR_iff]
    omega)
  have HA' := Lib.hid (fun W (hW : Below w.heap.size w W) => h'.a.below hW)
  have hb0 := below_alloc' w (.cells #[.slice va (lil A).length ca, .slice vo (lil O).length co, .slice vi (lil I).length ci, .int .i64 (b : Int), .int .i64 (t : Int)] 26)
  have hk0 := Blk.new w 26 #[.slice va (lil A).length ca, .slice vo (lil O).length co, .slice vi (lil I).length ci, .int .i64 (b : Int), .int .i64 (t : Int)]
  have hb1 := below_alloc' (w.alloc (.cells #[.slice va (lil A).length ca, .slice vo (lil O).length co, .slice vi (lil I).length ci, .int .i64 (b : Int), .int .i64 (t : Int)] 26)) (.cells #[.slice va' (lil A').length ca', .slice vo' (lil O').length co', .slice vi' (lil I').length ci', .int .i64 (b' : Int), .int .i64 (t' : Int)] 26)
  have hk1 : Blk _ (w.heap.size + 1) _ _ := Blk.new' (w.alloc (.cells #[.slice va (lil A).length ca, .slice vo (lil O).length co, .slice vi (lil I).length ci, .int .i64 (b : Int), .int .i64 (t : Int)] 26)) 26 #[.slice va' (lil A').length ca', .slice vo' (lil O').length co', .slice vi' (lil I').length ci', .int .i64 (b' : Int), .int .i64 (t' : Int)] (by simp)
  have HB := Lib.hid (bthen hb0 hb1)
  have HK0 := Lib.hid (hk0.below hb1 hk0.lt)
  have HK1 := Lib.hid hk1
  clear hb0 hb1 hk0 hk1 h h' hv hT hT' hm
  go_enter Tryz.func66, Tryz.ntmps66
  go_upto_region 1 with fail
  generalize World.alloc (w.alloc _) _ = W at *
  have k0 := HK0.out.cell
  have k1 := HK1.out.cell
  have l0 := HK0.out.lt
  have l1 := HK1.out.lt
  have c0 : W.cell? ⟨w.heap.size, 0, none⟩ = some (.slice va (lil A).length ca) := k0 0
  have c1 : W.cell? ⟨w.heap.size, 1, none⟩ = some (.slice vo (lil O).length co) := k0 1
  have c2 : W.cell? ⟨w.heap.size, 2, none⟩ = some (.slice vi (lil I).length ci) := k0 2
  have c3 : W.cell? ⟨w.heap.size, 3, none⟩ = some (.int .i64 (b : Int)) := k0 3
  have c4 : W.cell? ⟨w.heap.size, 4, none⟩ = some (.int .i64 (t : Int)) := k0 4
  have d0 : W.cell? ⟨w.heap.size + 1, 0, none⟩ = some (.slice va' (lil A').length ca') := k1 0
  have d1 : W.cell? ⟨w.heap.size + 1, 1, none⟩ = some (.slice vo' (lil O').length co') := k1 1
  have d2 : W.cell? ⟨w.heap.size + 1, 2, none⟩ = some (.slice vi' (lil I').length ci') := k1 2
  have d3 : W.cell? ⟨w.heap.size + 1, 3, none⟩ = some (.int .i64 (b' : Int)) := k1 3
  have d4 : W.cell? ⟨w.heap.size + 1, 4, none⟩ = some (.int .i64 (t' : Int)) := k1 4
  have CF := Lib.hid (fun W' (hW : Below W.heap.size W W') => slices_ContainsFunc_ints _ (li L) 107 #[.pointer (some ⟨w.heap.size + 1, 0, none⟩)] (fun j => !inR ((li L).getD j 0) 0 (((lil A').length : Int) - 1)) W' (HV.out W' (bthen HB.out hW)) (by rw [LL.out, ML.out]; omega) en_isHeytingMap_1 (fun w' hw' j hj => by
    rw [show (#[Value.int .i64 (li L)[j]] ++ #[.pointer (some ⟨w.heap.size + 1, 0, none⟩)] : Array Value) = #[.int .i64 (li L)[j], .pointer (some ⟨w.heap.size + 1, 0, none⟩)] from rfl]
    have := impl_isHeytingMap_1 ((li L).getD j 0) (w.heap.size + 1) va' ca' (.slice vo' (lil O').length co') (.slice vi' (lil I').length ci') (b' : Int) (t' : Int) (lil A') w' ⟨(HK1.out.below hW HK1.out.lt).below hw' (Nat.lt_of_lt_of_le HK1.out.lt hW.size), HA'.out w' (bthen (bthen HB.out hW) hw')⟩
    rwa [show (li L).getD j 0 = (li L)[j] by rw [List.getD_eq_getElem?_getD, List.getElem?_eq_getElem hj]; rfl] at this ⊢))
  have AN : Hid ((List.range (li L).length).any (fun j => !inR ((li L).getD j 0) 0 (((lil A').length : Int) - 1)) = false) := Lib.hid (by
    rw [List.any_eq_false]
    intro j hj
    rw [List.mem_range] at hj
    have := IN.out j hj
    rw [List.getD_eq_getElem?_getD, List.getElem?_eq_getElem hj]
    show ¬ (!inR (li L)[j] 0 (((lil A').length : Int) - 1)) = true
    rw [this]
    exact Bool.false_ne_true)
  have q1 : (((li L).length : Int) == ((lil A).length : Int)) = true := beq_iff_eq.2 (by rw [LL.out, ML.out, LA.out])
  clear n30 k0 k1
  have hI := (Below.refl W.heap.size W).drew
  refine wp_region_sched (Below W.heap.size W) 17 [0, 2, 4, 5, 6, 7, 9, 10, 11, 12, 13, 14, 16] [0, 2, 1, 3, 4, 5, 6, 7, 8, 9, 10, 11, 12, 13, 14, 15, 16] (by kernel_rfl) (by kernel_rfl) hI ?_
  repeat
    apply wpSched_q rfl rfl
    case h =>
      intro w' hI K hK
      have c0' := (hI.cell (p := ⟨w.heap.size, 0, none⟩) l0).trans c0
      have c1' := (hI.cell (p := ⟨w.heap.size, 1, none⟩) l0).trans c1
      have c2' := (hI.cell (p := ⟨w.heap.size, 2, none⟩) l0).trans c2
      have c3' := (hI.cell (p := ⟨w.heap.size, 3, none⟩) l0).trans c3
      have c4' := (hI.cell (p := ⟨w.heap.size, 4, none⟩) l0).trans c4
      simp only [quietV, stillV]
      go_simp
      exact hK
    go_simp
  refine wpSched_r rfl rfl ?_ hI
  intro K hK _
  go_simp
  refine (SI.out _ (bthen HB.out hI)).mono ?_
  rintro e _ ⟨rfl, rfl⟩
  refine hK _ _ hI ?_
  clear hK K
  refine wpSched_r rfl rfl ?_ hI
  intro K hK _
  go_simp
  refine (SZ.out _ (bthen HB.out hI)).mono ?_
  rintro e w2 ⟨rfl, hbb⟩
  replace hI := hI.trans (hbb.mono hI.size)
  refine hK _ _ hI ?_
  clear hK K hbb
  repeat
    apply wpSched_q rfl rfl
    case h =>
      intro w' hI K hK
      simp only [quietV, stillV]
      go_simp
      exact hK
    go_simp
  refine wpSched_r rfl rfl ?_ hI
  intro K hK _
  go_simp
  refine (CF.out _ hI).mono ?_
  rintro e w3 ⟨rfl, hbb⟩
  rw [AN.out]
  replace hI := hI.trans (hbb.mono hI.size)
  refine hK _ _ hI ?_
  clear hK K hbb
  repeat
    apply wpSched_q rfl rfl
    case h =>
      intro w' hI K hK
      have c0' := (hI.cell (p := ⟨w.heap.size, 0, none⟩) l0).trans c0
      have c1' := (hI.cell (p := ⟨w.heap.size, 1, none⟩) l0).trans c1
      have c2' := (hI.cell (p := ⟨w.heap.size, 2, none⟩) l0).trans c2
      have c3' := (hI.cell (p := ⟨w.heap.size, 3, none⟩) l0).trans c3
      have c4' := (hI.cell (p := ⟨w.heap.size, 4, none⟩) l0).trans c4
      have d0' := (hI.cell (p := ⟨w.heap.size + 1, 0, none⟩) l1).trans d0
      have d1' := (hI.cell (p := ⟨w.heap.size + 1, 1, none⟩) l1).trans d1
      have d2' := (hI.cell (p := ⟨w.heap.size + 1, 2, none⟩) l1).trans d2
      have d3' := (hI.cell (p := ⟨w.heap.size + 1, 3, none⟩) l1).trans d3
      have d4' := (hI.cell (p := ⟨w.heap.size + 1, 4, none⟩) l1).trans d4
      simp only [quietV, stillV]
      go_simp
      exact hK
    go_simp
  refine wpSched_r rfl rfl ?_ hI
  intro K hK _
  go_simp
  refine (KE.out _ (bthen HB.out hI)).mono ?_
  rintro e w4 ⟨rfl, hbb⟩
  replace hI := hI.trans (hbb.mono hI.size)
  refine hK _ _ hI ?_
  clear hK K hbb
  repeat
    apply wpSched_q rfl rfl
    case h =>
      intro w' hI K hK
      simp only [quietV, stillV]
      go_simp
      exact hK
    go_simp
  refine wpSched_nil ?_
  try simp only [List.drop_succ_cons, List.drop_zero, List.drop_nil]
  have HZ := Lib.hid (bthen HB.out hI)
  clear hI c0 c1 c2 c3 c4 d0 d1 d2 d3 d4 l0 l1 q1
  go_wp2
  go_ret
  exact ⟨rfl, HZ.out⟩
theorem HyT.sz {A O I : List (List Nat)} {b t : Nat} (h : HyT A O I b t) : SzH (lil A) (lil O) (lil I) := by
  have n30 := h.n30
  have g : ∀ X, TabN A.length X → SzT (lil X) := fun X hX => by
    refine ⟨by rw [lil_length, hX.l]; omega, fun r hr => ?_⟩
    unfold lil at hr
    obtain ⟨r', hr', rfl⟩ := List.mem_map.1 hr
    rw [li_length, (hX.r r' hr').1]
    omega
  exact ⟨g A h.tA, g O h.tO, g I h.tI⟩
set_option maxHeartbeats 1000000 in
set_option maxRecDepth 100000 in
theorem impl_IsHeytingMap_yes (a o i a' o' i' v : Value) (A O I A' O' I' : List (List Nat)) (b t b' t' : Nat) (L : List Nat) (w : World) (h : Hy w a o i (lil A) (lil O) (lil I)) (h' : Hy w a' o' i' (lil A') (lil O') (lil I')) (hv : Sl cI w v (li L))
    (hT : HyT A O I b t) (hT' : HyT A' O' I' b' t') (hy : hyt (lil A) (lil O) (lil I) (b : Int) (t : Int)) (hy' : hyt (lil A') (lil O') (lil I') (b' : Int) (t' : Int)) (hm : HmP A O I b t A' O' I' b' t' L) :
    Calls Tryz.prog 26 #[.agg #[a, o, i, .int .i64 (b : Int), .int .i64 (t : Int)], .agg #[a', o', i', .int .i64 (b' : Int), .int .i64 (t' : Int)], v] w fun e w' => e = .returned (.tuple #[.bool true, .int .i64 0]) ∧ Below w.heap.size w w' := by
  obtain ⟨va, ca, rfl⟩ := h.a.opn
  obtain ⟨vo, co, rfl⟩ := h.o.opn
  obtain ⟨vi, ci, rfl⟩ := h.i.opn
  obtain ⟨va', ca', rfl⟩ := h'.a.opn
  obtain ⟨vo', co', rfl⟩ := h'.o.opn
  obtain ⟨vi', ci', rfl⟩ := h'.i.opn
  obtain ⟨vv, cv, rfl⟩ := hv.opn
  have IS := Lib.hid (fun W (hW : Below w.heap.size w W) => impl_isHeyting _ _ _ (b : Int) (t : Int) _ _ _ W (h.below hW) hT.sz)
  have IS' := Lib.hid (fun W (hW : Below w.heap.size w W) => impl_isHeyting _ _ _ (b' : Int) (t' : Int) _ _ _ W (h'.below hW) hT'.sz)
  have Y := Lib.hid (decide_eq_true hy)
  have Y' := Lib.hid (decide_eq_true hy')
  have HM := Lib.hid (fun W (hW : Below w.heap.size w W) => impl_isHeytingMap_yes _ _ _ _ _ _ _ A O I A' O' I' b t b' t' L W (h.below hW) (h'.below hW) (hv.below hW) hT hT' hm)
  have hb0 := below_alloc' w (.cells #[.slice va (lil A).length ca, .slice vo (lil O).length co, .slice vi (lil I).length ci, .int .i64 (b : Int), .int .i64 (t : Int)] 26)
  have hk0 := Blk.new w 26 #[.slice va (lil A).length ca, .slice vo (lil O).length co, .slice vi (lil I).length ci, .int .i64 (b : Int), .int .i64 (t : Int)]
  have hb1 := below_alloc' (w.alloc (.cells #[.slice va (lil A).length ca, .slice vo (lil O).length co, .slice vi (lil I).length ci, .int .i64 (b : Int), .int .i64 (t : Int)] 26)) (.cells #[.slice va' (lil A').length ca', .slice vo' (lil O').length co', .slice vi' (lil I').length ci', .int .i64 (b' : Int), .int .i64 (t' : Int)] 26)
  have hk1 : Blk _ (w.heap.size + 1) _ _ := Blk.new' (w.alloc (.cells #[.slice va (lil A).length ca, .slice vo (lil O).length co, .slice vi (lil I).length ci, .int .i64 (b : Int), .int .i64 (t : Int)] 26)) 26 #[.slice va' (lil A').length ca', .slice vo' (lil O').length co', .slice vi' (lil I').length ci', .int .i64 (b' : Int), .int .i64 (t' : Int)] (by simp)
  have HB := Lib.hid (bthen hb0 hb1)
  have HK0 := Lib.hid (hk0.below hb1 hk0.lt)
  have HK1 := Lib.hid hk1
  clear hb0 hb1 hk0 hk1 h h' hv hT hT' hm hy hy'
  go_enter Tryz.func26, Tryz.ntmps26
  go_upto_region 1 with fail
  generalize World.alloc (w.alloc _) _ = W at *
  have k0 := HK0.out.cell
  have k1 := HK1.out.cell
  have l0 := HK0.out.lt
  have l1 := HK1.out.lt
  go_wp2_with fail
  refine (IS.out _ HB.out).mono ?_
  rintro e w1 ⟨rfl, hb⟩
  rw [Y.out]
  replace HB := Lib.hid (bthen HB.out hb)
  replace HK0 := Lib.hid (HK0.out.below hb l0)
  replace HK1 := Lib.hid (HK1.out.below hb l1)
  clear k0 k1 l0 l1 hb
  have k0 := HK0.out.cell
  have k1 := HK1.out.cell
  have l0 := HK0.out.lt
  have l1 := HK1.out.lt
  go_wp2_with fail
  refine (IS'.out _ HB.out).mono ?_
  rintro e w2 ⟨rfl, hb⟩
  rw [Y'.out]
  replace HB := Lib.hid (bthen HB.out hb)
  replace HK0 := Lib.hid (HK0.out.below hb l0)
  replace HK1 := Lib.hid (HK1.out.below hb l1)
  clear k0 k1 l0 l1 hb
  have k0 := HK0.out.cell
  have k1 := HK1.out.cell
  have l0 := HK0.out.lt
  have l1 := HK1.out.lt
  go_wp2_with fail
  refine (HM.out _ HB.out).mono ?_
  rintro e w3 ⟨rfl, hb⟩
  have HZ := Lib.hid (bthen HB.out hb)
  clear k0 k1 l0 l1 hb
  go_wp2
  go_ret2
  exact ⟨rfl, HZ.out⟩
set_option maxHeartbeats 1000000 in
set_option maxRecDepth 100000 in
theorem impl_heytingMapCode_yes (a o i a' o' i' v : Value) (A O I A' O' I' : List (List Nat)) (b t b' t' : Nat) (L : List Nat) (w : World) (h : Hy w a o i (lil A) (lil O) (lil I)) (h' : Hy w a' o' i' (lil A') (lil O') (lil I')) (hv : Sl cI w v (li L))
    (hT : HyT A O I b t) (hT' : HyT A' O' I' b' t') (hy : hyt (lil A) (lil O) (lil I) (b : Int) (t : Int)) (hy' : hyt (lil A') (lil O') (lil I') (b' : Int) (t' : Int)) (hm : HmP A O I b t A' O' I' b' t' L) :
    Calls Tryz.prog 30 #[.agg #[a, o, i, .int .i64 (b : Int), .int .i64 (t : Int)], .agg #[a', o', i', .int .i64 (b' : Int), .int .i64 (t' : Int)], v] w fun e w' => e = .returned (.int .i64 0) ∧ Below w.heap.size w w' := by
  obtain ⟨va, ca, rfl⟩ := h.a.opn
  obtain ⟨vo, co, rfl⟩ := h.o.opn
  obtain ⟨vi, ci, rfl⟩ := h.i.opn
  obtain ⟨va', ca', rfl⟩ := h'.a.opn
  obtain ⟨vo', co', rfl⟩ := h'.o.opn
  obtain ⟨vi', ci', rfl⟩ := h'.i.opn
  obtain ⟨vv, cv, rfl⟩ := hv.opn
  have IS := Lib.hid (fun W (hW : Below w.heap.size w W) => impl_isHeyting _ _ _ (b : Int) (t : Int) _ _ _ W (h.below hW) hT.sz)
  have IS' := Lib.hid (fun W (hW : Below w.heap.size w W) => impl_isHeyting _ _ _ (b' : Int) (t' : Int) _ _ _ W (h'.below hW) hT'.sz)
  have Y := Lib.hid (decide_eq_true hy)
  have Y' := Lib.hid (decide_eq_true hy')
  have HM := Lib.hid (fun W (hW : Below w.heap.size w W) => impl_isHeytingMap_yes _ _ _ _ _ _ _ A O I A' O' I' b t b' t' L W (h.below hW) (h'.below hW) (hv.below hW) hT hT' hm)
  have hb0 := below_alloc' w (.cells #[.slice va (lil A).length ca, .slice vo (lil O).length co, .slice vi (lil I).length ci, .int .i64 (b : Int), .int .i64 (t : Int)] 26)
  have hk0 := Blk.new w 26 #[.slice va (lil A).length ca, .slice vo (lil O).length co, .slice vi (lil I).length ci, .int .i64 (b : Int), .int .i64 (t : Int)]
  have hb1 := below_alloc' (w.alloc (.cells #[.slice va (lil A).length ca, .slice vo (lil O).length co, .slice vi (lil I).length ci, .int .i64 (b : Int), .int .i64 (t : Int)] 26)) (.cells #[.slice va' (lil A').length ca', .slice vo' (lil O').length co', .slice vi' (lil I').length ci', .int .i64 (b' : Int), .int .i64 (t' : Int)] 26)
  have hk1 : Blk _ (w.heap.size + 1) _ _ := Blk.new' (w.alloc (.cells #[.slice va (lil A).length ca, .slice vo (lil O).length co, .slice vi (lil I).length ci, .int .i64 (b : Int), .int .i64 (t : Int)] 26)) 26 #[.slice va' (lil A').length ca', .slice vo' (lil O').length co', .slice vi' (lil I').length ci', .int .i64 (b' : Int), .int .i64 (t' : Int)] (by simp)
  have HB := Lib.hid (bthen hb0 hb1)
  have HK0 := Lib.hid (hk0.below hb1 hk0.lt)
  have HK1 := Lib.hid hk1
  clear hb0 hb1 hk0 hk1 h h' hv hT hT' hm hy hy'
  go_enter Tryz.func30, Tryz.ntmps30
  go_upto_region 1 with fail
  generalize World.alloc (w.alloc _) _ = W at *
  have k0 := HK0.out.cell
  have k1 := HK1.out.cell
  have l0 := HK0.out.lt
  have l1 := HK1.out.lt
  go_wp2_with fail
  refine (IS.out _ HB.out).mono ?_
  rintro e w1 ⟨rfl, hb⟩
  rw [Y.out]
  replace HB := Lib.hid (bthen HB.out hb)
  replace HK0 := Lib.hid (HK0.out.below hb l0)
  replace HK1 := Lib.hid (HK1.out.below hb l1)
  clear k0 k1 l0 l1 hb
  have k0 := HK0.out.cell
  have k1 := HK1.out.cell
  have l0 := HK0.out.lt
  have l1 := HK1.out.lt
  go_wp2_with fail
  refine (IS'.out _ HB.out).mono ?_
  rintro e w2 ⟨rfl, hb⟩
  rw [Y'.out]
  replace HB := Lib.hid (bthen HB.out hb)
  replace HK0 := Lib.hid (HK0.out.below hb l0)
  replace HK1 := Lib.hid (HK1.out.below hb l1)
  clear k0 k1 l0 l1 hb
  have k0 := HK0.out.cell
  have k1 := HK1.out.cell
  have l0 := HK0.out.lt
  have l1 := HK1.out.lt
  go_wp2_with fail
  refine (HM.out _ HB.out).mono ?_
  rintro e w3 ⟨rfl, hb⟩
  have HZ := Lib.hid (bthen HB.out hb)
  clear k0 k1 l0 l1 hb
  go_wp2
  go_ret
  exact ⟨rfl, HZ.out⟩
set_option maxHeartbeats 1000000 in
set_option maxRecDepth 100000 in
theorem impl_ImageOfMap_yes (a o i a' o' i' v : Value) (A O I A' O' I' : List (List Nat)) (b t b' t' : Nat) (L : List Nat) (w : World) (h : Hy w a o i (lil A) (lil O) (lil I)) (h' : Hy w a' o' i' (lil A') (lil O') (lil I')) (hv : Sl cI w v (li L))
    (hT : HyT A O I b t) (hT' : HyT A' O' I' b' t') (hy : hyt (lil A) (lil O) (lil I) (b : Int) (t : Int)) (hy' : hyt (lil A') (lil O') (lil I') (b' : Int) (t' : Int)) (hm : HmP A O I b t A' O' I' b' t' L) :
    Calls Tryz.prog 7 #[.agg #[a, o, i, .int .i64 (b : Int), .int .i64 (t : Int)], .agg #[a', o', i', .int .i64 (b' : Int), .int .i64 (t' : Int)], v] w fun e w' => e = .returned (.tuple #[.int .i64 ((imS L L.length : Nat) : Int), .int .i64 0]) ∧ Below w.heap.size w w' := by
  obtain ⟨va, ca, rfl⟩ := h.a.opn
  obtain ⟨vo, co, rfl⟩ := h.o.opn
  obtain ⟨vi, ci, rfl⟩ := h.i.opn
  obtain ⟨va', ca', rfl⟩ := h'.a.opn
  obtain ⟨vo', co', rfl⟩ := h'.o.opn
  obtain ⟨vi', ci', rfl⟩ := h'.i.opn
  obtain ⟨vv, cv, rfl⟩ := hv.opn
  have MC := Lib.hid (fun W (hW : Below w.heap.size w W) => impl_heytingMapCode_yes _ _ _ _ _ _ _ A O I A' O' I' b t b' t' L W (h.below hW) (h'.below hW) (hv.below hW) hT hT' hy hy' hm)
  have n30 := hT.n30
  have n30' := hT'.n30
  have IM := Lib.hid (fun W (hW : Below w.heap.size w W) => impl_imageSetM _ L W (hv.below hW) (by rw [hm.l]; exact n30) (fun x hx => Nat.lt_of_lt_of_le (hm.bd x hx) n30'))
  have hb0 := below_alloc' w (.cells #[.slice va (lil A).length ca, .slice vo (lil O).length co, .slice vi (lil I).length ci, .int .i64 (b : Int), .int .i64 (t : Int)] 26)
  have hk0 := Blk.new w 26 #[.slice va (lil A).length ca, .slice vo (lil O).length co, .slice vi (lil I).length ci, .int .i64 (b : Int), .int .i64 (t : Int)]
  have hb1 := below_alloc' (w.alloc (.cells #[.slice va (lil A).length ca, .slice vo (lil O).length co, .slice vi (lil I).length ci, .int .i64 (b : Int), .int .i64 (t : Int)] 26)) (.cells #[.slice va' (lil A').length ca', .slice vo' (lil O').length co', .slice vi' (lil I').length ci', .int .i64 (b' : Int), .int .i64 (t' : Int)] 26)
  have hk1 : Blk _ (w.heap.size + 1) _ _ := Blk.new' (w.alloc (.cells #[.slice va (lil A).length ca, .slice vo (lil O).length co, .slice vi (lil I).length ci, .int .i64 (b : Int), .int .i64 (t : Int)] 26)) 26 #[.slice va' (lil A').length ca', .slice vo' (lil O').length co', .slice vi' (lil I').length ci', .int .i64 (b' : Int), .int .i64 (t' : Int)] (by simp)
  have HB := Lib.hid (bthen hb0 hb1)
  have HK0 := Lib.hid (hk0.below hb1 hk0.lt)
  have HK1 := Lib.hid hk1
  clear hb0 hb1 hk0 hk1 h h' hv hT hT' hm hy hy' n30 n30'
  go_enter Tryz.func7, Tryz.ntmps7
  go_upto_region 1 with fail
  generalize World.alloc (w.alloc _) _ = W at *
  have k0 := HK0.out.cell
  have k1 := HK1.out.cell
  have l0 := HK0.out.lt
  have l1 := HK1.out.lt
  go_wp2_with fail
  refine (MC.out _ HB.out).mono ?_
  rintro e w1 ⟨rfl, hb⟩
  replace HB := Lib.hid (bthen HB.out hb)
  replace HK1 := Lib.hid (HK1.out.below hb l1)
  clear k0 k1 l0 l1 hb HK0
  have k1 := HK1.out.cell
  have l1 := HK1.out.lt
  go_wp2_with fail
  refine (IM.out _ HB.out).mono ?_
  rintro e _ ⟨rfl, rfl⟩
  clear k1 l1
  go_wp2
  go_ret2
  exact ⟨rfl, HB.out⟩
end Go.Proofs.YtgkogfjifcfkoaaGreat
