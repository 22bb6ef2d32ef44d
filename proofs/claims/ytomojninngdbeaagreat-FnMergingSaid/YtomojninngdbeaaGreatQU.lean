/- Joined of several texts: 07q, 07r, 07s, 07t, 07u. -/
import Derived.Test.YtomojninngdbeaaGreat05f
import Derived.Test.YtomojninngdbeaaGreatSA
import Derived.Test.YtomojninngdbeaaGreatAN2
import Derived.StillTailTactics
import Derived.Deep.RegionLaw
namespace Go.Proofs.YtomojninngdbeaaGreat
open Go.RowKit
set_option linter.unusedVariables false
set_option linter.unusedSimpArgs false
/- Contracts of chapter 7, of the program: slices.Max, classCount, mapMask, quotientRelation, frameOf. -/
theorem slices_Max (v : Value) (cl : List Nat) (w : World) (h : Sl cI w v (li cl)) (h0 : 0 < cl.length) (hl : cl.length ≤ 1048576) (hb : ∀ i, cl.getD i 0 < 256) :
    Calls Tryz.prog 124 #[v] w fun e w' => e = .returned (.int .i64 (mx cl cl.length - 1 : Nat)) ∧ w = w' := by
  obtain ⟨A, c, rfl⟩ := h.opn
  have HL := Lib.hid (li_length cl)
  obtain ⟨b, o, rfl, hbl, hc0⟩ := h.atI (k := 0) (by rw [li_length]; exact h0)
  rw [li_get, Nat.add_zero] at hc0
  obtain ⟨y0, hy0⟩ : ∃ y, cl.getD 0 0 = y := ⟨_, rfl⟩
  rw [hy0] at hc0
  have HY := Lib.hid (show mx cl 1 = y0 + 1 by rw [← hy0]; simp [mx])
  have HS := Lib.hid h
  rw [HL.out] at HS ⊢
  have HB := Lib.hid hb
  clear h hb hy0
  have h1 : ¬ (cl.length : Int) < 1 := by omega
  go_enter Tryz.func124, Tryz.ntmps124
  go_wp2
  go_loop [3, 4] (fun m i => ∃ j q : Nat, 1 ≤ j ∧ j ≤ cl.length ∧ i = .int .i64 j ∧ m = .int .i64 q ∧ mx cl j = q + 1) (fun _ i => cl.length - (intOf i).toNat)
  case atStart => exact ⟨1, y0, Nat.le_refl _, h0, rfl, rfl, HY.out⟩
  case round =>
    obtain ⟨j, q, hj1, hj, rfl, rfl, hm⟩ := hrel
    have HM := Lib.hid hm
    clear hm
    by_cases hlt : j < cl.length
    · obtain ⟨b2, o2, hA, hbl2, hc2⟩ := (show Sl cI w (.slice (some ⟨b, o, none⟩) (li cl).length c) (li cl) by rw [HL.out]; exact HS.out).atI (k := j) (by rw [li_length]; exact hlt)
      injection hA with hA
      injection hA with hA hA2
      subst hA; subst hA2
      rw [li_get] at hc2
      have HE : Hid (mx cl (j + 1) = max q (cl.getD j 0) + 1) := Lib.hid (by rw [mx, HM.out]; omega)
      have hk := HB.out j
      generalize cl.getD j 0 = y at *
      rcases Nat.le_total q y with hq | hq
      all_goals
        go_wp2

        go_round
        case rel => exact ⟨j + 1, max q y, by omega, by omega, by go_num, by first | (rw [Nat.max_eq_right hq]; done) | (rw [Nat.max_eq_left hq]; done) | go_num, HE.out⟩
        case measure => simp [intOf]; omega
    · obtain rfl : j = cl.length := by omega
      go_wp2
      go_ret
      exact ⟨by rw [HM.out]; rfl, rfl⟩
theorem impl_classCount (v : Value) (cl : List Nat) (w : World) (h : Sl cI w v (li cl)) (hl : cl.length ≤ 1048576) (hb : ∀ i, cl.getD i 0 < 256) :
    Calls Tryz.prog 77 #[v] w fun e w' => e = .returned (.int .i64 (mx cl cl.length : Nat)) ∧ w = w' := by
  obtain ⟨A, c, rfl⟩ := h.opn
  have HL := Lib.hid (li_length cl)
  rcases Nat.eq_zero_or_pos cl.length with h0 | h0
  · have HE : Hid (mx cl cl.length = 0) := Lib.hid (by rw [h0]; rfl)
    have hz : (li cl).length = 0 := by rw [li_length, h0]
    rw [hz]
    clear h0 HL h hz
    go_enter Tryz.func77, Tryz.ntmps77
    go_wp2
    go_ret
    exact ⟨by rw [HE.out]; rfl, rfl⟩
  · have HC := Lib.hid (slices_Max _ cl w h h0 hl hb)
    have HE : Hid (∃ q : Nat, mx cl cl.length = q + 1 ∧ q < 256) := Lib.hid (by
      have h1 := mx_gt cl (show 0 < cl.length from h0)
      have h2 := mx_le cl 256 cl.length (fun i _ => hb i)
      exact ⟨mx cl cl.length - 1, by omega, by omega⟩)
    rw [HL.out] at HC ⊢
    obtain ⟨q, hq, hq2⟩ := HE.out
    have HQ := Lib.hid hq
    rw [show mx cl cl.length - 1 = q by omega] at HC
    clear hq HE h hb
    have hne : ((cl.length : Int) == 0) = false := by rw [beq_eq_false_iff_ne]; omega
    go_enter Tryz.func77, Tryz.ntmps77
    go_wp2_with fail
    refine HC.out.mono ?_
    rintro e w1 ⟨rfl, rfl⟩
    go_wp2
    go_ret
    exact ⟨by rw [HQ.out]; first | rfl | (congr 1), rfl⟩
theorem impl_mapMask (v : Value) (cl : List Nat) (m : Nat) (w : World) (h : Sl cI w v (li cl)) (h8 : cl.length ≤ 8) (hb : ∀ c ∈ cl, c < 8) (hm : m < 2 ^ cl.length) :
    Calls Tryz.prog 47 #[v, .int .i64 m] w fun e w' => e = .returned (.int .i64 (img (pw cl) m : Nat)) ∧ Below w.heap.size w w' := by
  obtain ⟨A, c, rfl⟩ := h.opn
  have HL := Lib.hid (li_length cl)
  rw [HL.out] at h ⊢
  have hm256 := two_pow_256 h8
  have HM := Lib.hid hm
  have EI : Hid (orL (pw cl) (mems m) = img (pw cl) m) := Lib.hid (orL_img (pw cl) m (by rw [pw_length]; exact hm) (by rw [pw_length]; exact h8))
  have HO := Lib.hid (orL_lt (pw_lt hb))
  have HX : Hid (∀ x : Nat, x < cl.length → cl.getD x 0 < 8) := Lib.hid (fun x hx => hb _ (getD_mem hx))
  have HPW : Hid (∀ x : Nat, x < cl.length → (pw cl).getD x 0 = 2 ^ cl.getD x 0) := Lib.hid (fun x hx => pw_getD hx)
  have HS := Lib.hid h
  clear h hb
  go_enter Tryz.func47, Tryz.ntmps47
  go_wp2_with fail
  refine (impl_membersOf m _ (by omega)).mono ?_
  rintro e w1 ⟨vm, rfl, ho, hb⟩
  obtain ⟨A2, c2, rfl⟩ := ho.opn
  have hms := ho.sl
  have hml := mems_length m
  have HMM := Lib.hid (fun x (hx : x ∈ mems m) => mems_mem HM.out hx)
  have h1 := HS.out.below hb
  have HB := Lib.hid hb
  clear ho hb hm hm256 HM
  generalize mems m = ms at *
  go_wp2
  go_loop [5, 11] (fun t i => ∃ j : Nat, j ≤ ms.length ∧ i = .int .i64 j ∧ t = .int .i64 (orL (pw cl) (ms.take j) : Nat)) (fun _ i => ms.length - (intOf i).toNat)
  case atStart => exact ⟨0, Nat.zero_le _, rfl, rfl⟩
  case round =>
    obtain ⟨j, hj, rfl, rfl⟩ := hrel
    by_cases hlt : j < ms.length
    · obtain ⟨b, o, rfl, hbl, hc0⟩ := hms.atI hlt
      obtain ⟨x, hxx, hxn⟩ := HMM.out ms[j] (List.getElem_mem hlt)
      have HE : Hid (orL (pw cl) (ms.take (j + 1)) = orL (pw cl) (ms.take j) ||| 2 ^ cl.getD x 0) := Lib.hid (by rw [List.take_succ_eq_append_getElem hlt, orL_snoc, hxx, Int.toNat_natCast, HPW.out x hxn])
      rw [hxx] at hc0
      have hx' : x < (li cl).length := by rw [HL.out]; exact hxn
      obtain ⟨b2, o2, rfl, hbl2, hd0⟩ := h1.atI hx'
      rw [li_get] at hd0
      have hq := HO.out (ms.take j)
      have hy := HX.out x hxn
      clear hxx
      generalize orL (pw cl) (ms.take j) = q at *
      generalize cl.getD x 0 = y at *
      have e1 := wrap_two_pow (n := y) (by omega)
      have e2 := i64_or_nat q (2 ^ y) (by omega) (two_pow_lt (by omega))
      rw [← cast_two_pow] at e2
      go_wp2
      go_round
      case rel => exact ⟨j + 1, by omega, by go_num, by rw [HE.out]⟩
      case measure => simp [intOf]; omega
    · have HE : Hid (orL (pw cl) (ms.take j) = img (pw cl) m) := Lib.hid (by rw [List.take_of_length_le (by omega), EI.out])
      go_wp2
      go_ret
      exact ⟨by rw [HE.out]; rfl, HB.out⟩
/- Contracts of chapter 7, of the program: quotientRelation. -/
set_option maxHeartbeats 1000000 in
theorem impl_quotientRelation (v u : Value) (ns cl : List Nat) (n : Nat) (hn : n = mx cl cl.length) (w : World) (h : Sl cI w v (li ns)) (h' : Sl cI w u (li cl)) (hr : RelN ns) (hlc : cl.length = ns.length) (hc : ∀ c ∈ cl, c < 8) :
    Calls Tryz.prog 46 #[v, u] w fun e w' => ∃ A c, e = .returned (.slice A n c) ∧ Ow cI 2 w.heap.size w' (.slice A n c) (li (qrl cl ns n ns.length)) ∧ Below w.heap.size w w' := by
  obtain ⟨A, c, rfl⟩ := h.opn
  obtain ⟨A2, c2, rfl⟩ := h'.opn
  have h8 := hr.1
  have LN := Lib.hid (li_length ns)
  have LC := Lib.hid (show (li cl).length = ns.length by rw [li_length, hlc])
  have HC8 : ∀ i, cl.getD i 0 < 256 := fun i => by
    rcases Nat.lt_or_ge i cl.length with hi | hi
    · have := hc _ (getD_mem hi); omega
    · rw [List.getD_eq_getElem?_getD, List.getElem?_eq_none hi]; decide
  have hn8 : n ≤ 8 := by rw [hn]; exact mx_le cl 8 cl.length fun i hi => hc _ (getD_mem hi)
  have HCN : Hid (∀ j : Nat, j < ns.length → cl.getD j 0 < n) := Lib.hid (fun j hj => by rw [hn]; exact mx_gt cl (by omega))
  have HCC := Lib.hid (fun W (hW : Sl cI W (.slice A2 (li cl).length c2) (li cl)) => impl_classCount _ cl W hW (by omega) HC8)
  have HM := Lib.hid (fun (j : Nat) (hj : j < ns.length) W (hW : Below w.heap.size w W) => impl_mapMask _ cl (ns.getD j 0) W (h'.below hW) (by omega) hc (by rw [hlc]; exact getD_lt hr.2 j))
  have HQ := Lib.hid (fun j => qrl_length cl ns n j)
  have HS : Hid (∀ j, qrl cl ns n (j + 1) = qst (qrl cl ns n j) (cl.getD j 0) (img (pw cl) (ns.getD j 0))) := Lib.hid (fun j => rfl)
  have HPL := Lib.hid (fun (m : Nat) => img_pw_lt hc m)
  have HQL := Lib.hid (fun j => qrl_lt ns hc (n := 8) j)
  have HQB : Hid (∀ j i, (qrl cl ns n j).getD i 0 < 256) := Lib.hid (fun j i => by
    have h1 : ∀ x ∈ qrl cl ns n j, x < 2 ^ 8 := by
      induction j with
      | zero => intro x hx; rw [qrl] at hx; rw [List.eq_of_mem_replicate hx]; decide
      | succ j ih => exact qst_lt ih _ (img_pw_lt hc _)
    exact getD_lt h1 i)
  have HA := Lib.hid h
  have HB := Lib.hid h'
  rw [LN.out] at HA ⊢
  rw [LC.out] at HB HM HCC ⊢
  rw [← hn] at HCC
  clear h h' HC8 hc hlc hr hn HQL
  go_enter Tryz.func46, Tryz.ntmps46
  go_wp2_with fail
  refine (HCC.out _ HB.out).mono ?_
  rintro e w1 ⟨rfl, rfl⟩
  go_wp2_with (at_make; refine stopHere ?_)
  refine goHere ?_
  refine mk_full (K := cI) w ty_int64 rfl _ _ rfl w.heap.size n 0 rfl rfl rfl (by omega) (Nat.le_refl _) ?_
  intro w1 ho hg hb hz
  have EZ : List.replicate n (0 : Int) = li (qrl cl ns n 0) := by rw [qrl]; unfold li; rw [List.map_replicate]; rfl
  rw [EZ] at ho
  have HO := Lib.hid ho
  have HB1 := Lib.hid hb
  clear ho hb hg hz EZ
  go_wp2
  go_loopw [13] (fun x wr => ∃ j : Nat, j ≤ ns.length ∧ x = .int .i64 j ∧ Ow cI 2 w.heap.size wr (.slice (some ⟨w.heap.size, 0, none⟩) n n) (li (qrl cl ns n j)) ∧ Below w.heap.size w wr) (fun x _ => ns.length - (intOf x).toNat)
  case atStart => exact ⟨0, Nat.zero_le _, rfl, HO.out, HB1.out⟩
  case round =>
    obtain ⟨j, hj, rfl, ho, hb⟩ := hrel
    clear HO HB1
    have HO := Lib.hid ho
    have HBx := Lib.hid hb
    by_cases hlt : j < ns.length
    · obtain ⟨b, o, rfl, hbl, hc0⟩ := (show Sl cI w (.slice A (li ns).length c) (li ns) by rw [LN.out]; exact HA.out).below hb |>.atI (k := j) (by rw [LN.out]; exact hlt)
      obtain ⟨b2, o2, rfl, hbl2, hd0⟩ := (show Sl cI w (.slice A2 (li cl).length c2) (li cl) by rw [LC.out]; exact HB.out).below hb |>.atI (k := j) (by rw [LC.out]; exact hlt)
      rw [li_get] at hc0 hd0
      have hy := HCN.out j hlt
      have hm := HM.out j hlt
      have HSj := Lib.hid (HS.out j)
      have hz := HPL.out (ns.getD j 0)
      obtain ⟨p, hp⟩ : ∃ p, img (pw cl) (ns.getD j 0) = p := ⟨_, rfl⟩
      obtain ⟨m, hmm⟩ : ∃ m, ns.getD j 0 = m := ⟨_, rfl⟩
      obtain ⟨y, hyy⟩ : ∃ y, cl.getD j 0 = y := ⟨_, rfl⟩
      rw [hp] at hm hz HSj
      rw [hmm] at hc0 hm
      rw [hyy] at hd0 hy HSj
      have HMj := Lib.hid hm
      obtain ⟨r, hrr⟩ : ∃ r, qrl cl ns n j = r := ⟨_, rfl⟩
      have hrl : (li r).length = n := by rw [li_length, ← hrr]; exact HQ.out j
      have hq := HQB.out j y
      rw [hrr] at HSj HO ho hq
      have HRL := Lib.hid hrl
      clear hp hmm hyy hrr hm ho hb hrl
      obtain ⟨k0, f0, -, l0⟩ := HO.out.at1 rfl (j := y) (by rw [HRL.out]; exact hy) rfl
      rw [li_get] at k0
      obtain ⟨z, hzz⟩ : ∃ z, r.getD y 0 = z := ⟨_, rfl⟩
      have HSz : Hid (qrl cl ns n (j + 1) = r.set y (z ||| p)) := Lib.hid (by rw [HSj.out, qst, hzz])
      have HZZ := Lib.hid hzz
      rw [hzz] at k0 hq
      clear hzz HSj
      have e2 := i64_or_nat z p (by omega) (by omega)
      have i1 : (y : Int) < (n : Int) := by omega
      have i2 : (j : Int) < (ns.length : Int) := by omega
      go_wp2
      go_region_law (go_simp; go_at_call 47; refine (HMj.out _ (below_drewN HBx.out 1)).mono ?_; rintro e w3 ⟨rfl, hb⟩; have hO3 := (HO.out.below (below_drewN (Below.refl _ _) 1)).below hb; have hb3 := (below_drewN HBx.out 1).trans (hb.mono (below_drewN HBx.out 1).size); have k3 := (hb.cell (p := ⟨w.heap.size, y, none⟩) l0).trans k0; have f3 := (hb.frozen (p := ⟨w.heap.size, y, none⟩) l0).trans f0; have d3 := (hb.cell (p := ⟨b2, o2 + j, none⟩) hbl2).trans hd0; have l3 := Nat.lt_of_lt_of_le l0 hb.size)
      all_goals
        have hset := Lib.hid (hO3.set1 (j := y) (x := ((z ||| p : Nat) : Int)) (u := .int .i64 (z ||| p : Nat)) rfl rfl (by rw [HRL.out]; exact hy))
        rw [li_set, ← HSz.out] at hset
        have hbs := Lib.hid (hb3.setCell (p := ⟨w.heap.size, y, none⟩) (Nat.le_refl _) (.int .i64 (z ||| p : Nat)))
        clear hO3 hb3 hb k3 f3 d3 l3 k0 f0 l0
        go_wp2
        go_roundw
        case rel => exact ⟨j + 1, by omega, by go_num, hset.out, hbs.out⟩
        case measure => simp [intOf]; omega
    · obtain rfl : j = ns.length := by omega
      clear ho hb
      go_wp2
      go_ret
      exact ⟨_, _, rfl, HO.out, HBx.out⟩
/- Contracts of chapter 7, of the program: quotientModel. -/
/-- the classes of a model, and their number -/
def qcl (ns us : List Nat) : List Nat := (bcl ns us ns.length).1
def qn (ns us : List Nat) : Nat := mx (qcl ns us) (qcl ns us).length
theorem qcl_length (ns us : List Nat) : (qcl ns us).length = ns.length := dvd_length _ _
theorem qcl_lt (ns us : List Nat) (h8 : ns.length ≤ 8) : ∀ c ∈ qcl ns us, c < 8 := fun c hc => by
  have h1 := dvd_lt _ _ c hc
  have h2 := dvd_count (fun y => (bnd ns us ns us 16).getD y 0) ns.length
  omega
theorem qn_le (ns us : List Nat) (h8 : ns.length ≤ 8) : qn ns us ≤ 8 := mx_le _ 8 _ fun i hi => qcl_lt ns us h8 _ (getD_mem hi)
theorem qvl_take (cl us : List Nat) {j : Nat} (h : j < us.length) : (qvl cl us).take (j + 1) = (qvl cl us).take j ++ [img (pw cl) (us.getD j 0)] := by
  rw [List.take_succ_eq_append_getElem (by rw [qvl_length]; exact h)]
  congr 2
  simp [qvl, h]
set_option maxHeartbeats 2000000 in
set_option maxRecDepth 100000 in
theorem impl_quotientModel (ns us : List Nat) (A0 A1 : Option Addr) (c0 c1 : Nat) (w : World) (hm : Mdl w (.slice A0 ns.length c0) (.slice A1 6 c1) ns us) (h1 : MdN ns us) :
    Calls Tryz.prog 19 #[.agg #[.int .i64 ns.length, .slice A0 ns.length c0, .slice A1 6 c1]] w
      fun e w' => ∃ B1 d1 B2 d2 B3 d3 H, e = .returned (.tuple #[.agg #[.int .i64 (qn ns us : Nat), .slice B1 (qn ns us) d1, .slice B2 6 d2], .slice B3 ns.length d3]) ∧ w.heap.size ≤ H ∧ H ≤ w'.heap.size ∧
        Ob cI 2 w.heap.size H w' (.slice B1 (qn ns us) d1) (li (qrl (qcl ns us) ns (qn ns us) ns.length)) ∧ Ob cI 2 H w'.heap.size w' (.slice B2 6 d2) (li (qvl (qcl ns us) us)) ∧ Ow cI 2 w.heap.size w' (.slice B3 ns.length d3) (li (qcl ns us)) ∧ Below w.heap.size w w' := by
  have h8 := h1.r.1
  have hb0 := below_alloc' w (.cells #[.int .i64 ns.length, .slice A0 ns.length c0, .slice A1 6 c1] 50)
  have hk0 := Blk.new w 50 #[.int .i64 ns.length, .slice A0 ns.length c0, .slice A1 6 c1]
  have hb1 := below_alloc' (w.alloc (.cells #[.int .i64 ns.length, .slice A0 ns.length c0, .slice A1 6 c1] 50)) (.cells #[.int .i64 0, .slice none 0 0, .slice none 0 0] 50)
  have hk1 : Blk _ (w.heap.size + 1) _ _ := Blk.new' (w.alloc (.cells #[.int .i64 ns.length, .slice A0 ns.length c0, .slice A1 6 c1] 50)) 50 #[.int .i64 0, .slice none 0 0, .slice none 0 0] (by simp)
  have HB := Lib.hid (bthen hb0 hb1)
  have HK0 := Lib.hid (hk0.below hb1 hk0.lt)
  have HK1 := Lib.hid hk1
  have HC := Lib.hid (fun W (hW : Below w.heap.size w W) => impl_bisimilar ns us ns us A0 A1 A0 A1 c0 c1 c0 c1 W (hm.below hW) (hm.below hW) h1 h1)
  have HD := Lib.hid (fun v W (hW : Sl cI W v (li (bnd ns us ns us 16))) => impl_classesOf v (bnd ns us ns us 16) W hW (fun i => Nat.lt_of_lt_of_le (getD_lt (bnd_lt ns us ns us 16) i) (two_pow_256 h8)) (by rw [bnd_length]; omega))
  have HE : Hid (li (dvd (fun y => (bnd ns us ns us 16).getD y 0) (bnd ns us ns us 16).length).1 = li (qcl ns us)) := Lib.hid (by rw [bnd_length]; rfl)
  have LC := Lib.hid (show (li (qcl ns us)).length = ns.length by rw [li_length, qcl_length])
  have HQ := Lib.hid (fun v W (hW : Below w.heap.size w W) (hc : Sl cI W v (li (qcl ns us))) => impl_quotientRelation _ v ns (qcl ns us) (qn ns us) rfl W (hm.a.below hW) hc h1.r (qcl_length ns us) (qcl_lt ns us h8))
  have HF := Lib.hid (fun A c W (hW : Sl cI W (.slice A (qn ns us) c) (li (qrl (qcl ns us) ns (qn ns us) ns.length))) => impl_frameOf (.slice A (qn ns us) c) _ W hW)
  have LQ := Lib.hid (show (li (qrl (qcl ns us) ns (qn ns us) ns.length)).length = qn ns us by rw [li_length, qrl_length])
  have HM := Lib.hid (fun (j : Nat) v W (hW : Sl cI W v (li (qcl ns us))) => impl_mapMask v (qcl ns us) (us.getD j 0) W hW (by rw [qcl_length]; exact h8) (qcl_lt ns us h8) (by rw [qcl_length]; exact getD_lt h1.b j))
  have HU := Lib.hid hm.u
  have LU6 := Lib.hid (show (li us).length = 6 by rw [li_length, h1.l])
  have HT := Lib.hid (fun (j : Nat) (hj : j < 6) => qvl_take (qcl ns us) us (j := j) (by rw [h1.l]; exact hj))
  have HT0 := Lib.hid (show (qvl (qcl ns us) us).take 6 = qvl (qcl ns us) us from List.take_of_length_le (by rw [qvl_length, h1.l]; exact Nat.le_refl _))
  have HTL := Lib.hid (fun (j : Nat) (hj : j ≤ 6) => show (li ((qvl (qcl ns us) us).take j)).length = j by rw [li_length, List.length_take, qvl_length, h1.l]; omega)
  rw [LQ.out] at HF
  have hn8 := qn_le ns us h8
  clear hb0 hb1 hk0 hk1 hm h1
  generalize qn ns us = n at *
  generalize qrl (qcl ns us) ns n ns.length = qr at *
  go_enter Tryz.func19, Tryz.ntmps19
  go_upto_region 1 with fail
  generalize World.alloc (w.alloc _) _ = W at *
  have k0 := HK0.out.cell
  have l0 := HK0.out.lt
  go_wp2_with fail
  refine (HC.out _ HB.out).mono ?_
  rintro e w1 ⟨A, c, rfl, hg, hb⟩
  have HG := Lib.hid hg
  have HB1 := Lib.hid (bthen HB.out hb)
  have HKa := Lib.hid (HK0.out.below hb l0)
  have HKb := Lib.hid (HK1.out.below hb HK1.out.lt)
  clear hg hb k0 l0 HK0 HK1 HB
  go_wp2_with fail
  refine (HD.out _ _ HG.out).mono ?_
  rintro e w2 ⟨u, rfl, ho, hb⟩
  rw [HE.out] at ho
  obtain ⟨Au, cu, rfl⟩ := ho.opn
  have HCL := Lib.hid (show Ow cI 2 (w.heap.size + 2) w2 (.slice Au (li (qcl ns us)).length cu) (li (qcl ns us)) from ho.mono HKb.out.lt)
  have HB2 := Lib.hid (bthen HB1.out hb)
  have HKc := Lib.hid (HKa.out.below hb HKa.out.lt)
  have HKd := Lib.hid (HKb.out.below hb HKb.out.lt)
  clear ho hb HKa HKb HG HB1
  rw [LC.out] at HCL ⊢
  have k2 := HKc.out.cell
  have l2 := HKc.out.lt
  go_wp2_with fail
  refine (HQ.out _ _ HB2.out HCL.out.sl).mono ?_
  rintro e w3 ⟨Aq, cq, rfl, ho, hb⟩
  have HO := Lib.hid (show Ow cI 2 (w.heap.size + 2) w3 (.slice Aq n cq) (li qr) from ho.mono HKd.out.lt)
  have HB3 := Lib.hid (bthen HB2.out hb)
  have HKe := Lib.hid (HKc.out.below hb HKc.out.lt)
  have HKf := Lib.hid (HKd.out.below hb HKd.out.lt)
  have HCM := Lib.hid (HCL.out.below hb)
  clear ho hb HKc HKd HCL k2 l2
  go_wp2_with fail
  refine (HF.out _ _ _ HO.out.sl).mono ?_
  rintro e w4 ⟨rfl, hb⟩
  have HO4 := Lib.hid (HO.out.below hb)
  have HB4 := Lib.hid (bthen HB3.out hb)
  have HKg := Lib.hid (HKe.out.below hb HKe.out.lt)
  have HKh := Lib.hid (HKf.out.below hb HKf.out.lt)
  have HCN := Lib.hid (HCM.out.below hb)
  clear hb HKe HKf HCM HO HB2 HB3
  have k4 := HKg.out.cell
  have l4 := HKg.out.lt
  go_wp2
  have HP : Hid (Blk (w4.alloc (.cells #[.int .i64 n, .slice Aq n cq, .slice none 0 0] 50)) w4.heap.size 50 #[.int .i64 n, .slice Aq n cq, .slice none 0 0]) := Lib.hid (Blk.new _ _ _)
  have HV := Lib.hid (below_alloc' w4 (.cells #[.int .i64 n, .slice Aq n cq, .slice none 0 0] 50))
  have HVs : Hid ((w4.alloc (.cells #[.int .i64 n, .slice Aq n cq, .slice none 0 0] 50)).heap.size = w4.heap.size + 1) := Lib.hid (by simp)
  generalize World.alloc w4 _ = V at *
  clear k4 l4
  go_loopw [22] (fun i wr => ∃ j : Nat, j ≤ 6 ∧ i = .int .i64 j ∧ Below w4.heap.size w4 wr ∧ w4.heap.size + 1 ≤ wr.heap.size ∧ ∃ v', Blk wr w4.heap.size 50 #[.int .i64 n, .slice Aq n cq, v'] ∧ Ow cI 2 (w4.heap.size + 1) wr v' (li ((qvl (qcl ns us) us).take j))) (fun i _ => 6 - (intOf i).toNat)
  case atStart => exact ⟨0, Nat.zero_le _, rfl, HV.out, by rw [HVs.out]; exact Nat.le_refl _, _, HP.out, Ow.nil _ _⟩
  case round =>
    obtain ⟨j, hj, rfl, hb, hz, v', hp, ho⟩ := hrel
    obtain ⟨Av, cv, rfl⟩ := ho.opn
    have hl := HTL.out j hj
    have HO := Lib.hid ho
    have HPx := Lib.hid hp
    have HBx := Lib.hid hb
    have hsz := hb.size
    rw [hl] at HO HPx
    have HL := Lib.hid hl
    clear ho hp hl
    by_cases hlt : j < 6
    · obtain ⟨b, o, rfl, hbl, hc0⟩ := (show Sl cI w (.slice A1 (li us).length c1) (li us) by rw [LU6.out]; exact HU.out).below (bthen HB4.out hb) |>.atI (k := j) (by rw [LU6.out]; exact hlt)
      rw [li_get] at hc0
      have hm := HM.out j
      have HS := Lib.hid (HT.out j hlt)
      obtain ⟨q, hq⟩ : ∃ q, img (pw (qcl ns us)) (us.getD j 0) = q := ⟨_, rfl⟩
      obtain ⟨m, hmm⟩ : ∃ m, us.getD j 0 = m := ⟨_, rfl⟩
      rw [hq] at hm HS
      rw [hmm] at hc0 hm
      have HMj := Lib.hid hm
      have HCr := Lib.hid (HCN.out.below hb)
      obtain ⟨xs, hxs⟩ : ∃ xs, li ((qvl (qcl ns us) us).take j) = xs := ⟨_, rfl⟩
      have HXE : Hid (li ((qvl (qcl ns us) us).take (j + 1)) = xs ++ [(q : Int)]) := Lib.hid (by rw [HS.out, li_append, hxs]; rfl)
      rw [hxs] at HO HL
      have hxl : xs.length ≤ 1000 := by rw [HL.out]; omega
      have hl9 : (xs ++ [(q : Int)]).length = j + 1 := by simp [HL.out]
      have HNR := Lib.hid (HO.out.apart (g := w4.heap.size) (.inl (by omega)))
      have kc := HPx.out.cell
      have kf := HPx.out.frozen
      have kl := HPx.out.lt
      clear hb hm hq hmm hxs HS
      go_wp2
      go_region_law (first | (refine step_one (K := cI) _ ty_int64 rfl _ _ rfl (B := w4.heap.size + 1) (xs := xs) (by simp [Act.eval, Act.put]; done) hO3 (q : Int) rfl (by simp [Act.eval, Act.put]; done) (by omega) hz3 ?_; intro v1 w5 ho1 hg1 hb1 hat1; obtain ⟨g9, c9, hv9, hB9, -⟩ := ho1.form (by simp); rw [hl9] at hv9; subst hv9; have hk9 := (hk3.alloc _).grown hg1 HNR.out; have kc9 := hk9.cell; have kf9 := hk9.frozen; have kl9 := hk9.lt) | (go_simp; go_at_call 47; refine (HMj.out _ _ (HCr.out.sl.below (below_drewN (Below.refl _ _) 1))).mono ?_; rintro e w3 ⟨rfl, hb⟩; have hO3 := (HO.out.below (below_drewN (Below.refl _ _) 1)).below hb; have hb3 := (below_drewN HBx.out 1).trans (hb.mono (below_drewN HBx.out 1).size); have hk3 := HPx.out.below ((below_drewN (Below.refl _ _) 1).trans hb) kl; have rc3 := hk3.cell; have rl3 := hk3.lt; have hz3 := Nat.le_trans hz hb.size))
      all_goals
        have Y1 := Lib.hid (hk9.set_ 2 (.slice (some ⟨g9, 0, none⟩) (j + 1) c9))
        have Y3 := Lib.hid (ho1.setBelow (p := ⟨w4.heap.size, 2, none⟩) (Nat.lt_succ_self _) (.slice (some ⟨g9, 0, none⟩) (j + 1) c9))
        have Y4 := Lib.hid ((hb3.trans (hb1.mono (by omega))).setCell (p := ⟨w4.heap.size, 2, none⟩) (Nat.le_refl _) (.slice (some ⟨g9, 0, none⟩) (j + 1) c9))
        have Y5 := Lib.hid (Nat.le_trans hz3 hb1.size)
        clear ho1 hg1 hb1 hat1 hk9 kc9 kf9 hO3 hb3 hk3 rc3 kc kf
        go_wp2
        go_roundw
        case rel => exact ⟨j + 1, by omega, by go_num, Y4.out, by simp only [World.setCell, Array.size_modify]; exact Y5.out, _, Y1.out, by rw [HXE.out]; exact Y3.out⟩
        case measure => simp [intOf]; omega
    · obtain rfl : j = 6 := by omega
      rw [HT0.out] at HO
      have kc := HPx.out.cell
      have kl := HPx.out.lt
      have hr1 := HKh.out.below hb HKh.out.lt
      have rc := hr1.cell
      have rf := hr1.frozen
      have rl := hr1.lt
      have hle := HB4.out.size
      have Z1 : Hid (Ow cI 2 (w.heap.size + 2) wr (.slice Aq n cq) (li qr)) := Lib.hid (HO4.out.below hb)
      have Z1b : Hid (∀ g, (Value.slice Aq n cq).ownBlock = some g → g < w4.heap.size + 1) := Lib.hid (fun g hg => by have := (HO4.out.block g hg).2; omega)
      have Z2 := Lib.hid HO.out
      have Z3 := Lib.hid (HCN.out.below hb)
      have Z4 := Lib.hid (bthen HB4.out hb)
      have Z5 := Lib.hid hz
      have Z6 := Lib.hid hle
      have Z7 := Lib.hid (show w.heap.size + 1 < w4.heap.size + 1 by have := HKh.out.lt; omega)
      have Z8 : Hid (∀ (W : World) (u1 u2 u3 : Value), (((W.setCell ⟨w.heap.size + 1, 0, none⟩ u1).setCell ⟨w.heap.size + 1, 1, none⟩ u2).setCell ⟨w.heap.size + 1, 2, none⟩ u3).heap.size = W.heap.size) := Lib.hid (fun W u1 u2 u3 => by simp [World.setCell])
      clear hb hr1 HO HU LU6 HM HT HTL
      go_wp2
      refine bodyPost_ret (v := .tuple #[.agg #[.int .i64 n, .slice Aq n cq, .slice Av 6 cv], .slice Au ns.length cu]) (by simp [results, Tryz.results19, go_sem, rc, rf, rl]) rfl ⟨_, _, _, _, _, _, w4.heap.size + 1, rfl, by omega, ?_, ⟨?_, ?_⟩, ⟨?_, ?_⟩, ?_, ?_⟩
      · rw [Z8.out]; exact Z5.out
      · exact (((Z1.out.setBelow (Nat.lt_succ_self _) _).setBelow (Nat.lt_succ_self _) _).setBelow (Nat.lt_succ_self _) _).mono (by omega)
      · exact Z1b.out
      · exact ((Z2.out.setBelow Z7.out _).setBelow Z7.out _).setBelow Z7.out _
      · rw [Z8.out]; intro g hg; exact (Z2.out.block g hg).2
      · exact (((Z3.out.setBelow (Nat.lt_succ_self _) _).setBelow (Nat.lt_succ_self _) _).setBelow (Nat.lt_succ_self _) _).mono (by omega)
      · exact ((Z4.out.setCell (Nat.le_succ _) _).setCell (Nat.le_succ _) _).setCell (Nat.le_succ _) _
/- Contracts of QuotientModel, of the program. -/
/-- what a Model that is a result holds: its lists lie in memory of their own, the one below H, the other from H on -/
def MdR (w w' : World) (u1 u2 : Value) (xs ys : List Int) : Prop := ∃ H, w.heap.size ≤ H ∧ H ≤ w'.heap.size ∧ Ob cI 2 w.heap.size H w' u1 xs ∧ Ob cI 2 H w'.heap.size w' u2 ys
/- Contracts of chapter 7, of the reference: l07Quotient, QuotientModel. -/
/-- the cells of make([]int64, n) -/
def mkz (n : Nat) : Array Value := (List.replicate n (Value.int .i64 0)).toArray
theorem mkz_flat (n : Nat) : flat cI (List.replicate n 0) = (mkz n).toList := by rw [flat_cI]; unfold mkz; rw [List.map_replicate]
theorem run_mkz (n : Nat) (h : n ≤ 1048576) (w : World) :
    (Instr.makeSlice 24 (.int .i64 (n : Int)) (.int .i64 (n : Int))).run Tryz.prog w = .ok (.slice (some ⟨w.heap.size, 0, none⟩) n n) (w.alloc (.cells (mkz n) 2)) := by
  obtain ⟨i, hi, hz, hsize, hby⟩ := ty_int64.info
  have := run_make (P := Tryz.prog) w 24 2 i _ ty_int64.under hi hz .i64 .i64 (n : Int) (n : Int) (by omega) (Int.le_refl _) (by rw [hby]; omega) (by omega)
  have e : madeCells (Value.int .i64 0).cells ((n : Int).toNat * i.size) = mkz n := by
    rw [hsize, Int.toNat_natCast, Nat.mul_one]
    apply Array.ext (by simp [madeCells, mkz])
    intro j h1 h2
    simp [madeCells, mkz, Value.cells, Nat.mod_one]
  rw [this, e, Int.toNat_natCast]
theorem Ow.mkz {B : Nat} (w : World) (n g : Nat) (hg : g = w.heap.size) (hB : B ≤ g) (h : n ≤ 1048576) : Ow cI 2 B (w.alloc (.cells (mkz n) 2)) (.slice (some ⟨g, 0, none⟩) n n) (List.replicate n 0) :=
  Ow.lit' (List.replicate n (0 : Int)) hg (by simp) (mkz_flat n) hB (by simp; omega)
end Go.Proofs.YtomojninngdbeaaGreat
