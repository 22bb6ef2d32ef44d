/- Contracts of chapter 34, of the program: rootedParts, RootedParts. -/
import Derived.Test.YtkdldfomdbgcaaaGreat34R
namespace Go.Proofs.YtkdldfomdbgcaaaGreat
open Go.RowKit
set_option linter.unusedVariables false
set_option linter.unusedSimpArgs false
/-- the least forms of the parts above the first x elements -/
def pts (ns : List Nat) (x : Nat) : List (List Nat) := (List.range x).map fun i => lst (ptr ns (ns.getD i 0))
theorem pts_succ (ns : List Nat) (x : Nat) : pts ns (x + 1) = pts ns x ++ [lst (ptr ns (ns.getD x 0))] := by
  unfold pts; rw [List.range_succ, List.map_append]; rfl
theorem pts_length (ns : List Nat) (x : Nat) : (pts ns x).length = x := by simp [pts]
/-- a frame of a list of masks -/
def fro (L : List (List Nat)) : List (Int × List Int) := L.map fun l => ((l.length : Int), li l)
theorem fro_snoc (L : List (List Nat)) (l : List Nat) : fro (L ++ [l]) = fro L ++ [((l.length : Int), li l)] := by simp [fro]
theorem fro_length (L : List (List Nat)) : (fro L).length = L.length := by simp [fro]
set_option maxRecDepth 100000 in
theorem run_fldP1 (a b : Value) (w : World) : Sem.run Tryz.prog (Instr.field 29 (Value.agg #[a, b]) 1) w = .ok b w := by
  first | rfl | kernel_rfl | (simp [go_sem]; done)
theorem below_growS (w : World) (n : Nat) (os : Array Obj) : Below w.heap.size w (Go.Sort.grow (w.drewN n) os) :=
  ⟨rfl, rfl, rfl, by simp [Go.Sort.grow, World.drewN], fun k hk => by simp [Go.Sort.grow, World.drewN, Array.getElem?_append_left hk]⟩
theorem ap_below_alloc (w : World) (o : Obj) : w.grownBy (w.alloc o) none := by
  first | exact World.grownBy.alloc w o | exact World.grownBy_alloc w o | exact ⟨rfl, rfl, rfl, by simp, fun k hk _ => Below.heap_alloc w o k hk⟩
/-- the places of the frames that ddp keeps -/
def sel (L : List (List Nat)) : Nat → List Nat
  | 0 => []
  | k + 1 => if k = 0 ∨ cmf (L.getD (k - 1) []) (L.getD k []) ≠ 0 then sel L k ++ [k] else sel L k
theorem ddp_sel (L : List (List Nat)) : ∀ k, ddp L k = (sel L k).map fun i => L.getD i []
  | 0 => rfl
  | k + 1 => by
    rw [ddp, sel]
    split
    · rw [ddp_sel L k, List.map_append]; rfl
    · exact ddp_sel L k
theorem sel_lt (L : List (List Nat)) : ∀ k, ∀ i ∈ sel L k, i < k
  | 0, i, h => by simp [sel] at h
  | k + 1, i, h => by
    rw [sel] at h
    split at h
    · rcases List.mem_append.1 h with h | h
      · have := sel_lt L k i h; omega
      · simp at h; omega
    · have := sel_lt L k i h; omega
theorem sel_len (L : List (List Nat)) : ∀ k, (sel L k).length ≤ k
  | 0 => Nat.le_refl _
  | k + 1 => by
    rw [sel]
    have := sel_len L k
    split
    · simp; omega
    · omega
theorem sel_nodup (L : List (List Nat)) : ∀ k, (sel L k).Nodup
  | 0 => by simp [sel]
  | k + 1 => by
    rw [sel]
    split
    · rw [List.nodup_append]
      refine ⟨sel_nodup L k, by simp, fun a ha b hb e => ?_⟩
      simp at hb
      have := sel_lt L k a ha
      omega
    · exact sel_nodup L k
set_option maxHeartbeats 1000000 in
theorem sort_found {B H : Nat} {w : World} {v : Value} (L : List (List Nat)) (h : ObF B H w v (fro L)) (hn : 0 < L.length) (h12 : L.length ≤ 12) (hlen : ∀ i (hi : i < L.length), L[i].length ≤ 1000) :
    Calls Tryz.prog 53 #[v, .func (.func 54) #[] #[]] w fun e w' => e = .returned (.tuple #[]) ∧ ∃ (hs : List (Int × Hd)) (S : List (List Nat)), S.Perm L ∧ hs.length = S.length ∧ Sl cF w' v hs ∧ (∀ i j, i < j → j < S.length → ¬ cmf (S.getD j []) (S.getD i []) < 0) ∧
      (∀ i (p : i < hs.length) (q : i < S.length), hs[i].1 = (S[i].length : Int) ∧ Ob cI 2 B H w' hs[i].2.val (li S[i]) ∧ ∀ k, hs[i].2.val.ownBlock = some k → ∀ j (r : j < hs.length), j ≠ i → hs[j].2.val.ownBlock ≠ some k) ∧ Below B w w' := by
  obtain ⟨hs, h1, h2, h3⟩ := h
  rw [fro_length] at h2
  have hfr : ∀ i (q : i < L.length), (fro L)[i]'(by rw [fro_length]; exact q) = ((L[i].length : Int), li L[i]) := fun i q => by simp [fro]
  have h4 : ∀ i (p : i < hs.length) (q : i < L.length), hs[i].1 = (L[i].length : Int) ∧ Ob cI 2 B H w hs[i].2.val (li L[i]) ∧ ∀ k, hs[i].2.val.ownBlock = some k → v.ownBlock ≠ some k ∧ ∀ j (r : j < hs.length), j ≠ i → hs[j].2.val.ownBlock ≠ some k := fun i p q => by
    have := h3 i p (by rw [fro_length]; exact q)
    rw [hfr i q] at this
    exact this
  refine (slices_SortFunc_frames hs L B v w h1.1 h2 hn h12 hlen (fun i p q => ⟨(h4 i p q).1, (h4 i p q).2.1.1.sl, fun k e => ((h4 i p q).2.2 k e).1⟩)).mono fun e w' ⟨he, p, hp, hs', hso, hk⟩ => ?_
  have hpl : p.length = L.length := by rw [hp.length_eq, List.length_range]
  have hpm : ∀ i (hi : i < p.length), p[i] < L.length := fun i hi => List.mem_range.1 (hp.mem_iff.1 (List.getElem_mem hi))
  have hnd : p.Nodup := hp.nodup_iff.2 List.nodup_range
  have e1 : ∀ i (hi : i < p.length), (pmH hs p)[i]'(by simp [pmH]; exact hi) = hs[p[i]]'(by rw [h2]; exact hpm i hi) := fun i hi => by
    have := hpm i hi
    simp only [pmH, List.getElem_map]
    rw [List.getD_eq_getElem?_getD, List.getElem?_eq_getElem (by omega), Option.getD_some]
  have e2 : ∀ i (hi : i < p.length), (p.map fun i => L.getD i [])[i]'(by simp; exact hi) = L[p[i]]'(hpm i hi) := fun i hi => by
    have := hpm i hi
    simp only [List.getElem_map]
    rw [List.getD_eq_getElem?_getD, List.getElem?_eq_getElem this, Option.getD_some]
  refine ⟨he, pmH hs p, p.map fun i => L.getD i [], ?_, by simp [pmH], hs', ?_, ?_, ?_⟩
  · have h5 := hp.map (fun i => L.getD i [])
    have e3 : (List.range L.length).map (fun i => L.getD i []) = L := by
      apply List.ext_getElem (by simp)
      intro i h6 h7
      simp [List.getD_eq_getElem?_getD, h7]
    rw [e3] at h5
    exact h5
  · intro i j hij hj
    rw [List.length_map] at hj
    have h5 := hso i j hij hj
    have e4 : ∀ i (hi : i < p.length), (p.map fun i => L.getD i []).getD i [] = L.getD (p.getD i 0) [] := fun i hi => by
      simp [List.getD_eq_getElem?_getD, hi]
    rw [e4 i (by omega), e4 j hj]
    exact h5
  · intro i hi hq
    have hi' : i < p.length := by simpa [pmH] using hi
    obtain ⟨a1, a2, a3⟩ := h4 p[i] (by rw [h2]; exact hpm i hi') (hpm i hi')
    rw [e1 i hi', e2 i hi']
    refine ⟨a1, ⟨a2.1.kps hk fun k e e5 => (a3 k e).1 e5, a2.2⟩, fun k e j hj hne => ?_⟩
    have hj' : j < p.length := by simpa [pmH] using hj
    rw [e1 j hj']
    exact (a3 k e).2 _ _ fun e6 => hne ((List.getElem_inj hnd).1 e6)
  · exact hk.toBelow (by have := h1.1.block; rcases hv : v.ownBlock with _ | g
                         · obtain ⟨g, c, e, hB, hg, _⟩ := h1.1.form (by omega); rw [e] at hv; cases hv
                         · have := this g hv; omega) (fun k hk e => by have := h1.1.block k e; omega)
set_option maxRecDepth 100000 in
set_option maxHeartbeats 2000000 in
theorem impl_rootedParts (ns : List Nat) (v : Value) (w : World) (h : Sl cI w v (li ns)) (hr : RelN ns) (h6 : ns.length ≤ 6) :
    Calls Tryz.prog 28 #[.agg #[.int .i64 (ns.length : Int), v]] w fun e w' => ∃ u, e = .returned u ∧ ObP w.heap.size w'.heap.size w' u (fro (rpt ns)) ∧ Below w.heap.size w w' := by
  obtain ⟨A0, c0, rfl⟩ := h.opn
  have EL := Lib.hid (li_length ns)
  rw [EL.out] at h ⊢
  have HX := Lib.hid h
  have HCn := Lib.hid (fun x (hx : x < ns.length) W (hW : Sl cI W (.slice A0 ns.length c0) (li ns)) => impl_cone ns x _ W hW hr hx)
  have HLs := Lib.hid (fun x (hx : x < ns.length) u W (hW : Sl cI W u (li (ptr ns (ns.getD x 0)))) lv => impl_leastRelation (ptr ns (ns.getD x 0)) u W hW lv (ptr_rel ns _ hr (getD_lt hr.2 x)))
  have HFr := Lib.hid (fun x u W (hW : Sl cI W u (li (lst (ptr ns (ns.getD x 0))))) => impl_frameOf u _ W hW)
  have HLL := Lib.hid (fun x => show (li (lst (ptr ns (ns.getD x 0)))).length = (ptr ns (ns.getD x 0)).length by rw [li_length, lst_length])
  have HPS := Lib.hid (fun x => show fro (pts ns (x + 1)) = fro (pts ns x) ++ [(((ptr ns (ns.getD x 0)).length : Int), li (lst (ptr ns (ns.getD x 0))))] by rw [pts_succ, fro_snoc, lst_length])
  have HP0 : Hid (fro (pts ns 0) = []) := Lib.hid rfl
  have HRl := Lib.hid hr
  have HPL := Lib.hid (fun x => show (fro (pts ns x)).length = x by rw [fro_length, pts_length])
  clear h hr
  go_enter Tryz.func28, Tryz.ntmps28
  go_upto_region 1 with fail
  have hb := below_alloc' w (.cells #[.int .i64 (ns.length : Int), .slice A0 ns.length c0] 29)
  have K1 := Lib.hid (Blk.new w 29 #[.int .i64 (ns.length : Int), .slice A0 ns.length c0])
  replace HX := Lib.hid (HX.out.below hb)
  have HB := Lib.hid hb
  clear hb
  generalize World.alloc w _ = w1 at *
  have a0 := K1.out.cell 0
  have a2 := K1.out.lt
  go_wp2
  clear a0 a2
  go_loopw [3, 10] (fun fv k wr => ∃ x : Nat, x ≤ ns.length ∧ k = .int .i64 x ∧ (x = 0 → fv = .slice none 0 0) ∧ ObF w1.heap.size wr.heap.size wr fv (fro (pts ns x)) ∧ Below w1.heap.size w1 wr) (fun _ k _ => ns.length - (intOf k).toNat)
  case atStart => exact ⟨0, Nat.zero_le _, rfl, fun _ => rfl, by rw [HP0.out]; exact ObF.nil _ _ _, Below.refl _ _⟩
  case round =>
    obtain ⟨x, hx, rfl, hz0, hO, hb⟩ := hrel
    have HZ0 := Lib.hid hz0
    clear hz0
    obtain ⟨w2, hw2⟩ : ∃ W, W = wr := ⟨_, rfl⟩
    subst hw2
    obtain ⟨A2, c2, rfl⟩ := hO.opn
    rw [HPL.out] at hO ⊢
    have O := Lib.hid hO
    have HB2 := Lib.hid hb
    by_cases hlt : x < ns.length
    · have K2 := Lib.hid (K1.out.below hb K1.out.lt)
      have HX2 := Lib.hid (HX.out.below hb)
      have a0 := K2.out.cell 0
      have a1 := K2.out.cell 1
      have a2 := K2.out.lt
      have HCx := Lib.hid (HCn.out x hlt)
      have HLx := Lib.hid (HLs.out x hlt)
      have HFx := Lib.hid (HFr.out x)
      have HEx := Lib.hid (HLL.out x)
      have HSx := Lib.hid (HPS.out x)
      have i1 : (x : Int) < (ns.length : Int) := by omega
      clear hO hb
      generalize ptr ns (ns.getD x 0) = P at *
      go_wp2_with fail
      refine (HCx.out _ HX2.out).mono ?_
      rintro e w3 ⟨A3, c3, rfl, ho3, hb3⟩
      have O3 := Lib.hid ho3
      have B3 := Lib.hid hb3
      clear a0 a1 a2 ho3 hb3
      have hfd := run_fldP1 (.int .i64 (P.length : Int)) (.slice A3 P.length c3)
      go_wp2_with fail
      refine (HLx.out _ _ O3.out.sl (fun k e => (O3.out.block k e).2)).mono ?_
      rintro e w4 ⟨A4, c4, rfl, ho4, hb4⟩
      have O4 := Lib.hid (ho4.mono B3.out.size)
      have B4 := Lib.hid (bthen B3.out hb4)
      clear ho4 hb4 O3
      go_wp2_with fail
      refine (HFx.out _ _ O4.out.sl).mono ?_
      rintro e w5 ⟨rfl, hb5⟩
      rw [HEx.out]
      have O5 := Lib.hid (O4.out.below hb5)
      have B5 := Lib.hid (bthen B4.out hb5)
      clear hb5 O4
      obtain ⟨hs, q1, q2, q3⟩ := O.out.push B5.out O5.out HB2.out.size (P.length : Int)
      have Q3 := Lib.hid q3
      have Q2 : Hid (hs.length = x) := Lib.hid (by rw [q2, HPL.out])
      have Q1 := Lib.hid q1
      clear q1 q2 q3
      go_wp2_with (at_builtin; refine stopHere ?_)
      refine goHere ?_
      refine ap_one (K := cF) _ ty_frame rfl _ _ rfl (B := w1.heap.size) (v := .slice A2 x c2) (xs := hs) rfl Q1.out ((P.length : Int), ⟨A4, P.length, c4⟩) rfl rfl (by rw [Q2.out]; omega) (Nat.le_trans HB2.out.size B5.out.size) ?_
      intro v1 w7 ho1 hg1 hb1 hat1
      have O7 := Lib.hid (Q3.out w7 v1 _ (ap_below_alloc _ _) (by simp) ho1 hg1 hat1)
      have B7 := Lib.hid ((HB2.out.trans (B5.out.mono HB2.out.size)).trans hb1)
      clear ho1 hg1 hb1 hat1
      go_wp2
      exact ⟨⟨x + 1, by omega, by go_num, fun e => absurd e (by omega), by rw [HSx.out]; exact O7.out, B7.out⟩, by simp [intOf]; omega⟩
    · obtain rfl : x = ns.length := by omega
      by_cases h0 : ns.length = 0
      · have e0 := HZ0.out h0
        injection e0 with e1 e2 e3
        subst e1
        subst e3
        rw [h0]
        have HR0 : Hid (fro (rpt ns) = []) := Lib.hid (by unfold rpt; rw [h0]; rfl)
        have HBf := Lib.hid (bthen HB.out hb)
        have HSN := Lib.hid (fun f W => slices_SortFunc_nil f W)
        clear hO hb O HB2 HCn HLs HFr HLL HPS HP0 HPL K1 HX HB
        go_wp2_with fail
        refine (HSN.out _ _).mono ?_
        rintro e w3 ⟨rfl, rfl⟩
        go_wp2
        refine wp_loop_rounds 1 ?_
        rw [rounds_succ]
        go_wp2
        go_ret
        exact ⟨_, rfl, by rw [HR0.out]; exact ObP.nil _ _ _, HBf.out⟩
      · have hlen : ∀ i (hi : i < (pts ns ns.length).length), (pts ns ns.length)[i].length ≤ 1000 := fun i hi => by
          have h1 : (pts ns ns.length)[i] = lst (ptr ns (ns.getD i 0)) := by simp [pts]
          rw [h1, lst_length]
          have h2 : i < ns.length := by rw [pts_length] at hi; exact hi
          have := (ptr_rel ns _ HRl.out (getD_lt HRl.out.2 i)).1
          omega
        have HSo := Lib.hid (sort_found (pts ns ns.length) O.out (by rw [pts_length]; omega) (by rw [pts_length]; omega) hlen)
        have HSz := Lib.hid (show (pts ns ns.length).length = ns.length from pts_length _ _)
        have HDI := Lib.hid (fun S (hp : List.Perm S (pts ns ns.length)) hs => ddp_ins S (pts ns ns.length) hp hs)
        have HRP : Hid (insAll (pts ns ns.length) = rpt ns) := Lib.hid rfl
        have HLn := Lib.hid hlen
        clear hO hb hlen HCn HLs HFr HLL HPS HP0 HPL K1 HX
        go_wp2_with fail
        refine HSo.out.mono ?_
        rintro e w3 ⟨rfl, hs, S, hp, hl, hsl, hso, hrow, hb⟩
        have hSl : S.length = ns.length := by rw [hp.length_eq, HSz.out]
        rw [hSl] at hl
        have HSL := Lib.hid hSl
        have HHL := Lib.hid hl
        have HF := Lib.hid hsl
        have HRo := Lib.hid hrow
        have HZ3 := Lib.hid hb.size
        have HB3 := Lib.hid (HB2.out.trans hb)
        have HDD := Lib.hid (HDI.out S hp hso)
        have HSB : Hid (∀ i (q : i < S.length), S[i].length ≤ 1000) := Lib.hid fun i q => by
          obtain ⟨k, hk, e⟩ := List.getElem_of_mem (hp.mem_iff.1 (List.getElem_mem q))
          rw [← e]
          exact HLn.out k hk
        clear hp hl hsl hso hrow hb hSl HSo HDI HSz O
        go_wp2
        go_loopw [5, 27] (fun ov k wr => ∃ j : Nat, j ≤ ns.length ∧ k = .int .i64 j ∧ Ow cF 29 w3.heap.size wr ov ((sel S j).map fun i => hs.getD i (0, ⟨none, 0, 0⟩)) ∧ Below w3.heap.size w3 wr) (fun _ k _ => ns.length - (intOf k).toNat)
        case atStart => exact ⟨0, Nat.zero_le _, rfl, Ow.nil _ _, Below.refl _ _⟩
        case round =>
          obtain ⟨j, hj, rfl, hO, hb⟩ := hrel
          obtain ⟨w4, hw4⟩ : ∃ W, W = wr := ⟨_, rfl⟩
          subst hw4
          obtain ⟨A7, c7, e7⟩ := hO.opn
          rw [List.length_map] at e7
          obtain ⟨ql, hql⟩ : ∃ q, (sel S j).length = q := ⟨_, rfl⟩
          have hq6 : ql ≤ 6 := by rw [← hql]; exact Nat.le_trans (sel_len S j) (by omega)
          rw [hql] at e7
          subst e7
          have HQL := Lib.hid hql
          clear hql
          by_cases hlt2 : j < ns.length
          · have hF4 := HF.out.below hb
            obtain ⟨b, o, e1, hbl, hc⟩ := hF4.cell (k := j) (by rw [HHL.out]; exact hlt2)
            subst e1
            have c0 : w4.cell? ⟨b, o + j * 2, none⟩ = some (.int .i64 (hs[j]'(by rw [HHL.out]; exact hlt2)).1) := hc 0 (.int .i64 (hs[j]'(by rw [HHL.out]; exact hlt2)).1) rfl
            have c1 : w4.cell? ⟨b, o + j * 2 + 1, none⟩ = some (hs[j]'(by rw [HHL.out]; exact hlt2)).2.val := hc 1 (hs[j]'(by rw [HHL.out]; exact hlt2)).2.val rfl
            have RJ := Lib.hid (HRo.out j (by rw [HHL.out]; exact hlt2) (by rw [HSL.out]; exact hlt2))
            obtain ⟨A5, c5, e5⟩ := RJ.out.2.1.1.opn
            rw [li_length] at e5
            rw [e5] at c1
            rw [RJ.out.1] at c0
            have i1 : (j : Int) < (ns.length : Int) := by omega
            have O4 := Lib.hid hO
            have HB4 := Lib.hid hb
            have HJ : j < S.length := by rw [HSL.out]; exact hlt2
            have HJ2 : j < hs.length := by rw [HHL.out]; exact hlt2
            have HGJ : Hid (hs.getD j (0, ⟨none, 0, 0⟩) = ((S[j].length : Int), ⟨A5, S[j].length, c5⟩)) := Lib.hid (by
              rw [List.getD_eq_getElem?_getD, List.getElem?_eq_getElem HJ2, Option.getD_some]
              have q1 := RJ.out.1
              generalize hs[j] = y at *
              obtain ⟨x, ⟨A, n, c⟩⟩ := y
              simp only [Hd.val] at e5
              injection e5 with a1 a2 a3
              simp only at q1
              subst a1 a2 a3 q1
              rfl)
            have SJ := Lib.hid (RJ.out.2.1.1.sl)
            rw [e5] at SJ
            have HSJ : Hid (sel S (j + 1) = if j = 0 ∨ cmf (S.getD (j - 1) []) (S.getD j []) ≠ 0 then sel S j ++ [j] else sel S j) := Lib.hid rfl
            have HPo := Lib.hid (fun u W (hW : Sl cI W u (li S[j])) => impl_posetOf u _ W hW)
            have HmL := Lib.hid (show (li S[j]).length = S[j].length from li_length _)
            rw [HmL.out] at HPo
            have HST : Hid (sel S (j + 1) = sel S j ++ [j] → ∀ (vv : Value) (w9 : World), Ow cF 29 w3.heap.size w9 vv (((sel S j).map fun i => hs.getD i (0, ⟨none, 0, 0⟩)) ++ [((S[j].length : Int), ⟨A5, S[j].length, c5⟩)]) → Below w3.heap.size w3 w9 → Ow cF 29 w3.heap.size w9 vv ((sel S (j + 1)).map fun i => hs.getD i (0, ⟨none, 0, 0⟩))) := Lib.hid fun e vv w9 hO hb => by
              rw [e, List.map_append]
              rw [← HGJ.out] at hO
              exact hO
            clear hO hb hF4 hc e5
            have HC0 : Hid (∀ i (q : i < S.length) W A6 c6, Sl cI W (.slice A6 S[i].length c6) (li S[i]) → Sl cI W (.slice A5 S[j].length c5) (li S[j]) → Calls Tryz.prog 54 #[.agg #[.int .i64 (S[i].length : Int), .slice A6 S[i].length c6], .agg #[.int .i64 (S[j].length : Int), .slice A5 S[j].length c5]] W fun e w' => e = .returned (.int .i64 (cmf S[i] S[j])) ∧ Below W.heap.size W w') := Lib.hid fun i q W A6 c6 h1 h2 =>
              (impl_compareFrames S[i] S[j] _ _ W h1 h2 (HSB.out i q) (HSB.out j HJ)).mono fun e w' ⟨h3, q9, os, h4⟩ => ⟨h3, h4 ▸ below_growS W q9 os⟩
            have HGD : Hid (S.getD j [] = S[j]) := Lib.hid (by rw [List.getD_eq_getElem?_getD, List.getElem?_eq_getElem HJ]; rfl)
            rw [HGD.out] at HSJ
            generalize S[j].length = m at *
            generalize S[j] = sj at *
            go_upto_region 12 with fail
            have K5 := Lib.hid (Blk.new w4 68 #[.int .i64 (m : Int), .slice A5 m c5])
            have hb5 := below_alloc' w4 (.cells #[.int .i64 (m : Int), .slice A5 m c5] 68)
            have O5 := Lib.hid (O4.out.below hb5)
            have HB5 := Lib.hid (HB4.out.trans (hb5.mono HB4.out.size))
            clear hb5 c0 c1 O4 HB4
            generalize World.alloc w4 _ = w5 at *
            have SJ5 := Lib.hid (SJ.out.below HB5.out)
            have k0 := K5.out.cell 0
            have k1 := K5.out.cell 1
            have k2 := K5.out.lt
            by_cases hj0 : j = 0
            · rw [if_pos (.inl hj0)] at HSJ
              have HST2 := Lib.hid (HST.out HSJ.out)
              have i2 : (j : Int) = 0 := by omega
              go_wp2
              go_quiet (fail)
              go_wp2_with fail
              refine (HPo.out _ _ (SJ5.out.drewN nq)).mono ?_
              rintro e w6 ⟨rfl, hb6⟩
              have hb5 : Below w5.heap.size w5 w6 := bthen (below_drewN (Below.refl _ _) nq) hb6
              have O6 := Lib.hid (O5.out.below hb5)
              have HB6 := Lib.hid (HB5.out.trans (hb5.mono HB5.out.size))
              clear hb5 hb6 O5 HB5 k0 k1 k2
              go_wp2_with (at_builtin; refine stopHere ?_)
              refine goHere ?_
              refine ap_one (K := cF) _ ty_poset rfl _ _ rfl (B := w3.heap.size) (v := .slice A7 ql c7) (xs := (sel S j).map fun i => hs.getD i (0, ⟨none, 0, 0⟩)) rfl O6.out ((m : Int), ⟨A5, m, c5⟩) rfl rfl (by rw [List.length_map, HQL.out]; omega) HB6.out.size ?_
              intro v1 w7 ho1 hg1 hb1 hat1
              have O7 := Lib.hid (HST2.out _ _ ho1 (HB6.out.trans hb1))
              have B7 := Lib.hid (HB6.out.trans hb1)
              clear ho1 hg1 hb1 hat1
              go_wp2
              go_roundw
              case rel => exact ⟨j + 1, by omega, by go_num, O7.out, B7.out⟩
              case measure => simp [intOf]; omega
            · have i2 : ¬ (j : Int) = 0 := by omega
              obtain ⟨i, hi⟩ : ∃ i, j = i + 1 := ⟨j - 1, by omega⟩
              have e9 : (j : Int) - 1 = (i : Int) := by omega
              have hF5 := (HF.out.below (HB5.out))
              obtain ⟨b2, o2, e3, -, hd⟩ := hF5.cell (k := i) (by rw [HHL.out]; omega)
              injection e3 with e3
              injection e3 with e4 e5
              subst e4
              subst e5
              have RI := Lib.hid (HRo.out i (by rw [HHL.out]; omega) (by rw [HSL.out]; omega))
              obtain ⟨A6, c6, e6⟩ := RI.out.2.1.1.opn
              rw [li_length] at e6
              have d0 : w5.cell? ⟨b, o + i * 2, none⟩ = some (.int .i64 (hs[i]'(by rw [HHL.out]; omega)).1) := hd 0 (.int .i64 (hs[i]'(by rw [HHL.out]; omega)).1) rfl
              have d1 : w5.cell? ⟨b, o + i * 2 + 1, none⟩ = some (hs[i]'(by rw [HHL.out]; omega)).2.val := hd 1 (hs[i]'(by rw [HHL.out]; omega)).2.val rfl
              rw [RI.out.1] at d0
              rw [e6] at d1
              have SI := Lib.hid (RI.out.2.1.1.sl.below HB5.out)
              rw [e6] at SI
              have hq3 : i < S.length := by rw [HSL.out]; omega
              have HCi := Lib.hid (fun W => HC0.out i hq3 W A6 c6)
              have HGI : Hid (S.getD (j - 1) [] = S[i]'(by rw [HSL.out]; omega)) := Lib.hid (by rw [show j - 1 = i by omega, List.getD_eq_getElem?_getD, List.getElem?_eq_getElem (by rw [HSL.out]; omega)]; rfl)
              rw [HGI.out] at HSJ
              have i4 : i < ns.length := by omega
              have i3 : ((j : Int) == 0) = false := by simpa using hj0
              have i5 : IntKind.i64.wrap (i : Int) = (i : Int) := IntWalk.i64_in _ ⟨by omega, by omega⟩
              clear hd e6 hF5
              generalize (S[i]'(by rw [HSL.out]; omega)).length = mi at *
              generalize (S[i]'(by rw [HSL.out]; omega)) = si at *
              clear RI hi
              by_cases hz : cmf si sj = 0
              · rw [if_neg (by rintro (h | h); exact hj0 h; exact h hz)] at HSJ
                rw [hz] at HCi
                clear hz
                go_wp2
                go_still_tail 9, (by kernel_rfl)
                repeat still_step
                change wpList _ _ _ _ _ (World.drew _)
                go_wp2_with fail
                refine (HCi.out _ (SI.out.drewN 1) (SJ5.out.drewN 1)).mono ?_
                rintro e w6 ⟨rfl, hb6⟩
                have hb5 : Below w5.heap.size w5 w6 := bthen (below_drewN (Below.refl _ _) 1) hb6
                have O6 := Lib.hid (O5.out.below hb5)
                have HB6 := Lib.hid (HB5.out.trans (hb5.mono HB5.out.size))
                have K6 := Lib.hid (K5.out.below hb5 K5.out.lt)
                have SJ6 := Lib.hid (SJ5.out.below hb5)
                clear hb5 hb6 O5 HB5 k0 k1 k2 d0 d1 K5 SJ5
                have k0 := K6.out.cell 0
                have k1 := K6.out.cell 1
                have k2 := K6.out.lt
                go_wp2
                go_roundw
                case rel => exact ⟨j + 1, by omega, by go_num, by rw [HSJ.out]; exact O6.out, HB6.out⟩
                case measure => simp [intOf]; omega
              · rw [if_pos (.inr hz)] at HSJ
                have HST2 := Lib.hid (HST.out HSJ.out)
                generalize cmf si sj = z at *
                have hz2 : (z != 0) = true := bne_iff_ne.2 hz
                go_wp2
                go_still_tail 9, (by kernel_rfl)
                repeat still_step
                change wpList _ _ _ _ _ (World.drew _)
                go_wp2_with fail
                refine (HCi.out _ (SI.out.drewN 1) (SJ5.out.drewN 1)).mono ?_
                rintro e w6 ⟨rfl, hb6⟩
                have hb5 : Below w5.heap.size w5 w6 := bthen (below_drewN (Below.refl _ _) 1) hb6
                have O6 := Lib.hid (O5.out.below hb5)
                have HB6 := Lib.hid (HB5.out.trans (hb5.mono HB5.out.size))
                have K6 := Lib.hid (K5.out.below hb5 K5.out.lt)
                have SJ6 := Lib.hid (SJ5.out.below hb5)
                clear hb5 hb6 O5 HB5 k0 k1 k2 d0 d1 K5 SJ5
                have k0 := K6.out.cell 0
                have k1 := K6.out.cell 1
                have k2 := K6.out.lt
                go_wp2_with fail
                refine (HPo.out _ _ SJ6.out).mono ?_
                rintro e w7 ⟨rfl, hb6⟩
                have O7 := Lib.hid (O6.out.below hb6)
                have HB7 := Lib.hid (HB6.out.trans (hb6.mono HB6.out.size))
                clear hb6 O6 HB6 k0 k1 k2
                go_wp2_with (at_builtin; refine stopHere ?_)
                refine goHere ?_
                refine ap_one (K := cF) _ ty_poset rfl _ _ rfl (B := w3.heap.size) (v := .slice A7 ql c7) (xs := (sel S j).map fun i => hs.getD i (0, ⟨none, 0, 0⟩)) rfl O7.out ((m : Int), ⟨A5, m, c5⟩) rfl rfl (by rw [List.length_map, HQL.out]; omega) HB7.out.size ?_
                intro v1 w8 ho1 hg1 hb1 hat1
                have O8 := Lib.hid (HST2.out _ _ ho1 (HB7.out.trans hb1))
                have B8 := Lib.hid (HB7.out.trans hb1)
                clear ho1 hg1 hb1 hat1
                go_wp2
                go_roundw
                case rel => exact ⟨j + 1, by omega, by go_num, O8.out, B8.out⟩
                case measure => simp [intOf]; omega
          · obtain rfl : j = ns.length := by omega
            have OO := Lib.hid hO
            have HBE := Lib.hid hb
            clear hO hb
            go_wp2
            go_ret
            refine ⟨_, rfl, ?_, bthen HB.out (HB3.out.trans (HBE.out.mono HB3.out.size))⟩
            have hz1 := HB3.out.size
            have hz2 := HBE.out.size
            have hz0 := HB.out.size
            have hz3 := HZ3.out
            have HRS : rpt ns = (sel S ns.length).map fun i => S.getD i [] := by rw [← HRP.out, ← HDD.out, HSL.out, ddp_sel]
            refine ⟨_, ⟨OO.out.mono (by omega), fun k hk => (OO.out.block k hk).2⟩, by rw [fro_length, HRS]; simp, fun i p q => ?_⟩
            have hi : i < (sel S ns.length).length := by simpa using p
            have hk := sel_lt S ns.length _ (List.getElem_mem hi)
            have ha : ∀ i (hi : i < (sel S ns.length).length) (p : i < ((sel S ns.length).map fun i => hs.getD i (0, ⟨none, 0, 0⟩)).length), ((sel S ns.length).map fun i => hs.getD i (0, ⟨none, 0, 0⟩))[i] = hs[(sel S ns.length)[i]]'(by rw [HHL.out]; exact sel_lt S ns.length _ (List.getElem_mem hi)) := fun i hi p => by
              rw [List.getElem_map, List.getD_eq_getElem?_getD, List.getElem?_eq_getElem (by rw [HHL.out]; exact sel_lt S ns.length _ (List.getElem_mem hi)), Option.getD_some]
            have hb2 : (fro (rpt ns))[i] = (((S[(sel S ns.length)[i]]'(by rw [HSL.out]; exact hk)).length : Int), li (S[(sel S ns.length)[i]]'(by rw [HSL.out]; exact hk))) := by
              simp only [fro, HRS, List.getElem_map]
              rw [List.getD_eq_getElem?_getD, List.getElem?_eq_getElem (by rw [HSL.out]; exact hk), Option.getD_some]
            obtain ⟨r1, r2, r3⟩ := HRo.out (sel S ns.length)[i] (by rw [HHL.out]; exact hk) (by rw [HSL.out]; exact hk)
            rw [ha i hi p, hb2]
            refine ⟨r1, ⟨(r2.1.mono (by omega)).below (HBE.out.mono (Nat.le_refl _)), fun k hk2 => by have := r2.2 k hk2; omega⟩, fun k hk2 => ⟨fun e => ?_, fun j r hj => ?_⟩⟩
            · have h1 := (OO.out.block k e).1
              have h2 := r2.2 k hk2
              omega
            · have hj2 : j < (sel S ns.length).length := by simpa using r
              rw [ha j hj2 r]
              exact r3 k hk2 _ _ fun e => hj ((List.getElem_inj (sel_nodup S ns.length)).1 e)
end Go.Proofs.YtkdldfomdbgcaaaGreat
