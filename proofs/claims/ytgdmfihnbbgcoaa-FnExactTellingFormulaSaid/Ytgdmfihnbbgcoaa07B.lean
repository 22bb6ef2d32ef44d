/- Contracts of chapter 7, of the program: telling formulas. -/
import Derived.Test.Ytgdmfihnbbgcoaa07A
import Derived.Test.YtgdmfihnbbgcoaaNN
namespace Go.Proofs.Ytgdmfihnbbgcoaa
open Go.RowKit
set_option linter.unusedVariables false
set_option linter.unusedSimpArgs false
/-- a list of lists, whose headers are the call's own and grow -/
def OwL {α : Type} (K : Cod α) (t : TypeId) (B : Nat) (w : World) (v : Value) (xss : List (List α)) : Prop :=
  ∃ hs : List Hd, Ow cH t B w v hs ∧ hs.length = xss.length ∧ ∀ i (a : i < hs.length) (b : i < xss.length), Sl K w hs[i].val xss[i] ∧ ∀ k, hs[i].val.ownBlock = some k → k < w.heap.size ∧ v.ownBlock ≠ some k
section
variable {α : Type} {K : Cod α} {t : TypeId} {B : Nat} {w w' : World} {v : Value} {xss : List (List α)}
theorem OwL.below (h : OwL K t B w v xss) (hb : Below w.heap.size w w') : OwL K t B w' v xss := by
  obtain ⟨hs, h1, h2, h3⟩ := h
  exact ⟨hs, h1.below hb, h2, fun i a b => ⟨(h3 i a b).1.below hb, fun k hk => ⟨Nat.lt_of_lt_of_le ((h3 i a b).2 k hk).1 hb.size, ((h3 i a b).2 k hk).2⟩⟩⟩
theorem OwL.sl2 (h : OwL K t B w v xss) : Sl2 K w v xss := by
  obtain ⟨hs, h1, h2, h3⟩ := h
  exact ⟨hs, h1.sl, h2, fun i a b => (h3 i a b).1⟩
theorem OwL.blk (h : OwL K t B w v xss) : ∀ k, v.ownBlock = some k → k < w.heap.size := by
  obtain ⟨hs, h1, -⟩ := h
  exact fun k hk => (h1.block k hk).2
theorem OwL.nil : OwL K t B w (.slice none 0 0) ([] : List (List α)) := ⟨[], Ow.nil _ _, rfl, fun i a => (by simp at a)⟩
theorem OwL.push (h : OwL K t B w v xss) {A : Option Addr} {n c : Nat} {row : List α} (hu : Sl K w (.slice A n c) row) (hk : ∀ k, (Value.slice A n c).ownBlock = some k → k < w.heap.size ∧ v.ownBlock ≠ some k) :
    ∃ hs : List Hd, Ow cH t B w v hs ∧ hs.length = xss.length ∧ ∀ w' v' W, w.grownBy W none → W.heap.size = w.heap.size + 1 → Ow cH t B w' v' (hs ++ [⟨A, n, c⟩]) → W.grownBy w' v.ownBlock →
      (v'.ownBlock = v.ownBlock ∨ v'.ownBlock = some (w.heap.size + 1)) → OwL K t B w' v' (xss ++ [row]) := by
  obtain ⟨hs, h1, h2, h3⟩ := h
  refine ⟨hs, h1, h2, fun w' v' W hw hWz ho hg hat => ?_⟩
  have hsz : w.heap.size < w'.heap.size := by have := hg.size; omega
  have key : ∀ (u : Value) (ys : List α), Sl K w u ys → (∀ k, u.ownBlock = some k → k < w.heap.size ∧ v.ownBlock ≠ some k) →
      Sl K w' u ys ∧ ∀ k, u.ownBlock = some k → k < w'.heap.size ∧ v'.ownBlock ≠ some k := by
    intro u ys hu hk
    refine ⟨(hu.grown hw ?_).grown hg ?_, fun k e => ⟨by have := (hk k e).1; omega, fun e3 => ?_⟩⟩
    · cases hq : u.ownBlock with
      | none => exact .inl rfl
      | some k => exact .inr (by simp)
    · cases hq : u.ownBlock with
      | none => exact .inl rfl
      | some k => exact .inr fun e => (hk k hq).2 e.symm
    · rcases hat with e2 | e2
      · exact (hk k e).2 (e2 ▸ e3)
      · rw [e2] at e3; injection e3 with e3; have := (hk k e).1; omega
  refine ⟨_, ho, by simp [h2], fun i a b => ?_⟩
  by_cases hi : i < hs.length
  · rw [List.getElem_append_left hi, List.getElem_append_left (by omega)]
    exact key _ _ (h3 i hi (by omega)).1 (h3 i hi (by omega)).2
  · have e : i = hs.length := by simp at a; omega
    subst e
    have e2 : (xss ++ [row])[hs.length] = row := by
      rw [List.getElem_append_right (by omega)]; simp [h2]
    have e3 : (hs ++ [(⟨A, n, c⟩ : Hd)])[hs.length] = ⟨A, n, c⟩ := by simp
    rw [e2, e3]
    exact key (.slice A n c) _ hu hk
end
theorem ty_nodes7 : Ty Try.prog 30 26 (.slice none 0 0) 1 24 := Ty.mk' Try.underlying30 (by kernel_rfl) rfl (by decide)
/-- what formula answers at two worlds -/
def FmOK (p : Nat) (ns us ks ts : List Nat) (A0 A1 B0 B1 L : Option Addr) (c0 c1 d0 d1 lc : Nat) (k : Nat) : Prop :=
  ∀ (x y k' : Nat) (w : World), Tl w p ns us ks ts A0 A1 B0 B1 L c0 c1 d0 d1 lc → x < ns.length → y < ks.length → rd ns us ks ts x y = some k' → k' ≤ k →
    Calls Try.prog 87 #[.pointer (some ⟨p, 0, none⟩), .int .i64 x, .int .i64 y] w fun e w' => ∃ u xs b, e = .returned (.tuple #[u, .bool b]) ∧ Ow cN 89 w.heap.size w' u xs ∧ xs.length ≤ 200 ∧ tab ns us ks ts k' x y = (if b then some xs else none) ∧ Below w.heap.size w w'
theorem joi_cons_none (md op : Int) (l : List (Option (List Nd))) (h : ∃ q ∈ l, q = none) : joi md op l = none := by
  unfold joi
  rw [if_neg]
  intro e
  obtain ⟨q, hq, rfl⟩ := h
  have := List.all_eq_true.1 e _ hq
  cases this
/-- the lengths of the lists that are there, summed -/
def smL (l : List (Option (List Nd))) : Nat := (l.filterMap id).flatten.length
theorem smL_snoc (l : List (Option (List Nd))) (xs : List Nd) : smL (l ++ [some xs]) = smL l + xs.length := by
  unfold smL; simp
theorem smL_le (l r : List (Option (List Nd))) : smL l ≤ smL (l ++ r) := by unfold smL; simp
theorem joi_big (md op : Int) (l : List (Option (List Nd))) (h : 40 < smL l) : joi md op l = none := by
  unfold joi
  split
  · rw [if_neg]
    unfold joinA
    have h1 : (l.filterMap id).flatten.length = smL l := rfl
    have h2 : ¬ (l.filterMap id).length = 0 := fun e => by
      rw [List.length_eq_zero_iff] at e
      rw [e] at h1
      simp at h1
      omega
    rw [if_neg h2, List.length_cons, joinL_length]
    omega
  · rfl
theorem impl_prefix7 (k : Int) (u : Value) (ys : List Nd) (w : World) (h' : Sl cN w u ys) (hl' : ys.length ≤ 262144) :
    Calls Try.prog 225 #[.int .i64 k, u] w fun e w' => ∃ r, e = .returned r ∧ Ow cN 89 w.heap.size w' r ((k, 0) :: ys) ∧ Below w.heap.size w w' := by
  obtain ⟨B, d, rfl⟩ := h'.opn
  have hs := Sl2.two' ((Ow.lit (K := cN) (e := 89) (B := w.heap.size) [(k, 0)] (cs := #[.int .i64 k, .int .i64 0]) (n := 1) rfl rfl (Nat.le_refl _)).sl) (h'.alloc (.cells #[.int .i64 k, .int .i64 0] 89)) 26 (w.heap.size + 1) (by simp)
  have H := Lib.hid (slices_Concat_nodes _ _ _ hs (by simp) (by simp <;> omega))
  clear h' hs
  go_enter Try.func225, Try.ntmps225
  go_wp2_with fail
  refine H.out.mono ?_
  rintro e w1 ⟨r, rfl, ho, hb⟩
  have HB : Hid (Below w.heap.size w w1) := Lib.hid ((((Below.refl _ _).alloc (Nat.le_refl _) _).alloc (by simp) _).trans (hb.mono (by simp <;> omega)))
  have O : Hid (Ow cN 89 w.heap.size w1 r ((k, 0) :: ys)) := Lib.hid (by have := ho.mono (B' := w.heap.size) (by simp <;> omega); simpa using this)
  clear ho hb
  go_wp2
  go_ret
  exact ⟨_, rfl, O.out, HB.out⟩
theorem map_some_all {l : List (Option (List Nd))} {xss : List (List Nd)} (h : l = xss.map some) : l.all Option.isSome = true ∧ l.filterMap id = xss := by
  subst h
  constructor
  · rw [List.all_eq_true]; intro q hq; obtain ⟨x, -, rfl⟩ := List.mem_map.1 hq; rfl
  · simp
theorem flat_ge (yss : List (List Nd)) (h : ∀ xs ∈ yss, 0 < xs.length) : yss.length ≤ yss.flatten.length := by
  induction yss with
  | nil => simp
  | cons a l ih =>
    have h1 := h a (by simp)
    have h2 := ih fun xs hxs => h xs (by simp [hxs])
    simp only [List.length_cons, List.flatten_cons, List.length_append]
    omega
theorem smL_some {xss : List (List Nd)} : smL (xss.map some) = xss.flatten.length := by unfold smL; simp
theorem li_at {w : World} {A : Option Addr} {n c : Nat} {X : List Nat} (h : Sl cI w (.slice A n c) (li X)) {k : Nat} (hk : k < X.length) :
    ∃ b o, A = some ⟨b, o, none⟩ ∧ b < w.heap.size ∧ w.cell? ⟨b, o + k, none⟩ = some (.int .i64 (X[k] : Nat)) := by
  obtain ⟨b, o, e, hb, hc⟩ := h.atI (k := k) (by rw [li_length]; exact hk)
  rw [li_get, show X.getD k 0 = X[k] by simp [List.getD_eq_getElem?_getD, hk]] at hc
  exact ⟨b, o, e, hb, hc⟩
set_option maxRecDepth 100000 in
set_option maxHeartbeats 1000000 in
theorem impl_joined (p : Nat) (ns us ks ts : List Nat) (A0 A1 B0 B1 L : Option Addr) (c0 c1 d0 d1 lc k : Nat) (hIH : FmOK p ns us ks ts A0 A1 B0 B1 L c0 c1 d0 d1 lc k) (md op : Int) (X Y : List Nat) (hX : ∀ x ∈ X, x < ns.length) (hY : ∀ y ∈ Y, y < ks.length)
    (hr : ∀ x ∈ X, ∀ y ∈ Y, ∃ k', k' ≤ k ∧ rd ns us ks ts x y = some k') (hXl : X.length ≤ 64) (hYl : Y.length ≤ 64) (vx vy : Value) (w : World) (h : Tl w p ns us ks ts A0 A1 B0 B1 L c0 c1 d0 d1 lc) (sx : Sl cI w vx (li X)) (sy : Sl cI w vy (li Y)) :
    Calls Try.prog 158 #[.pointer (some ⟨p, 0, none⟩), .int .i64 md, .int .i64 op, vx, vy] w fun e w' => ∃ u xs b, e = .returned (.tuple #[u, .bool b]) ∧ Ow cN 89 w.heap.size w' u xs ∧ xs.length ≤ 200 ∧
      joi md op (X.flatMap fun x => Y.map fun y => tab ns us ks ts k x y) = (if b then some xs else none) ∧ Below w.heap.size w w' := by
  obtain ⟨Ax, cx, rfl⟩ := sx.opn
  obtain ⟨Ay, cy, rfl⟩ := sy.opn
  rw [li_length] at sx sy
  rw [li_length, li_length]
  have HT := Lib.hid h
  have HX := Lib.hid hX
  have HY := Lib.hid hY
  have HRd := Lib.hid hr
  have HIH := Lib.hid hIH
  have HSx := Lib.hid sx
  have HSy := Lib.hid sy
  clear h hX hY hr hIH sx sy
  generalize hT : tab ns us ks ts k = T at *
  have HTab := Lib.hid hT
  clear hT
  go_enter Try.func158, Try.ntmps158
  go_wp2
  go_loopw [12, 13, 23] (fun q m i wr => ∃ j : Nat, j ≤ X.length ∧ i = .int .i64 j ∧ ∃ xss : List (List Nd), (X.take j).flatMap (fun x => Y.map fun y => T x y) = xss.map some ∧ m = .int .i64 (xss.flatten.length : Nat) ∧ xss.flatten.length ≤ 40 ∧ xss.length ≤ 40 ∧ OwL cN 26 w.heap.size wr q xss ∧ Below w.heap.size w wr) (fun _ _ i _ => X.length - (intOf i).toNat)
  case atStart => exact ⟨0, Nat.zero_le _, rfl, [], rfl, rfl, by simp, by simp, OwL.nil, Below.refl _ _⟩
  case round =>
    obtain ⟨i, hi, rfl, xss, hp, rfl, hs40, hl40, ho, hb⟩ := hrel
    have HP := Lib.hid hp
    have HO := Lib.hid ho
    have HB := Lib.hid hb
    by_cases hlt : i < X.length
    · have hsx := HSx.out
      obtain ⟨ba, oa, e1, hba, hca⟩ := li_at hsx hlt
      subst e1
      have hca' := (hb.cell (p := ⟨ba, oa + i, none⟩) hba).trans hca
      have hba' := Nat.lt_of_lt_of_le hba hb.size
      have HXi := Lib.hid (HX.out _ (List.getElem_mem hlt))
      have HRi := Lib.hid (HRd.out _ (List.getElem_mem hlt))
      have HXt : Hid (X.take (i + 1) = X.take i ++ [X[i]]) := Lib.hid (List.take_succ_eq_append_getElem hlt)
      have HXd : Hid (X = X.take i ++ X[i] :: X.drop (i + 1)) := Lib.hid (by rw [← List.drop_eq_getElem_cons hlt, List.take_append_drop])
      generalize X[i] = x at *
      clear hp ho hb hsx hca hba
      go_wp2
      go_loopw [12, 13, 29] (fun q m i' wr2 => ∃ j : Nat, j ≤ Y.length ∧ i' = .int .i64 j ∧ ∃ yss : List (List Nd), (X.take i).flatMap (fun x => Y.map fun y => T x y) ++ (Y.take j).map (fun y => T x y) = yss.map some ∧ m = .int .i64 (yss.flatten.length : Nat) ∧ yss.flatten.length ≤ 40 ∧ yss.length ≤ 40 ∧ OwL cN 26 w.heap.size wr2 q yss ∧ Below w.heap.size w wr2) (fun _ _ i _ => Y.length - (intOf i).toNat)
      case atStart => exact ⟨0, Nat.zero_le _, rfl, xss, by rw [HP.out]; simp, rfl, hs40, hl40, HO.out, HB.out⟩
      case round =>
        obtain ⟨j, hj, rfl, yss, hp, rfl, hy40, hyl40, ho, hb⟩ := hrel
        have HP2 := Lib.hid hp
        have HO2 := Lib.hid ho
        have HB2 := Lib.hid hb
        by_cases hltj : j < Y.length
        · have hsy := HSy.out
          obtain ⟨bb, ob, e2, hbb, hcb⟩ := li_at hsy hltj
          subst e2
          have hcb' := (hb.cell (p := ⟨bb, ob + j, none⟩) hbb).trans hcb
          have hbb' := Nat.lt_of_lt_of_le hbb hb.size
          obtain ⟨k', hk', hrd⟩ := HRi.out _ (List.getElem_mem hltj)
          have HF := Lib.hid (HIH.out x Y[j] k' _ (HT.out.below hb) HXi.out (HY.out _ (List.getElem_mem hltj)) hrd hk')
          have HTk : Hid (T x Y[j] = tab ns us ks ts k' x Y[j]) := Lib.hid (by rw [← HTab.out]; exact tab_at hrd k hk')
          have HYt : Hid (Y.take (j + 1) = Y.take j ++ [Y[j]]) := Lib.hid (List.take_succ_eq_append_getElem hltj)
          have HYd : Hid (Y = Y.take j ++ Y[j] :: Y.drop (j + 1)) := Lib.hid (by rw [← List.drop_eq_getElem_cons hltj, List.take_append_drop])
          generalize Y[j] = y at *
          clear hp ho hb hsy hcb hbb hrd
          have HMem : Hid (T x y ∈ X.flatMap fun x => Y.map fun y => T x y) := Lib.hid (List.mem_flatMap.2 ⟨x, by rw [HXd.out]; simp, List.mem_map.2 ⟨y, by rw [HYd.out]; simp, rfl⟩⟩)
          have HAll : Hid (∀ xs, T x y = some xs → 40 < yss.flatten.length + xs.length → joi md op (X.flatMap fun x => Y.map fun y => T x y) = none) := Lib.hid fun xs hxs hbig => by
            have e1 : (X.flatMap fun x => Y.map fun y => T x y) = (yss.map some ++ [some xs]) ++ ((Y.drop (j + 1)).map (fun y => T x y) ++ (X.drop (i + 1)).flatMap fun x => Y.map fun y => T x y) := by
              conv => lhs; rw [HXd.out]
              rw [List.flatMap_append, List.flatMap_cons]
              conv => lhs; rhs; lhs; rw [HYd.out]
              rw [List.map_append, List.map_cons, hxs, ← HP2.out]
              simp
            refine joi_big _ _ _ ?_
            rw [e1]
            refine Nat.lt_of_lt_of_le ?_ (smL_le _ _)
            rw [smL_snoc, smL_some]
            exact hbig
          have HSm : Hid (∀ xs : List Nd, (yss ++ [xs]).flatten.length = yss.flatten.length + xs.length) := Lib.hid fun xs => by simp
          have HYl : Hid (∀ xs : List Nd, (yss ++ [xs]).length = yss.length + 1) := Lib.hid fun xs => by simp
          have HLen : Hid (∀ xs, T x y = some xs → 0 < xs.length) := Lib.hid fun xs hxs => (tab_len k (by rw [HTab.out]; exact hxs)).1
          have HSum : Hid (yss.length ≤ yss.flatten.length) := Lib.hid (by
            have : ∀ xs ∈ yss, 0 < xs.length := fun xs hxs => by
              have hm : some xs ∈ yss.map some := List.mem_map.2 ⟨xs, hxs, rfl⟩
              rw [← HP2.out, List.mem_append] at hm
              rcases hm with hm | hm
              · obtain ⟨a, -, hm⟩ := List.mem_flatMap.1 hm
                obtain ⟨c, -, hm⟩ := List.mem_map.1 hm
                exact (tab_len k (by rw [HTab.out]; exact hm)).1
              · obtain ⟨c, -, hm⟩ := List.mem_map.1 hm
                exact (tab_len k (by rw [HTab.out]; exact hm)).1
            exact flat_ge yss this)
          have HLb := Lib.hid HO2.out.blk
          obtain ⟨sm, hsm⟩ : ∃ sm, yss.flatten.length = sm := ⟨_, rfl⟩
          rw [hsm] at HAll HSm HSum hy40 ⊢
          clear hsm
          go_wp2_with fail
          refine HF.out.mono ?_
          rintro e w2 ⟨u, xs, b, rfl, ou, hl200, htab, hbu⟩
          obtain ⟨Au, cu, rfl⟩ := ou.opn
          have HTx : Hid (T x y = if b then some xs else none) := Lib.hid (HTk.out.trans htab)
          have HOu := Lib.hid ou
          have HB3 := Lib.hid (bthen HB2.out hbu)
          have HO3 := Lib.hid (HO2.out.below hbu)
          have hlo : ∀ kk, (Value.slice Au xs.length cu).ownBlock = some kk → kk < w2.heap.size ∧ u12.ownBlock ≠ some kk := fun kk hkk => ⟨(ou.block kk hkk).2, fun e => by have h1 := HLb.out kk e; have h2 := (ou.block kk hkk).1; omega⟩
          have HLo := Lib.hid hlo
          clear hlo
          clear ou htab hbu
          cases b
          · have HJ : Hid (joi md op (X.flatMap fun x => Y.map fun y => T x y) = none) := Lib.hid (joi_cons_none _ _ _ ⟨_, HMem.out, by rw [HTx.out]; rfl⟩)
            go_wp2
            go_ret2
            exact ⟨_, [], false, rfl, Ow.nil _ _, by simp, HJ.out, HB3.out⟩
          · have HTs : Hid (T x y = some xs) := Lib.hid (by rw [HTx.out]; rfl)
            have hxl := HLen.out xs HTs.out
            by_cases hbig : 40 < sm + xs.length
            · have HJ := Lib.hid (HAll.out xs HTs.out hbig)
              go_wp2
              go_ret2
              exact ⟨_, [], false, rfl, Ow.nil _ _, by simp, HJ.out, HB3.out⟩
            · have HS1 := Lib.hid (HSm.out xs)
              have HY1 := Lib.hid (HYl.out xs)
              have hss := HSum.out
              have HPn : Hid ((X.take i).flatMap (fun x => Y.map fun y => T x y) ++ (Y.take (j + 1)).map (fun y => T x y) = (yss ++ [xs]).map some) := Lib.hid (by
                rw [HYt.out, List.map_append, ← List.append_assoc, HP2.out, List.map_append, List.map_singleton, HTs.out]; rfl)
              obtain ⟨hs7, h71, h72, h73⟩ := HO3.out.push HOu.out.sl HLo.out
              have H71 := Lib.hid h71
              have H73 := Lib.hid h73
              clear h71 h73
              go_wp2_with (at_builtin; refine stopHere ?_)
              refine goHere ?_
              refine ap_one (K := cH) _ ty_nodes7 rfl _ _ rfl (xs := hs7) rfl H71.out ⟨Au, xs.length, cu⟩ rfl rfl (by omega) HB3.out.size ?_
              intro v1 w6 ho1 hg1 hb1 hat1
              have HO6 : Hid (OwL cN 26 w.heap.size w6 v1 (yss ++ [xs])) := Lib.hid (H73.out w6 v1 _ (World.grownBy_alloc _ _ none) (by simp) ho1 hg1 hat1)
              have HB6 : Hid (Below w.heap.size w w6) := Lib.hid (HB3.out.trans hb1)
              clear ho1 hg1 hb1 hat1 H71 H73
              go_wp2
              go_roundw
              case rel => exact ⟨j + 1, by omega, by go_num, yss ++ [xs], HPn.out, by rw [HS1.out]; go_num, by rw [HS1.out]; omega, by rw [HY1.out]; omega, HO6.out, HB6.out⟩
              case measure => simp [intOf]; omega
        · obtain rfl : j = Y.length := by omega
          have HPn : Hid ((X.take (i + 1)).flatMap (fun x => Y.map fun y => T x y) = yss.map some) := Lib.hid (by
            rw [HXt.out, List.flatMap_append, List.flatMap_singleton, ← HP2.out, List.take_length])
          clear hp ho hb
          go_wp2
          go_roundw
          case rel => exact ⟨i + 1, by omega, by go_num, yss, HPn.out, rfl, hy40, hyl40, HO2.out, HB2.out⟩
          case measure => simp [intOf]; omega
    · obtain rfl : i = X.length := by omega
      have HPe : Hid (X.flatMap (fun x => Y.map fun y => T x y) = xss.map some) := Lib.hid (by rw [← HP.out, List.take_length])
      have HJ : Hid (joi md op (X.flatMap fun x => Y.map fun y => T x y) = if ((md, (0 : Int)) :: joinA op xss).length ≤ 40 then some ((md, 0) :: joinA op xss) else none) := Lib.hid (by
        obtain ⟨a1, a2⟩ := map_some_all HPe.out
        unfold joi
        rw [if_pos a1, a2])
      have HJA : Hid ((joinA op xss).length ≤ 100) := Lib.hid (by
        unfold joinA
        split
        · unfold joinE; split <;> simp
        · rw [joinL_length]; omega)
      have HCall : Hid (Calls Try.prog 226 #[.int .i64 op, u12] wr fun e w' => ∃ u, e = .returned u ∧ Ow cN 89 wr.heap.size w' u (joinA op xss) ∧ Below wr.heap.size wr w') := Lib.hid (by
        unfold joinA
        split
        · rename_i h0
          obtain rfl : xss = [] := List.length_eq_zero_iff.1 h0
          exact impl_joinAll_nil op _ wr ho.sl2
        · exact impl_joinAll op _ xss wr ho.sl2 (by omega) (by omega) (by omega))
      clear hp ho hb
      generalize joinA op xss = ja at *
      go_wp2_with fail
      refine HCall.out.mono ?_
      rintro e w2 ⟨u2, rfl, ho2, hb2⟩
      have HPre := Lib.hid (impl_prefix7 md u2 ja w2 ho2.sl (by have := HJA.out; omega))
      have HB2 := Lib.hid (bthen HB.out hb2)
      clear ho2 hb2
      go_wp2_with fail
      refine HPre.out.mono ?_
      rintro e w3 ⟨u3, rfl, ho3, hb3⟩
      obtain ⟨A3, c3, rfl⟩ := ho3.opn
      have HO3 := Lib.hid (ho3.mono HB2.out.size)
      have HB3 := Lib.hid (bthen HB2.out hb3)
      clear ho3 hb3
      have hjl := HJA.out
      have HL3 : Hid (((md, (0 : Int)) :: ja).length = ja.length + 1) := Lib.hid rfl
      by_cases h40 : ((md, (0 : Int)) :: ja).length ≤ 40
      · have HJ2 : Hid (joi md op (X.flatMap fun x => Y.map fun y => T x y) = some ((md, 0) :: ja)) := Lib.hid (by rw [HJ.out, if_pos h40])
        have hd : decide ((ja.length : Int) + 1 ≤ 40) = true := decide_eq_true (by have := HL3.out; omega)
        have HD := Lib.hid hd
        have hl2 : ((md, (0 : Int)) :: ja).length ≤ 200 := by omega
        clear h40
        go_wp2
        go_ret2
        exact ⟨_, (md, 0) :: ja, true, by rw [← HD.out]; rfl, HO3.out, hl2, HJ2.out, HB3.out⟩
      · have HJ2 : Hid (joi md op (X.flatMap fun x => Y.map fun y => T x y) = none) := Lib.hid (by rw [HJ.out, if_neg h40])
        have hd : decide ((ja.length : Int) + 1 ≤ 40) = false := decide_eq_false (by have := HL3.out; omega)
        have HD := Lib.hid hd
        have hl2 : ((md, (0 : Int)) :: ja).length ≤ 200 := by have := HL3.out; omega
        clear h40
        go_wp2
        go_ret2
        exact ⟨_, (md, 0) :: ja, false, by rw [← HD.out]; rfl, HO3.out, hl2, HJ2.out, HB3.out⟩
end Go.Proofs.Ytgdmfihnbbgcoaa
