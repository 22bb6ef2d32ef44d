/- Joined of several texts. -/
import Derived.Test.YtcikenffeekkeaaGreatDoorY44
import Derived.Test.YtcikenffeekkeaaGreatDoorY34
import Derived.Test.YtcikenffeekkeaaGreatDoorY39
import Derived.Test.YtcikenffeekkeaaGreatDoorY36
namespace Go.Proofs.YtcikenffeekkeaaGreatDoor
/- Contracts of the reference: the first bad line, the code. -/
open Go.RowKit
set_option linter.unusedVariables false
set_option linter.unusedSimpArgs false
set_option maxRecDepth 100000 in
theorem spec_l13Bad (t : List UInt8) (hy : List (List Nd)) (ls : List Ln) (vh vl : Value) (w : World) (hH : Sl2 cN w vh hy) (hhl : hy.length ≤ 1048576) (hhy : ∀ xs ∈ hy, xs.length ≤ 1048576) (hL : SlL w vl ls) (hll : ls.length ≤ 200) (hlx : ∀ l ∈ ls, l.x.length ≤ 1048576) :
    Calls Tryz.prog 32 #[.string ⟨⟨t⟩⟩, vh, vl] w fun e w' => ∃ z : Int, e = .returned (.int .i64 z) ∧ decide (0 ≤ z) = !allFine t hy ls ∧ Below w.heap.size w w' := by
  obtain ⟨AL, cL, rfl⟩ := hL.opn
  obtain ⟨Ah, ch, rfl⟩ := hH.opn
  have HFI := Lib.hid (fun k (hk : k < ls.length) W (hW : Below w.heap.size w W) (hok : ∀ i (h : i < ls.length), i < k → fine t hy ls i (ls[i]'h) = true) => spec_l13Fine t hy ls k hk _ _ W (hH.below hW) hhl hhy (hL.below hW) hll hlx hok)
  have HB0 := Lib.hid (Below.refl w.heap.size w)
  clear hH hL hlx hhy
  go_enter Tryz.func32, Tryz.ntmps32
  go_wp2
  go_loopw [7] (fun i wr => ∃ k : Nat, k ≤ ls.length ∧ i = .int .i64 k ∧ (∀ i (h : i < ls.length), i < k → fine t hy ls i (ls[i]'h) = true) ∧ Below w.heap.size w wr) (fun i _ => ls.length - (intOf i).toNat)
  case atStart => exact ⟨0, Nat.zero_le _, rfl, fun i h h0 => absurd h0 (Nat.not_lt_zero _), HB0.out⟩
  case round =>
    clear HB0
    obtain ⟨k, hk, rfl, hok, hb⟩ := hrel
    have HOK := Lib.hid hok
    have HB := Lib.hid hb
    by_cases hlt : k < ls.length
    · have HF1 := Lib.hid (HFI.out k hlt wr hb hok)
      have HNO : Hid (fine t hy ls k (ls[k]'hlt) = false → allFine t hy ls = false) := Lib.hid fun h => allFine_no hlt h
      have HYES : Hid (fine t hy ls k (ls[k]'hlt) = true → ∀ i (h : i < ls.length), i < k + 1 → fine t hy ls i (ls[i]'h) = true) := Lib.hid fun h i hi hik => by
        by_cases e : i < k
        · exact HOK.out i hi e
        · have e2 : i = k := by omega
          subst e2; exact h
      generalize fine t hy ls k (ls[k]'hlt) = b at *
      clear hok hb HFI
      go_wp2_with fail
      refine HF1.out.mono ?_
      rintro e w2 ⟨rfl, hb2⟩
      have HB2 := Lib.hid (HB.out.trans (hb2.mono HB.out.size))
      clear hb2 HF1
      cases b with
      | false =>
        have HA := Lib.hid (HNO.out rfl)
        clear HNO HYES HOK
        go_wp2
        go_ret
        exact ⟨k, rfl, by rw [HA.out]; simp, HB2.out⟩
      | true =>
        have HA := Lib.hid (HYES.out rfl)
        clear HNO HYES HOK
        go_wp2
        go_roundw
        case rel => exact ⟨k + 1, by omega, by go_num, HA.out, HB2.out⟩
        case measure => simp [intOf]; omega
    · have HA : Hid (allFine t hy ls = true) := Lib.hid (allFine_of fun i hi => hok i hi (by omega))
      clear hok hb HFI HOK
      obtain rfl : k = ls.length := by omega
      go_wp2
      go_ret
      exact ⟨-1, rfl, by rw [HA.out]; rfl, HB.out⟩
/-- the reference's code -/
noncomputable def lcC (t : List UInt8) (hy : List (List Nd)) (ls : List Ln) (pr : Bool) : Int := if hycode t hy ≠ 0 then hycode t hy else if lnC ls.length = false then 3 else if pr && !allFine t hy ls then 5 else 0
theorem sysS_len (t : List UInt8) : (((((sysS t).getD []).length : Nat) : Int) == 0) = !(sysS t).isSome := by
  unfold sysS
  repeat' split
  all_goals rfl
set_option maxRecDepth 100000 in
set_option maxHeartbeats 1000000 in
theorem spec_l13Code (t : List UInt8) (hy : List (List Nd)) (ls : List Ln) (pr : Bool) (vh vl : Value) (w : World) (hH : Sl2 cN w vh hy) (hhl : hy.length ≤ 1048576) (hhy : ∀ xs ∈ hy, xs.length ≤ 1048576) (hL : SlL w vl ls) (hll : ls.length ≤ 1048576) (hlx : ∀ l ∈ ls, l.x.length ≤ 1048576) :
    Calls Tryz.prog 17 #[.string ⟨⟨t⟩⟩, vh, vl, .bool pr] w fun e w' => e = .returned (.int .i64 (lcC t hy ls pr)) ∧ Below w.heap.size w w' := by
  obtain ⟨AL, cL, rfl⟩ := hL.opn
  obtain ⟨Ah, ch, rfl⟩ := hH.opn
  have HSC := Lib.hid (spec_l13Schemes t w)
  have HH := Lib.hid hH
  have HHY := Lib.hid hhy
  have HBD := Lib.hid (fun W (hW : Below w.heap.size w W) (h : ls.length ≤ 200) => spec_l13Bad t hy ls _ _ W (hH.below hW) hhl hhy (hL.below hW) h hlx)
  obtain ⟨cd, hcd⟩ : ∃ c, lcC t hy ls pr = c := ⟨_, rfl⟩
  rw [hcd]
  unfold lcC hycode at hcd
  have HCD := Lib.hid hcd
  have HSL := Lib.hid (sysS_len t)
  clear hH hL hlx hhy hcd
  generalize (sysS t).isSome = so at *
  generalize (sysS t).getD [] = sl at *
  go_enter Tryz.func17, Tryz.ntmps17
  go_wp2_with fail
  refine HSC.out.mono ?_
  rintro e w1 ⟨r, rfl, ho, hb⟩
  obtain ⟨Ar, cr, rfl⟩ := ho.opn
  have HB := Lib.hid hb
  have hsl := HSL.out
  clear ho hb HSC
  cases so with
  | false =>
    simp only [Bool.not_false] at hsl
    have HC2 : Hid (cd = 2) := Lib.hid (by rw [← HCD.out]; simp)
    clear HCD HBD
    go_wp2
    go_ret
    exact ⟨by rw [HC2.out]; rfl, HB.out⟩
  | true =>
    simp only [Bool.not_true] at hsl
    clear HSL
    go_wp2
    go_loopw [9] (fun i wr => ∃ k : Nat, k ≤ hy.length ∧ i = .int .i64 k ∧ (∀ i (h : i < hy.length), i < k → isF (hy[i]'h) = true) ∧ wr = w1) (fun i _ => hy.length - (intOf i).toNat)
    case atStart => exact ⟨0, Nat.zero_le _, rfl, fun i h h0 => absurd h0 (Nat.not_lt_zero _), rfl⟩
    case round =>
      obtain ⟨k, hk, rfl, hok, rfl⟩ := hrel
      have HOK := Lib.hid hok
      clear hok
      by_cases hlt : k < hy.length
      · obtain ⟨bh, oh, Ai, ci, rfl, hbh, hch, hsh⟩ := (HH.out.below HB.out).atM hlt
        have HIS := Lib.hid (spec_l02Is _ _ _ hsh (by have := HHY.out _ (List.getElem_mem hlt); omega))
        have HNO : Hid (isF (hy[k]'hlt) = false → hy.all isF = false) := Lib.hid fun h => List.all_eq_false.2 ⟨_, List.getElem_mem hlt, by rw [h]; decide⟩
        have HYES : Hid (isF (hy[k]'hlt) = true → ∀ i (h : i < hy.length), i < k + 1 → isF (hy[i]'h) = true) := Lib.hid fun h i hi hik => by
          by_cases e : i < k
          · exact HOK.out i hi e
          · have e2 : i = k := by omega
            subst e2; exact h
        generalize isF (hy[k]'hlt) = b at *
        clear hsh HOK
        generalize (hy[k]'hlt).length = nk at *
        go_wp2_with fail
        refine HIS.out.mono ?_
        rintro e w2 ⟨rfl, rfl⟩
        clear HIS
        cases b with
        | false =>
          have HC2 : Hid (cd = 1) := Lib.hid (by rw [← HCD.out, HNO.out rfl]; simp)
          clear HNO HYES HCD HBD hch
          go_wp2
          go_ret
          exact ⟨by rw [HC2.out]; rfl, HB.out⟩
        | true =>
          have HA := Lib.hid (HYES.out rfl)
          clear HNO HYES hch
          go_wp2
          go_roundw
          case rel => exact ⟨k + 1, by omega, by go_num, HA.out, by trivial⟩
          case measure => simp [intOf]; omega
      · have HA : Hid (hy.all isF = true) := Lib.hid (by
          rw [List.all_eq_true]
          intro x hx
          obtain ⟨i, hi, rfl⟩ := List.getElem_of_mem hx
          exact HOK.out i hi (by omega))
        have hcd := HCD.out
        rw [HA.out] at hcd
        simp only [Bool.true_eq_false, if_false, ne_eq, not_true_eq_false] at hcd
        have HCE := Lib.hid hcd
        clear hcd HCD HOK HA
        obtain rfl : k = hy.length := by omega
        by_cases h0 : ls.length = 0
        · have hz : ((ls.length : Int) == 0) = true := by rw [h0]; rfl
          have HC2 : Hid (cd = 3) := Lib.hid (by rw [← HCE.out, h0]; rfl)
          clear h0 HCE HBD
          go_wp2
          go_ret
          exact ⟨by rw [HC2.out]; rfl, HB.out⟩
        · have hz : ((ls.length : Int) == 0) = false := by simpa using h0
          by_cases h2 : 200 < ls.length
          · have h2i : (200 : Int) < (ls.length : Int) := by omega
            have HC2 : Hid (cd = 3) := Lib.hid (by rw [← HCE.out, if_pos (by unfold lnC; simp; omega)])
            clear h0 HCE HBD h2
            go_wp2
            go_ret
            exact ⟨by rw [HC2.out]; rfl, HB.out⟩
          · have h2i : ¬ (200 : Int) < (ls.length : Int) := by omega
            have hcd := HCE.out
            rw [if_neg (by unfold lnC; simp; omega)] at hcd
            have HCF := Lib.hid hcd
            clear hcd HCE h0
            cases pr with
            | false =>
              have HC2 : Hid (cd = 0) := Lib.hid (by rw [← HCF.out]; rfl)
              clear HCF HBD h2
              go_wp2
              go_ret
              exact ⟨by rw [HC2.out]; rfl, HB.out⟩
            | true =>
              have HB1 := Lib.hid (HBD.out _ HB.out (by omega))
              clear HBD h2
              go_wp2_with fail
              refine HB1.out.mono ?_
              rintro e w2 ⟨z, rfl, hz2, hb2⟩
              have HB2 := Lib.hid (HB.out.trans (hb2.mono HB.out.size))
              clear hb2 HB1
              have hcd := HCF.out
              rw [Bool.true_and, ← hz2] at hcd
              clear HCF hz2
              by_cases hz0 : 0 ≤ z
              · rw [if_pos (by simpa using hz0)] at hcd
                have HC2 := Lib.hid hcd
                clear hcd
                go_wp2
                go_ret
                exact ⟨by rw [← HC2.out]; rfl, HB2.out⟩
              · rw [if_neg (by simpa using hz0)] at hcd
                have HC2 := Lib.hid hcd
                clear hcd
                go_wp2
                go_ret
                exact ⟨by rw [← HC2.out]; rfl, HB2.out⟩
/- Contracts of the reference: the lists while the proof of an implication is made. -/
open Go.RowKit
set_option linter.unusedVariables false
set_option linter.unusedSimpArgs false
/-- the reference's lists of numbers go with the state -/
structure DcR (st : Pst) (em : List Bool) (k : Nat) (ow lf : List Int) : Prop where
  lf_ : ∀ j, j < k → lf.getD j 0 = st.im.getD j 0
  ow_ : ∀ j, j < k → em.getD j false = false → ow.getD j 0 = st.se.getD j 0
theorem getD_set (l : List Int) (k : Nat) (x : Int) (j : Nat) (hk : k < l.length) : (l.set k x).getD j 0 = if j = k then x else l.getD j 0 := by
  rw [List.getD_eq_getElem?_getD, List.getElem?_set]
  by_cases e : k = j
  · subst e
    rw [if_pos rfl, if_pos hk, if_pos rfl]; rfl
  · rw [if_neg e, if_neg (fun h => e h.symm), ← List.getD_eq_getElem?_getD]
theorem DcR.step {st : Pst} {em : List Bool} {k : Nat} {ow lf : List Int} (h : DcR st em k ow lf) (hse : st.se.length = k) (him : st.im.length = k) (hk : k < lf.length) (o : List Ln) (x y : Int) (ow' : List Int) (h1 : ∀ j, j < k → em.getD j false = false → ow'.getD j 0 = ow.getD j 0) (h2 : em.getD k false = false → ow'.getD k 0 = x) :
    DcR ⟨o, st.se ++ [x], st.im ++ [y]⟩ em (k + 1) ow' (lf.set k y) := by
  refine ⟨fun j hj => ?_, fun j hj he => ?_⟩
  · rw [getD_set _ _ _ _ hk]
    show _ = (st.im ++ [y]).getD j 0
    rw [getD_snoc, him]
    by_cases e : j = k
    · rw [if_pos e, if_neg (by omega), if_pos e]
    · rw [if_neg e, if_pos (by omega), h.lf_ j (by omega)]
  · show _ = (st.se ++ [x]).getD j 0
    rw [getD_snoc, hse]
    by_cases e : j = k
    · subst e
      rw [if_neg (by omega), if_pos rfl, h2 he]
    · rw [if_pos (by omega), h1 j (by omega) he, h.ow_ j (by omega) he]
theorem DcR.start (em : List Bool) (ow lf : List Int) : DcR ⟨[], [], []⟩ em 0 ow lf := ⟨fun j hj => absurd hj (Nat.not_lt_zero _), fun j hj => absurd hj (Nat.not_lt_zero _)⟩
/-- a line without dependences reads the numbers alike -/
theorem DcR.mv {st : Pst} {em : List Bool} {k : Nat} {ow lf : List Int} (h : DcR st em k ow lf) (l : Ln) (hp : ∀ x ∈ prmL l, ∃ i : Nat, x = i ∧ i < k ∧ em.getD i false = false) : mvf ow l = mvf st.se l ∧ mvs ow l = mvs st.se l := by
  unfold mvf mvs
  unfold prmL at hp
  by_cases h3 : l.r = 3
  · rw [if_pos h3] at hp
    obtain ⟨i, hi, hik, he⟩ := hp l.f (by simp)
    obtain ⟨j, hj, hjk, he2⟩ := hp l.s (by simp)
    rw [if_pos (.inl h3), if_pos (.inl h3), if_pos h3, if_pos h3, hi, hj, Int.toNat_natCast, Int.toNat_natCast]
    exact ⟨h.ow_ i hik he, h.ow_ j hjk he2⟩
  · rw [if_neg h3] at hp
    rw [if_neg h3, if_neg h3]
    refine ⟨?_, rfl⟩
    by_cases h4 : l.r = 4
    · rw [if_pos h4] at hp
      obtain ⟨i, hi, hik, he⟩ := hp l.f (by simp)
      rw [if_pos (.inr h4), if_pos (.inr h4), hi, Int.toNat_natCast]
      exact h.ow_ i hik he
    · rw [if_neg (by rintro (e | e); exact h3 e; exact h4 e), if_neg (by rintro (e | e); exact h3 e; exact h4 e)]
/-- the lines that a line without dependences rests on have none -/
theorem flg_prm {em : List Bool} {l : Ln} (h : flg em l = false) : ∀ x ∈ prmL l, em.getD x.toNat false = false := by
  unfold flg at h
  unfold prmL
  intro x hx
  by_cases h2 : l.r = 2
  · rw [if_pos h2] at h; cases h
  · rw [if_neg h2] at h
    by_cases h3 : l.r = 3
    · rw [if_pos h3, Bool.or_eq_false_iff] at h
      rw [if_pos h3] at hx
      simp only [List.mem_cons, List.not_mem_nil, or_false] at hx
      rcases hx with rfl | rfl
      · exact h.1
      · exact h.2
    · rw [if_neg h3] at h hx
      by_cases h4 : l.r = 4
      · rw [if_pos h4] at h hx
        rw [List.mem_singleton.1 hx]; exact h
      · rw [if_neg h4] at hx; cases hx
theorem Gr.kps {B : Nat} {c : Nat → Nat} {w w' : World} {v : Value} {ls : List Ln} {S : Nat → Prop} (h : Gr B c w v ls) (hk : KpS S w w') (hS : ∀ k, S k → c k ≠ 1) : Gr B c w' v ls :=
  ⟨h.1.kps hk hS, Nat.le_trans h.2.1 hk.size, fun k e => h.2.2 k (Nat.le_trans hk.size e)⟩
/-- how the lists lie: the lines have colour 1, the rest colour 0 -/
structure DcM (B : Nat) (c : Nat → Nat) (vo vd vO vL : Value) (out : List Ln) (hd : List Hd) (ow lf : List Int) (wr : World) : Prop where
  gr : Gr B c wr vo out
  dp : Ow cH 54 B wr vd hd
  oo : Ow cI 2 B wr vO ow
  ll : Ow cI 2 B wr vL lf
  cd : ∀ k, vd.ownBlock = some k → c k = 0
  co : ∀ k, vO.ownBlock = some k → c k = 0
  cl : ∀ k, vL.ownBlock = some k → c k = 0
  ne : ∀ k, vO.ownBlock = some k → vL.ownBlock ≠ some k ∧ vd.ownBlock ≠ some k
  ne2 : ∀ k, vL.ownBlock = some k → vd.ownBlock ≠ some k
theorem DcM.below {B : Nat} {c : Nat → Nat} {vo vd vO vL : Value} {out : List Ln} {hd : List Hd} {ow lf : List Int} {w w' : World} (h : DcM B c vo vd vO vL out hd ow lf w) (hb : Below w.heap.size w w') : DcM B c vo vd vO vL out hd ow lf w' :=
  ⟨h.gr.below hb, h.dp.below hb, h.oo.below hb, h.ll.below hb, h.cd, h.co, h.cl, h.ne, h.ne2⟩
theorem DcM.gro {B : Nat} {c : Nat → Nat} {vo vo' vd vO vL : Value} {out out' : List Ln} {hd : List Hd} {ow lf : List Int} {w w' : World} (h : DcM B c vo vd vO vL out hd ow lf w) (hs : GrS w w' vo vo') (hg : Gr B c w' vo' out') : DcM B c vo' vd vO vL out' hd ow lf w' := by
  have n : ∀ k, c k = 0 → ¬ vo.ownBlock = some k := fun k e e2 => by have := (h.gr.1.own k e2).1; omega
  exact ⟨hg, h.dp.kps hs.1 (fun k e => n k (h.cd k e)), h.oo.kps hs.1 (fun k e => n k (h.co k e)), h.ll.kps hs.1 (fun k e => n k (h.cl k e)), h.cd, h.co, h.cl, h.ne, h.ne2⟩
theorem DcM.setO {B : Nat} {c : Nat → Nat} {vo vd vL : Value} {nO m cO : Nat} {out : List Ln} {hd : List Hd} {ow lf : List Int} {w : World} (h : DcM B c vo vd (.slice (some ⟨nO, 0, none⟩) m cO) vL out hd ow lf w) {k : Nat} (hk : k < ow.length) (x : Int) :
    DcM B c vo vd (.slice (some ⟨nO, 0, none⟩) m cO) vL out hd (ow.set k x) lf (w.setCell ⟨nO, k, none⟩ (.int .i64 x)) := by
  have ks := (KpS.refl (fun j => j = nO) w).set (p := ⟨nO, k, none⟩) rfl (.int .i64 x)
  have hc := h.co nO rfl
  refine ⟨h.gr.kps ks (fun j e => by rw [e, hc]; decide), h.dp.kps ks (fun j e e2 => (h.ne nO rfl).2 (by rw [e, e2])), h.oo.set1 rfl rfl hk, h.ll.kps ks (fun j e e2 => (h.ne nO rfl).1 (by rw [e, e2])), h.cd, h.co, h.cl, h.ne, h.ne2⟩
theorem DcM.setL {B : Nat} {c : Nat → Nat} {vo vd vO : Value} {nL m cL : Nat} {out : List Ln} {hd : List Hd} {ow lf : List Int} {w : World} (h : DcM B c vo vd vO (.slice (some ⟨nL, 0, none⟩) m cL) out hd ow lf w) {k : Nat} (hk : k < lf.length) (x : Int) :
    DcM B c vo vd vO (.slice (some ⟨nL, 0, none⟩) m cL) out hd ow (lf.set k x) (w.setCell ⟨nL, k, none⟩ (.int .i64 x)) := by
  have ks := (KpS.refl (fun j => j = nL) w).set (p := ⟨nL, k, none⟩) rfl (.int .i64 x)
  have hc := h.cl nL rfl
  refine ⟨h.gr.kps ks (fun j e => by rw [e, hc]; decide), h.dp.kps ks (fun j e e2 => h.ne2 nL rfl (by rw [e, e2])), h.oo.kps ks (fun j e e2 => (h.ne j e).1 (by rw [e2]; rfl)), h.ll.set1 rfl rfl hk, h.cd, h.co, h.cl, h.ne, h.ne2⟩
/-- a line's box beside the lines -/
def WtB (w : World) (v : Value) (p : Nat) (cs : Array Value) : Prop := Blk w p 46 cs ∧ v.ownBlock ≠ some p
theorem WtB.below {w w' : World} {v : Value} {p : Nat} {cs : Array Value} (h : WtB w v p cs) (hb : Below w.heap.size w w') : WtB w' v p cs := ⟨h.1.below hb h.1.lt, h.2⟩
theorem WtB.step {w w' : World} {v v' : Value} {p : Nat} {cs : Array Value} (h : WtB w v p cs) (hg : GrS w w' v v') : WtB w' v' p cs := by
  refine ⟨h.1.kps hg.1 h.2, ?_⟩
  rcases hg.2 with e2 | ⟨k', e2, hk⟩
  · rw [e2]; exact h.2
  · rw [e2]; intro e3; injection e3 with e3; have := h.1.lt; omega
theorem WtB.far {w : World} {v : Value} {p : Nat} {cs : Array Value} (h : WtB w v p cs) {q : Addr} (hq : p ≠ q.block) (u : Value) : WtB (w.setCell q u) v p cs := ⟨h.1.far hq u, h.2⟩
/- The discharger: images of numbers of lines, a line renumbered. -/
open Go.RowKit
set_option linter.unusedVariables false
set_option linter.unusedSimpArgs false
def imgs (T P : List Int) : List Int := P.map fun x => T.getD x.toNat 0
theorem imgs_take (T P : List Int) (j : Nat) (h : j < P.length) : imgs T (P.take (j + 1)) = imgs T (P.take j) ++ [T.getD (P[j]'h).toNat 0] := by
  unfold imgs
  rw [List.take_succ_eq_append_getElem h, List.map_append]
  rfl
set_option maxRecDepth 100000 in
theorem impl_imagesOf (v u : Value) (P T : List Int) (w : World) (hv : Sl cI w v P) (hu : Sl cI w u T) (hP : ∀ x ∈ P, ∃ i : Nat, x = i ∧ i < T.length) (hl : P.length ≤ 1048576) (hlT : T.length ≤ 1048576) :
    Calls Tryz.prog 67 #[v, u] w fun e w' => ∃ r, e = .returned r ∧ Ow cI 2 w.heap.size w' r (imgs T P) ∧ Below w.heap.size w w' := by
  obtain ⟨A, c, rfl⟩ := hv.opn
  obtain ⟨A', c', rfl⟩ := hu.opn
  have HV := Lib.hid hv
  have HU := Lib.hid hu
  have HP := Lib.hid hP
  clear hv hu hP
  go_enter Tryz.func67, Tryz.ntmps67
  go_wp2
  go_loopw [5, 10] (fun o i wr => ∃ j : Nat, j ≤ P.length ∧ i = .int .i64 j ∧ Ow cI 2 w.heap.size wr o (imgs T (P.take j)) ∧ Below w.heap.size w wr) (fun _ i _ => P.length - (intOf i).toNat)
  case atStart => exact ⟨0, Nat.zero_le _, rfl, Ow.nil _ _, Below.refl _ _⟩
  case round =>
    obtain ⟨j, hj, rfl, ho, hb⟩ := hrel
    have HO := Lib.hid ho
    have HB := Lib.hid hb
    by_cases hlt : j < P.length
    · obtain ⟨b, o, rfl, hbl, hc⟩ := (HV.out.below hb).cell hlt
      have h0 := hc 0 _ rfl
      obtain ⟨i, hi, hiT⟩ := HP.out _ (List.getElem_mem hlt)
      rw [hi] at h0
      obtain ⟨b', o', rfl, hbl', hc'⟩ := (HU.out.below hb).cell hiT
      have h1 := hc' 0 _ rfl
      obtain ⟨y, hy⟩ : ∃ y, T[i]'hiT = y := ⟨_, rfl⟩
      rw [hy] at h1
      have HT := Lib.hid (imgs_take T P j hlt)
      have HY : Hid (T.getD (P[j]'hlt).toNat 0 = y) := Lib.hid (by rw [hi, ← hy, List.getD_eq_getElem?_getD, Int.toNat_natCast, List.getElem?_eq_getElem hiT]; rfl)
      rw [HY.out] at HT
      have HLn : Hid ((imgs T (P.take j)).length = j) := Lib.hid (by unfold imgs; rw [List.length_map, List.length_take]; omega)
      simp only [cI, Nat.mul_one, Nat.add_zero] at h0 h1
      obtain ⟨Ao, co, rfl⟩ := ho.opn
      generalize imgs T (P.take j) = q at *
      clear hc hc' ho hb hi hy HY
      have HZ := Lib.hid HB.out.size
      go_wp2_with (at_builtin; refine stopHere ?_)
      refine goHere ?_
      refine ap_one (K := cI) wr ty_int64 rfl _ _ rfl (B := w.heap.size) (v := .slice Ao q.length co) (xs := q) rfl HO.out y rfl rfl (by rw [HLn.out]; omega) HZ.out ?_
      intro v3 w3 ho3 hg3 hb3 hat3
      rw [← HT.out] at ho3
      have HO3 := Lib.hid ho3
      have HB3 := Lib.hid (HB.out.trans hb3)
      clear ho3 hg3 hb3 hat3
      go_wp2
      go_roundw
      case rel => exact ⟨j + 1, by omega, by go_num, HO3.out, HB3.out⟩
      case measure => simp [intOf]; omega
    · obtain rfl : j = P.length := by omega
      rw [List.take_length] at ho
      have HO := Lib.hid ho
      clear ho hb
      go_wp2
      go_ret
      exact ⟨_, rfl, HO.out, HB.out⟩
end Go.Proofs.YtcikenffeekkeaaGreatDoor
