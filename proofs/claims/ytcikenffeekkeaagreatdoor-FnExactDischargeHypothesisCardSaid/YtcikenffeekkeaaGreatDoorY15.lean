/- The laws' own functions on lists of lines: marks. -/
import Derived.Test.YtcikenffeekkeaaGreatDoorY14
namespace Go.Proofs.YtcikenffeekkeaaGreatDoor
open Go.RowKit
set_option linter.unusedVariables false
set_option linter.unusedSimpArgs false
/-- how many numbers a mark takes -/
def szM : List Ln → Nat
  | [] => 0
  | l :: t => (3 + 2 * l.x.length) + szM t
theorem szM_app (a b : List Ln) : szM (a ++ b) = szM a + szM b := by
  induction a with
  | nil => simp [szM]
  | cons x l ih => rw [List.cons_append, szM, ih, szM]; omega
theorem szM_succ (ls : List Ln) (j : Nat) (h : j < ls.length) : szM (ls.take (j + 1)) = szM (ls.take j) + (3 + 2 * ls[j].x.length) := by
  rw [List.take_succ_eq_append_getElem h, szM_app]; rfl
theorem szM_take (ls : List Ln) (j : Nat) : szM (ls.take j) ≤ szM ls := by
  have := szM_app (ls.take j) (ls.drop j)
  rw [List.take_append_drop] at this
  omega
theorem szM_tot (ls : List Ln) : szM ls = 3 * ls.length + 2 * sumL (xsL ls) := by
  induction ls with
  | nil => rfl
  | cons l t ih => rw [szM, ih]; show _ = 3 * (t.length + 1) + 2 * (l.x.length + sumL (xsL t)); omega
theorem szM_le (ls : List Ln) : szM ls ≤ 3 * totL ls := by
  rw [szM_tot]; unfold totL tot; rw [xsL_len]; omega
/-- lines numbered -/
def numLn : Int → List Ln → List Ln
  | _, [] => []
  | k, l :: t => ⟨k, k + 1, k + 1 + 1, numN l.x.length (k + 1 + 1 + 1)⟩ :: numLn (k + 3 + 2 * l.x.length) t
theorem numLn_length (k : Int) (ls : List Ln) : (numLn k ls).length = ls.length := by
  induction ls generalizing k with
  | nil => rfl
  | cons x l ih => simp [numLn, ih]
theorem numLn_app (k : Int) (a b : List Ln) : numLn k (a ++ b) = numLn k a ++ numLn (k + szM a) b := by
  induction a generalizing k with
  | nil => simp [numLn, szM]
  | cons x l ih =>
    rw [List.cons_append, numLn, ih, numLn, szM, List.cons_append]
    congr 3
    push_cast
    omega
def nLn (k : Int) (m : Nat) : Ln := ⟨k, k + 1, k + 1 + 1, numN m (k + 1 + 1 + 1)⟩
theorem numLn_get (k : Int) (ls : List Ln) (j : Nat) (h : j < ls.length) : (numLn k ls)[j]'(by rw [numLn_length]; exact h) = nLn (k + szM (ls.take j)) ls[j].x.length := by
  have e : ls = ls.take j ++ ls[j] :: ls.drop (j + 1) := by rw [← List.drop_eq_getElem_cons h, List.take_append_drop]
  have e2 : numLn k ls = numLn k (ls.take j) ++ numLn (k + szM (ls.take j)) (ls[j] :: ls.drop (j + 1)) := by
    conv => lhs; rw [e]
    rw [numLn_app]
  have hl : (numLn k (ls.take j)).length = j := by rw [numLn_length, List.length_take]; omega
  simp only [e2]
  rw [List.getElem_append_right (by omega)]
  simp only [hl, Nat.sub_self]
  rfl
/-- the first j marked -/
def mkLn' (k : Int) (ls : List Ln) (j : Nat) : List Ln := numLn k (ls.take j) ++ ls.drop j
theorem mkLn_zero (k : Int) (ls : List Ln) : mkLn' k ls 0 = ls := by simp [mkLn', numLn]
theorem mkLn_end (k : Int) (ls : List Ln) : mkLn' k ls ls.length = numLn k ls := by simp [mkLn']
theorem mkLn_length (k : Int) (ls : List Ln) (j : Nat) : (mkLn' k ls j).length = ls.length := by
  unfold mkLn'; rw [List.length_append, numLn_length, List.length_take, List.length_drop]; omega
theorem mkLn_at (k : Int) (ls : List Ln) (j : Nat) (h : j < ls.length) : (mkLn' k ls j)[j]'(by rw [mkLn_length]; exact h) = ls[j] := by
  have hl : (numLn k (ls.take j)).length = j := by rw [numLn_length, List.length_take]; omega
  unfold mkLn'
  rw [List.getElem_append_right (by omega)]
  simp only [hl, Nat.sub_self, List.getElem_drop, Nat.add_zero]
theorem mkLn_succ (k : Int) (ls : List Ln) (j : Nat) (h : j < ls.length) : mkLn' k ls (j + 1) = (mkLn' k ls j).set j (nLn (k + szM (ls.take j)) ls[j].x.length) := by
  have hl : (numLn k (ls.take j)).length = j := by rw [numLn_length, List.length_take]; omega
  unfold mkLn'
  rw [List.take_succ_eq_append_getElem h, numLn_app, List.set_append, if_neg (by omega), hl, Nat.sub_self, List.drop_eq_getElem_cons h, List.set_cons_zero, List.append_assoc]
  rfl
theorem cell_far4 (W : World) (g i j : Nat) (h : i ≠ j) (u : Value) : (W.setCell ⟨g, i, none⟩ u).cell? ⟨g, j, none⟩ = W.cell? ⟨g, j, none⟩ := by
  apply World.cell?_setCell_other
  intro e
  injection e with e1 e2
  omega
/-- a store into one of a line's numbers -/
theorem ObL.setQ {B H g n c : Nat} {w : World} {ls : List Ln} (h : ObL B H w (.slice (some ⟨g, 0, none⟩) n c) ls) {j : Nat} (hj : j < ls.length) {q : Nat} (hq : q < 4) (l' : Ln) (hx : l'.x = ls[j].x) (y : Int) (hc : ∀ hd : Hd, cLn.cells (l'.k3, hd) = (cLn.cells (ls[j].k3, hd)).set q (.int .i64 y)) :
    ObL B H (w.setCell ⟨g, j * 4 + q, none⟩ (.int .i64 y)) (.slice (some ⟨g, 0, none⟩) n c) (ls.set j l') := by
  obtain ⟨hs, h1, h2, h3⟩ := h
  have hj' : j < hs.length := by omega
  have hjk := (h3 j hj' hj).1
  have e0 : hs[j] = (ls[j].k3, hs[j].2) := by rw [← hjk]
  refine ⟨hs.set j (l'.k3, hs[j].2), ⟨h1.1.put4 hj' hq _ _ (by rw [hc hs[j].2, ← e0]), h1.2⟩, by simp [h2], fun i p r => ?_⟩
  simp only [List.length_set] at p r
  have hv2 : ∀ i (p : i < hs.length), ((hs.set j (l'.k3, hs[j].2))[i]'(by rw [List.length_set]; exact p)).2 = hs[i].2 := fun i p => by
    rw [List.getElem_set]
    split
    · rename_i e; subst e; rfl
    · rfl
  obtain ⟨a1, a2, a3⟩ := h3 i p r
  have hne : ∀ k, hs[i].2.val.ownBlock = some k → k ≠ g := fun k hk e => (a3 k hk).1 (by rw [e]; rfl)
  refine ⟨?_, ?_, ?_⟩
  · rw [List.getElem_set, List.getElem_set]
    split
    · rfl
    · exact a1
  · rw [hv2 i p]
    have e2 : ((ls.set j l')[i]'(by rw [List.length_set]; exact r)).x = ls[i].x := by
      rw [List.getElem_set]
      split
      · rename_i e; subst e; exact hx
      · rfl
    rw [e2]
    exact ⟨a2.1.far (p := ⟨g, j * 4 + q, none⟩) (fun e => hne _ e rfl) _, a2.2⟩
  · intro k hk
    rw [hv2 i p] at hk
    refine ⟨(a3 k hk).1, fun j' r' hj'' => ?_⟩
    simp only [List.length_set] at r'
    rw [hv2 j' r']
    exact (a3 k hk).2 j' r' hj''
/-- a line's nodes rewritten -/
theorem ObL.setX {B H : Nat} {w w' : World} {v : Value} {ls : List Ln} (h : ObL B H w v ls) {j : Nat} (hj : j < ls.length) {u : Value} {ys : List Nd} (hu : ∀ hs : List (L3 × Hd), Sl cLn w v hs → (p : j < hs.length) → hs[j].2.val = u) (ho : Ow cN 75 B w' u ys) (hg : w.grownBy w' u.ownBlock) (l' : Ln) (hk : l'.k3 = ls[j].k3) (hx : l'.x = ys) :
    ObL B H w' v (ls.set j l') := by
  obtain ⟨hs, h1, h2, h3⟩ := h
  have hj' : j < hs.length := by omega
  have hu' := hu hs h1.sl hj'
  subst hu'
  obtain ⟨b1, b2, b3⟩ := h3 j hj' hj
  refine ⟨hs, ⟨h1.1.kept hg ?_, h1.2⟩, by simp [h2], fun i p q => ?_⟩
  · cases hq : v.ownBlock with
    | none => exact .inl rfl
    | some k => exact .inr fun e => (b3 k e.symm).1 hq
  · simp only [List.length_set] at q
    obtain ⟨a1, a2, a3⟩ := h3 i p q
    rw [List.getElem_set]
    by_cases e : j = i
    · subst e
      rw [if_pos rfl]
      exact ⟨by rw [hk]; exact a1, ⟨by rw [hx]; exact ho, a2.2⟩, a3⟩
    · rw [if_neg e]
      refine ⟨a1, ⟨a2.1.kept hg ?_, a2.2⟩, a3⟩
      cases hq : hs[i].2.val.ownBlock with
      | none => exact .inl rfl
      | some k => exact .inr fun e2 => (b3 k e2.symm).2 i p (fun e3 => e e3.symm) hq
set_option maxRecDepth 100000 in
set_option maxHeartbeats 1000000 in
theorem u_mark_LineS (v : Value) (ls : List Ln) (k : Int) (B H : Nat) (w : World) (h : ObL B H w v ls) (hl : totL ls ≤ 1048576) (hk : 0 ≤ k ∧ k ≤ 67108864) :
    Calls Tryz.prog 13 #[v, .int .i64 k] w fun e w' => e = .returned (.int .i64 (k + szM ls)) ∧ ObL B H w' v (numLn k ls) ∧ Keep B H w w' := by
  obtain ⟨A, c, rfl⟩ := h.opn
  have hln : ls.length ≤ 1048576 := Nat.le_trans (totL_len ls) hl
  have HG := Lib.hid (fun j (h : j < ls.length) => Nat.le_trans (totL_get ls j h) hl)
  have HS := Lib.hid (fun j (h : j < ls.length) => szM_succ ls j h)
  have HT : Hid (∀ j, szM (ls.take j) ≤ 3145728) := Lib.hid (fun j => by have := szM_take ls j; have := szM_le ls; omega)
  have HMS := Lib.hid (fun j (h : j < ls.length) => mkLn_succ k ls j h)
  have HMA := Lib.hid (fun j (h : j < ls.length) => mkLn_at k ls j h)
  have HML := Lib.hid (fun j => mkLn_length k ls j)
  have HME := Lib.hid (mkLn_end k ls)
  have HTE : Hid (szM (ls.take ls.length) = szM ls) := Lib.hid (by rw [List.take_length])
  have H0 : Hid (ObL B H w (.slice A ls.length c) (mkLn' k ls 0)) := Lib.hid (by rw [mkLn_zero]; exact h)
  clear hl h
  go_enter Tryz.func13, Tryz.ntmps13
  go_wp2
  go_loopw [1, 5] (fun q i wr => ∃ j : Nat, j ≤ ls.length ∧ i = .int .i64 j ∧ q = .int .i64 (k + szM (ls.take j)) ∧ ObL B H wr (.slice A ls.length c) (mkLn' k ls j) ∧ Keep B H w wr) (fun _ i _ => ls.length - (intOf i).toNat)
  case atStart => exact ⟨0, Nat.zero_le _, rfl, by simp [szM], H0.out, Keep.of_below (Below.refl _ _)⟩
  case round =>
    obtain ⟨j, hj, rfl, rfl, ho, hkp⟩ := hrel
    have HKP := Lib.hid hkp
    by_cases hlt : j < ls.length
    · have hlm : j < (mkLn' k ls j).length := by rw [HML.out]; exact hlt
      have hma := HMA.out j hlt
      have hms := HMS.out j hlt
      have hT := HT.out j
      have hSu := HS.out j hlt
      have hG := HG.out j hlt
      obtain ⟨y, hy⟩ : ∃ y : Int, k + (szM (ls.take j) : Int) = y := ⟨_, rfl⟩
      have hy0 : 0 ≤ y ∧ y ≤ 70254592 := by omega
      have HNX : Hid (∀ m : Nat, ls[j].x.length = m → k + (szM (ls.take (j + 1)) : Int) = y + 1 + 1 + 1 + 2 * (m : Int)) := Lib.hid fun m hm => by rw [hSu, hm, ← hy]; push_cast; omega
      rw [hy] at hms ⊢
      -- the outer block
      have hout : ∃ g, A = some ⟨g, 0, none⟩ ∧ B ≤ g ∧ g < H ∧ g < wr.heap.size ∧ (∀ i, wr.frozen? ⟨g, i, none⟩ = false) := by
        obtain ⟨hs, h1, h2, -⟩ := ho
        obtain ⟨g, c', e, hB, hz, hf, -⟩ := h1.1.form (by omega)
        injection e with e1
        subst e1
        exact ⟨g, rfl, hB, h1.2 g rfl, hz, hf⟩
      obtain ⟨g, rfl, hgB, hgH, hgz, hgf⟩ := hout
      obtain ⟨b, o, Ai, ci, e1, hbl, c0, c1, c2, c3, -⟩ := ho.sl.at_ hlm
      injection e1 with e1
      injection e1 with e2 e3
      subst e2
      subst e3
      rw [Nat.zero_add] at c0 c1 c2 c3
      have f0 := hgf (j * 4)
      have f1 := hgf (j * 4 + 1)
      have f2 := hgf (j * 4 + 2)
      rw [hma] at c3
      obtain ⟨l, hle⟩ : ∃ l, ls[j] = l := ⟨_, rfl⟩
      rw [hle] at hma hms c3 hG HNX
      have ho1 := ho.setQ hlm (q := 0) (by decide) ⟨y, l.f, l.s, l.x⟩ (by rw [hma]) y (fun hd => by rw [hma]; rfl)
      have ho2 := ho1.setQ (j := j) (by rw [List.length_set]; exact hlm) (q := 1) (by decide) ⟨y, y + 1, l.s, l.x⟩ (by rw [List.getElem_set_self]) (y + 1) (fun hd => by rw [List.getElem_set_self]; rfl)
      have ho3 := ho2.setQ (j := j) (by rw [List.length_set, List.length_set]; exact hlm) (q := 2) (by decide) ⟨y, y + 1, y + 1 + 1, l.x⟩ (by rw [List.getElem_set_self]) (y + 1 + 1) (fun hd => by rw [List.getElem_set_self]; rfl)
      rw [List.set_set, List.set_set] at ho3
      obtain ⟨w4, hw4⟩ : ∃ W, W = ((wr.setCell ⟨g, j * 4, none⟩ (.int .i64 y)).setCell ⟨g, j * 4 + 1, none⟩ (.int .i64 (y + 1))).setCell ⟨g, j * 4 + 2, none⟩ (.int .i64 (y + 1 + 1)) := ⟨_, rfl⟩
      have ho4 : ObL B H w4 (.slice (some ⟨g, 0, none⟩) ls.length c) ((mkLn' k ls j).set j ⟨y, y + 1, y + 1 + 1, l.x⟩) := by rw [hw4]; exact ho3
      have ks : KpS (fun k => k = g) wr w4 := by
        rw [hw4]
        exact (((KpS.refl (fun k => k = g) wr).set (p := ⟨g, j * 4, none⟩) rfl _).set (p := ⟨g, j * 4 + 1, none⟩) rfl _).set (p := ⟨g, j * 4 + 2, none⟩) rfl _
      have hk1 : Keep B H wr w4 := ⟨ks.os, ks.tape, ks.output, ks.size, fun i hi hor => ks.block i hi (fun e => by omega)⟩
      have hlm4 : j < ((mkLn' k ls j).set j ⟨y, y + 1, y + 1 + 1, l.x⟩).length := by rw [List.length_set]; exact hlm
      have cell3 : w4.cell? ⟨g, j * 4 + 3, none⟩ = some (.slice Ai l.x.length ci) := by
        rw [hw4]
        rw [cell_far4 _ _ _ _ (by omega), cell_far4 _ _ _ _ (by omega), cell_far4 _ _ _ _ (by omega)]
        exact c3
      have hval : ∀ hs : List (L3 × Hd), Sl cLn w4 (.slice (some ⟨g, 0, none⟩) ls.length c) hs → (p : j < hs.length) → hs[j].2.val = .slice Ai l.x.length ci := fun hs hsl p => by
        obtain ⟨b, o, e1, hb, hc⟩ := hsl.cell p
        injection e1 with e1
        injection e1 with e2 e3
        subst e2
        subst e3
        have c1 := hc 3 hs[j].2.val rfl
        rw [show (0 + j * cLn.size + 3) = j * 4 + 3 by simp [cLn]] at c1
        rw [cell3] at c1
        injection c1 with c1
        exact c1.symm
      have hrow : Ob cN 75 B H w4 (.slice Ai l.x.length ci) l.x := by
        obtain ⟨hs, h1, h2, h3⟩ := ho4
        have hjs : j < hs.length := by rw [h2]; exact hlm4
        obtain ⟨a1, a2, a3⟩ := h3 j hjs hlm4
        rw [hval hs h1.sl hjs, List.getElem_set_self] at a2
        exact a2
      have HMk := Lib.hid (mark_nodeS (.slice Ai l.x.length ci) l.x (y + 1 + 1 + 1) B w4 hrow.1 (by omega) (by omega))
      have HK1 := Lib.hid hk1
      have HFin : Hid (∀ w', Ow cN 75 B w' (.slice Ai l.x.length ci) (numN l.x.length (y + 1 + 1 + 1)) → w4.grownBy w' (Value.slice Ai l.x.length ci).ownBlock → ObL B H w' (.slice (some ⟨g, 0, none⟩) ls.length c) (mkLn' k ls (j + 1))) := Lib.hid fun w' how hgr => by
        have := ho4.setX hlm4 (u := .slice Ai l.x.length ci) (ys := numN l.x.length (y + 1 + 1 + 1)) hval how hgr (nLn y l.x.length) (by rw [List.getElem_set_self]; rfl) rfl
        rw [List.set_set] at this
        rw [hms]
        exact this
      have HRB : Hid (∀ q, (Value.slice Ai l.x.length ci).ownBlock = some q → B ≤ q ∧ q < H) := Lib.hid fun q hq => ⟨(hrow.1.block q hq).1, hrow.2 q hq⟩
      have HNX1 := Lib.hid (HNX.out l.x.length rfl)
      have HW4 := Lib.hid hw4
      have w4z : g < w4.heap.size := Nat.lt_of_lt_of_le hgz ks.size
      have d1 : (wr.setCell ⟨g, j * 4, none⟩ (.int .i64 y)).cell? ⟨g, j * 4 + 1, none⟩ = some (.int .i64 (mkLn' k ls j)[j].f) := by
        rw [cell_far4 _ _ _ _ (by omega)]; exact c1
      have d2 : ((wr.setCell ⟨g, j * 4, none⟩ (.int .i64 y)).setCell ⟨g, j * 4 + 1, none⟩ (.int .i64 (y + 1))).cell? ⟨g, j * 4 + 2, none⟩ = some (.int .i64 (mkLn' k ls j)[j].s) := by
        rw [cell_far4 _ _ _ _ (by omega), cell_far4 _ _ _ _ (by omega)]; exact c2
      generalize l.x.length = m at *
      generalize numN m (y + 1 + 1 + 1) = ys at *
      clear hkp hma hms hSu hgf ho ho1 ho2 ho3 ho4 hrow hk1 hy hval ks hw4 HNX
      go_upto_region 10 with fail
      rw [← HW4.out]
      clear c0 c1 c2 c3 d1 d2 f0 f1 f2
      go_wp2_with fail
      refine HMk.out.mono ?_
      rintro e w2 ⟨rfl, ho3, hg3⟩
      have Z1 := Lib.hid (HFin.out w2 ho3 hg3)
      have Z2 := Lib.hid (HKP.out.trans (HK1.out.trans (Keep.of_grown hg3 HRB.out)))
      clear ho3 hg3 cell3
      go_wp2
      go_roundw
      case rel => exact ⟨j + 1, by omega, by go_num, by rw [HNX1.out], Z1.out, Z2.out⟩
      case measure => simp [intOf]; omega
    · obtain rfl : j = ls.length := by omega
      rw [HME.out] at ho
      have HO := Lib.hid ho
      rw [HTE.out]
      clear ho hkp
      go_wp2
      go_ret
      exact ⟨rfl, HO.out, HKP.out⟩
end Go.Proofs.YtcikenffeekkeaaGreatDoor
