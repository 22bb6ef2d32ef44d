/- The laws' own functions on lists of lines: copies. -/
import Derived.Test.YtcikenffeekkeaaGreatDoorY12
import Derived.Test.YtcikenffeekkeaaGreatDoorY13
namespace Go.Proofs.YtcikenffeekkeaaGreatDoor
open Go.RowKit
set_option linter.unusedVariables false
set_option linter.unusedSimpArgs false
/-- a store into a line's cell -/
theorem flat_put (hs : List (L3 × Hd)) (j q : Nat) (hj : j < hs.length) (hq : q < 4) (x : L3 × Hd) (v : Value) (hx : cLn.cells x = (cLn.cells hs[j]).set q v) : flat cLn (hs.set j x) = (flat cLn hs).set (j * 4 + q) v := by
  induction hs generalizing j with
  | nil => simp at hj
  | cons y ys ih =>
    cases j with
    | zero =>
      rw [List.set_cons_zero, flat_cons, flat_cons, hx, Nat.zero_mul, Nat.zero_add, List.set_append, if_pos (by rw [cLn.len]; exact hq)]
      rfl
    | succ j =>
      have := ih j (by simpa using hj) (by rw [hx]; rfl)
      rw [List.set_cons_succ, flat_cons, this, flat_cons, List.set_append, if_neg (by rw [cLn.len]; show ¬ (j + 1) * 4 + q < 4; omega)]
      congr 2
      rw [cLn.len]
      show j * 4 + q = (j + 1) * 4 + q - 4
      omega
theorem Ow.put4 {B g n c : Nat} {w : World} {hs : List (L3 × Hd)} (h : Ow cLn 46 B w (.slice (some ⟨g, 0, none⟩) n c) hs) {j q : Nat} (hj : j < hs.length) (hq : q < 4) (x : L3 × Hd) (v : Value) (hx : cLn.cells x = (cLn.cells hs[j]).set q v) :
    Ow cLn 46 B (w.setCell ⟨g, j * 4 + q, none⟩ v) (.slice (some ⟨g, 0, none⟩) n c) (hs.set j x) := by
  obtain ⟨⟨A, c', hv, hc, hm⟩, ho⟩ := h
  injection hv with hA hn hc'
  subst hA; subst hc'; subst hn
  refine ⟨⟨_, c, by rw [List.length_set], by rw [List.length_set]; exact hc, hm⟩, ?_⟩
  have := (ho.stored (j * 4 + q) v).1
  rw [List.length_set, flat_put hs j q hj hq x v hx]
  exact this
/-- the four stores of a line -/
theorem Ow.putL {B g n c : Nat} {w : World} {hs : List (L3 × Hd)} (h : Ow cLn 46 B w (.slice (some ⟨g, 0, none⟩) n c) hs) {j : Nat} (hj : j < hs.length) (x : L3 × Hd) :
    Ow cLn 46 B ((((w.setCell ⟨g, j * 4, none⟩ (.int .i64 x.1.1)).setCell ⟨g, j * 4 + 1, none⟩ (.int .i64 x.1.2.1)).setCell ⟨g, j * 4 + 2, none⟩ (.int .i64 x.1.2.2)).setCell ⟨g, j * 4 + 3, none⟩ x.2.val) (.slice (some ⟨g, 0, none⟩) n c) (hs.set j x) := by
  obtain ⟨⟨x1, x2, x3⟩, x4⟩ := x
  obtain ⟨y, hy⟩ : ∃ y, hs[j] = y := ⟨_, rfl⟩
  obtain ⟨⟨y1, y2, y3⟩, y4⟩ := y
  have h0 := h.put4 hj (q := 0) (by decide) ((x1, y2, y3), y4) (.int .i64 x1) (by rw [hy]; rfl)
  have h1 := h0.put4 (j := j) (q := 1) (by rw [List.length_set]; exact hj) (by decide) ((x1, x2, y3), y4) (.int .i64 x2) (by rw [List.getElem_set_self]; rfl)
  have h2 := h1.put4 (j := j) (q := 2) (by rw [List.length_set, List.length_set]; exact hj) (by decide) ((x1, x2, x3), y4) (.int .i64 x3) (by rw [List.getElem_set_self]; rfl)
  have h3 := h2.put4 (j := j) (q := 3) (by rw [List.length_set, List.length_set, List.length_set]; exact hj) (by decide) ((x1, x2, x3), x4) x4.val (by rw [List.getElem_set_self]; rfl)
  rw [List.set_set, List.set_set, List.set_set] at h3
  exact h3
set_option maxRecDepth 100000 in
set_option maxHeartbeats 1000000 in
theorem law_toLine (r f s : Int) (v : Value) (xs : List Nd) (w : World) (h : Sl cN w v xs) (hl : xs.length ≤ 1048576) :
    Calls Tryz.prog 20 #[.agg #[.int .i64 r, .int .i64 f, .int .i64 s, v]] w fun e w' => ∃ u, e = .returned (.agg #[.int .i64 r, .int .i64 f, .int .i64 s, u]) ∧ Ow cN 75 w.heap.size w' u xs ∧ Below w.heap.size w w' := by
  obtain ⟨Ax, cx, rfl⟩ := h.opn
  have hb1 := below_alloc' w (.cells #[.int .i64 r, .int .i64 f, .int .i64 s, .slice Ax xs.length cx] 41)
  have hk1 := Blk.new w 41 #[.int .i64 r, .int .i64 f, .int .i64 s, .slice Ax xs.length cx]
  generalize hw1 : w.alloc (.cells #[.int .i64 r, .int .i64 f, .int .i64 s, .slice Ax xs.length cx] 41) = w1 at hb1 hk1
  have hz1 : w1.heap.size = w.heap.size + 1 := by rw [← hw1]; simp
  have hk2 := Blk.new w1 46 #[.int .i64 0, .int .i64 0, .int .i64 0, .slice none 0 0]
  have hb2 := below_alloc' w1 (.cells #[.int .i64 0, .int .i64 0, .int .i64 0, .slice none 0 0] 46)
  generalize hw2 : w1.alloc (.cells #[.int .i64 0, .int .i64 0, .int .i64 0, .slice none 0 0] 46) = w2 at hb2 hk2
  have hz2 : w2.heap.size = w.heap.size + 1 + 1 := by rw [← hw2]; simp [hz1]
  have hk3 := Blk.new w2 46 #[.int .i64 0, .int .i64 0, .int .i64 0, .slice none 0 0]
  have hb3 := below_alloc' w2 (.cells #[.int .i64 0, .int .i64 0, .int .i64 0, .slice none 0 0] 46)
  generalize hw3 : w2.alloc (.cells #[.int .i64 0, .int .i64 0, .int .i64 0, .slice none 0 0] 46) = w3 at hb3 hk3
  have hz3 : w3.heap.size = w.heap.size + 3 := by rw [← hw3]; simp [hz2]
  rw [hz1] at hk2
  rw [hz2] at hk3
  have kA := (hk1.below hb2 hk1.lt).below hb3 (by rw [hz2]; omega)
  have kB := hk2.below hb3 (by rw [hz2]; omega)
  have hbb : Below w.heap.size w w3 := bthen (bthen hb1 hb2) hb3
  have HV0 := Lib.hid h
  have HW1 := Lib.hid hw1
  have HW2 := Lib.hid hw2
  have HW3 := Lib.hid hw3
  have HPZ := Lib.hid hz3
  clear h hb1 hk1 hb2 hk2 hb3 hw1 hw2 hw3 hz1 hz2 hz3
  go_enter Tryz.func20, Tryz.ntmps20
  go_upto_region 2 with fail
  rw [HW1.out, HW2.out, HW3.out]
  obtain ⟨p, hp⟩ : ∃ p, w.heap.size = p := ⟨_, rfl⟩
  have HPW : Hid (w.heap.size = p) := Lib.hid hp
  rw [hp] at kA kB hk3 hbb HPZ ⊢
  clear hp
  have HKB := Lib.hid kB
  have HBB := Lib.hid hbb
  have a0 := kA.cell 0
  have a1 := kA.cell 1
  have a2 := kA.cell 2
  have a3 := kA.cell 3
  have al := kA.lt
  have c0 := hk3.cell 0
  have cf := hk3.frozen
  have c1 := hk3.cell 1
  have c2 := hk3.cell 2
  have cl := hk3.lt
  have hq : Blk (((w3.setCell ⟨p + 1 + 1, 0, none⟩ (.int .i64 r)).setCell ⟨p + 1 + 1, 1, none⟩ (.int .i64 f)).setCell ⟨p + 1 + 1, 2, none⟩ (.int .i64 s)) (p + 1 + 1) 46 #[.int .i64 r, .int .i64 f, .int .i64 s, .slice none 0 0] := ((hk3.set_ 0 _).set_ 1 _).set_ 2 _
  have HQ := Lib.hid hq
  clear hq hk3 kB kA hbb
  go_upto_region 5 with fail
  obtain ⟨w4, hw4⟩ : ∃ W, W = ((w3.setCell ⟨p + 1 + 1, 0, none⟩ (.int .i64 r)).setCell ⟨p + 1 + 1, 1, none⟩ (.int .i64 f)).setCell ⟨p + 1 + 1, 2, none⟩ (.int .i64 s) := ⟨_, rfl⟩
  have ks : KpS (fun k => k = p + 1 + 1) w3 w4 := by
    rw [hw4]
    exact (((KpS.refl (fun k => k = p + 1 + 1) w3).set (p := ⟨p + 1 + 1, 0, none⟩) rfl _).set (p := ⟨p + 1 + 1, 1, none⟩) rfl _).set (p := ⟨p + 1 + 1, 2, none⟩) rfl _
  rw [← hw4] at HQ ⊢
  have hz4 : w4.heap.size = p + 3 := by rw [hw4]; simp [World.setCell]; exact HPZ.out
  have HS4 : Hid (Sl cN w4 (.slice Ax xs.length cx) xs) := Lib.hid (HV0.out.below (by rw [HPW.out]; exact HBB.out.trans (ks.toBelow (by have := HPZ.out; omega) fun k hk e => by omega)))
  have HKB4 := Lib.hid (HKB.out.kps ks (by omega))
  have a3' := (ks.cell (p := ⟨p, 3, none⟩) al (by show ¬ p = p + 1 + 1; omega)).trans a3
  have al' : p < w4.heap.size := by omega
  have HB4 : Hid (Below p w w4) := Lib.hid (HBB.out.trans (ks.toBelow (by have := HPZ.out; omega) fun k hk e => by omega))
  have HTO := Lib.hid (u_to_SN _ xs w4 HS4.out hl)
  clear ks hw4 a0 a1 a2 a3 al c0 cf c1 c2 cl
  go_wp2_with fail
  refine HTO.out.mono ?_
  rintro e w5 ⟨u, rfl, ho, hb5⟩
  obtain ⟨Au, cu, rfl⟩ := ho.opn
  have HO5 := Lib.hid ho.1
  have HQ5 := Lib.hid (HQ.out.below hb5 HQ.out.lt)
  have HKB5 := Lib.hid (HKB4.out.below hb5 HKB4.out.lt)
  have HB5 := Lib.hid (HB4.out.trans (hb5.mono (by omega)))
  have q3 := HQ5.out.cell 3
  have qf := HQ5.out.frozen 3
  have ql := HQ5.out.lt
  have HQ6 := Lib.hid (HQ5.out.set_ 3 (.slice Au xs.length cu))
  have HKB6 := Lib.hid (HKB5.out.far (p := ⟨p + 1 + 1, 3, none⟩) (by show p + 1 ≠ p + 1 + 1; omega) (.slice Au xs.length cu))
  have KS6 : Hid (KpS (fun k => k = p + 1 ∨ k = p + 1 + 1) w5 (w5.setCell ⟨p + 1 + 1, 3, none⟩ (.slice Au xs.length cu))) := Lib.hid ((KpS.refl _ w5).set (p := ⟨p + 1 + 1, 3, none⟩) (.inr rfl) _)
  have hz5 : p + 3 ≤ w5.heap.size := by have := hb5.size; omega
  clear ho hb5 HTO a3' al'
  go_upto_region 6 with fail
  obtain ⟨w6, hw6⟩ : ∃ W, W = w5.setCell ⟨p + 1 + 1, 3, none⟩ (.slice Au xs.length cu) := ⟨_, rfl⟩
  rw [← hw6] at HQ6 HKB6 KS6 ⊢
  clear hw6 q3 qf ql
  have e0 := HQ6.out.cell 0
  have e1 := HQ6.out.cell 1
  have e2 := HQ6.out.cell 2
  have e3 := HQ6.out.cell 3
  have el := HQ6.out.lt
  have u0 := HKB6.out.frozen 0
  have u1 := HKB6.out.frozen 1
  have u2 := HKB6.out.frozen 2
  have u3 := HKB6.out.frozen 3
  have g0 := HKB6.out.cell 0
  have g1 := HKB6.out.cell 1
  have g2 := HKB6.out.cell 2
  have g3 := HKB6.out.cell 3
  have ul := HKB6.out.lt
  have HE6 := (((HKB6.out.set_ 0 (.int .i64 r)).set_ 1 (.int .i64 f)).set_ 2 (.int .i64 s)).set_ 3 (.slice Au xs.length cu)
  have v0 := HE6.cell 0
  have v1 := HE6.cell 1
  have v2 := HE6.cell 2
  have v3 := HE6.cell 3
  have vl := HE6.lt
  have HK9 := Lib.hid ((((KS6.out.set (p := ⟨p + 1, 0, none⟩) (.inl rfl) (.int .i64 r)).set (p := ⟨p + 1, 1, none⟩) (.inl rfl) (.int .i64 f)).set (p := ⟨p + 1, 2, none⟩) (.inl rfl) (.int .i64 s)).set (p := ⟨p + 1, 3, none⟩) (.inl rfl) (.slice Au xs.length cu))
  clear HE6
  go_wp2
  have HFF : ∀ w9, KpS (fun k => k = p + 1 ∨ k = p + 1 + 1) w5 w9 → ∃ u, Ending.returned (.agg #[.int .i64 r, .int .i64 f, .int .i64 s, .slice Au xs.length cu]) = .returned (.agg #[.int .i64 r, .int .i64 f, .int .i64 s, u]) ∧ Ow cN 75 p w9 u xs ∧ Below p w w9 := fun w9 hk =>
    ⟨_, rfl, (HO5.out.kps hk (fun k e e2 => by have := (HO5.out.block k e).1; omega)).mono (by omega), HB5.out.trans (hk.toBelow (by omega) fun k hk e => by omega)⟩
  have HF9 := HFF _ HK9.out
  rw [← HPW.out] at HF9 v0 v1 v2 v3 vl ⊢
  exact bodyPost_ret (v := .agg #[.int .i64 r, .int .i64 f, .int .i64 s, .slice Au xs.length cu]) (by simp [results, Tryz.results20, go_sem, v0, v1, v2, v3, vl]) rfl HF9
def zLn : L3 × Hd := ((0, 0, 0), ⟨none, 0, 0⟩)
theorem hsetL {α : Type} (hs : List α) (n k : Nat) (z x : α) (hk : k < n) (hl : hs.length = k) : (hs ++ List.replicate (n - k) z).set k x = (hs ++ [x]) ++ List.replicate (n - (k + 1)) z := by
  rw [List.set_append, if_neg (by omega), hl, Nat.sub_self]
  obtain ⟨m, hm⟩ : ∃ m, n - k = m + 1 := ⟨n - k - 1, by omega⟩
  rw [hm, List.replicate_succ, List.set_cons_zero, show n - (k + 1) = m by omega, List.append_assoc]
  rfl
/-- k lines have been copied -/
structure TL (g : Nat) (ls : List Ln) (k : Nat) (w X : World) (hs : List (L3 × Hd)) : Prop where
  len : hs.length = k
  row : Ow cLn 46 g X (.slice (some ⟨g, 0, none⟩) ls.length ls.length) (hs ++ List.replicate (ls.length - k) zLn)
  at_ : ∀ i (p : i < hs.length) (q : i < ls.length), hs[i].1 = ls[i].k3 ∧ Ow cN 75 (g + 1) X hs[i].2.val ls[i].x ∧ ∀ k', hs[i].2.val.ownBlock = some k' → ∀ j (r : j < hs.length), j ≠ i → hs[j].2.val.ownBlock ≠ some k'
  be : Below g w X
theorem TL.step {g k : Nat} {ls : List Ln} {w X Y : World} {hs : List (L3 × Hd)} (h : TL g ls k w X hs) (hk : k < ls.length) {A : Option Addr} {c : Nat} (ho : Ow cN 75 X.heap.size Y (.slice A (ls[k]'hk).x.length c) (ls[k]'hk).x) (hb : Below X.heap.size X Y) (hg : g < X.heap.size) :
    TL g ls (k + 1) w ((((Y.setCell ⟨g, k * 4, none⟩ (.int .i64 (ls[k]'hk).r)).setCell ⟨g, k * 4 + 1, none⟩ (.int .i64 (ls[k]'hk).f)).setCell ⟨g, k * 4 + 2, none⟩ (.int .i64 (ls[k]'hk).s)).setCell ⟨g, k * 4 + 3, none⟩ (.slice A (ls[k]'hk).x.length c)) (hs ++ [((ls[k]'hk).k3, ⟨A, (ls[k]'hk).x.length, c⟩)]) := by
  have hrow := h.row.below hb
  have hset1 := hrow.putL (j := k) (by simp [h.len]; omega) ((ls[k]'hk).k3, (⟨A, (ls[k]'hk).x.length, c⟩ : Hd))
  rw [hsetL hs ls.length k _ _ hk h.len] at hset1
  have hfar : ∀ {B' : Nat} {v : Value} {xs : List Nd} (y0 y1 y2 y3 : Value), g + 1 ≤ B' → Ow cN 75 B' Y v xs → Ow cN 75 B' ((((Y.setCell ⟨g, k * 4, none⟩ y0).setCell ⟨g, k * 4 + 1, none⟩ y1).setCell ⟨g, k * 4 + 2, none⟩ y2).setCell ⟨g, k * 4 + 3, none⟩ y3) v xs := fun {B' v xs} y0 y1 y2 y3 hB' hv => by
    have n : ∀ o, v.ownBlock ≠ some (⟨g, o, none⟩ : Addr).block := fun o e => by have h9 : B' ≤ g := (hv.block _ e).1; omega
    exact (((hv.far (n _) _).far (n _) _).far (n _) _).far (n _) _
  have hnew : ∀ k', (Value.slice A (ls[k]'hk).x.length c).ownBlock = some k' → X.heap.size ≤ k' := fun k' e => (ho.block k' e).1
  have hold : ∀ i (p : i < hs.length), ∀ k', hs[i].2.val.ownBlock = some k' → k' < X.heap.size := fun i p k' e => ((h.at_ i p (by have := h.len; omega)).2.1.block k' e).2
  have e3 : ∀ (p : hs.length < (hs ++ [((ls[k]'hk).k3, (⟨A, (ls[k]'hk).x.length, c⟩ : Hd))]).length), (hs ++ [((ls[k]'hk).k3, (⟨A, (ls[k]'hk).x.length, c⟩ : Hd))])[hs.length] = ((ls[k]'hk).k3, ⟨A, (ls[k]'hk).x.length, c⟩) := fun p => by simp
  refine ⟨by simp [h.len], hset1, fun i p q => ?_, ((((h.be.trans (hb.mono (by omega))).setCell (Nat.le_refl _) _).setCell (Nat.le_refl _) _).setCell (Nat.le_refl _) _).setCell (Nat.le_refl _) _⟩
  by_cases hi : i < hs.length
  · rw [List.getElem_append_left hi]
    obtain ⟨a1, a2, a3⟩ := h.at_ i hi q
    refine ⟨a1, hfar _ _ _ _ (Nat.le_refl _) (a2.below hb), fun k' e j r hj => ?_⟩
    by_cases hjl : j < hs.length
    · rw [List.getElem_append_left hjl]
      exact a3 k' e j hjl hj
    · have : j = hs.length := by simp at r; omega
      subst this
      rw [e3]
      intro e2
      have := hnew k' e2
      have := hold i hi k' e
      omega
  · have hl := h.len
    have e : i = hs.length := by simp at p; omega
    subst e
    rw [e3]
    have hke : ls[hs.length]'q = ls[k]'hk := by simp only [hl]
    rw [hke]
    refine ⟨rfl, hfar _ _ _ _ (Nat.le_refl _) (ho.mono (by omega)), fun k' e2 j r hj => ?_⟩
    have hjl : j < hs.length := by simp at r; omega
    rw [List.getElem_append_left hjl]
    intro e4
    have := hnew k' e2
    have := hold j hjl k' e4
    omega
theorem TL.fin {g : Nat} {ls : List Ln} {w X : World} {hs : List (L3 × Hd)} (h : TL g ls ls.length w X hs) : ObL g X.heap.size X (.slice (some ⟨g, 0, none⟩) ls.length ls.length) ls := by
  have hr := h.row
  rw [Nat.sub_self, List.replicate_zero, List.append_nil] at hr
  refine ⟨hs, ⟨hr, fun k hk => (hr.block k hk).2⟩, h.len, fun i p q => ?_⟩
  obtain ⟨a1, a2, a3⟩ := h.at_ i p q
  refine ⟨a1, ⟨a2.mono (Nat.le_succ _), fun k hk => (a2.block k hk).2⟩, fun k hk => ⟨fun e => ?_, a3 k hk⟩⟩
  have e1 : g = k := by injection e
  have := (a2.block k hk).1
  omega
set_option maxRecDepth 100000 in
set_option maxHeartbeats 1000000 in
theorem u_to_LineS (v : Value) (ls : List Ln) (w : World) (h : SlL w v ls) (hl : totL ls ≤ 1048576) :
    Calls Tryz.prog 8 #[v] w fun e w' => ∃ u, e = .returned u ∧ ObL w.heap.size w'.heap.size w' u ls ∧ Below w.heap.size w w' := by
  obtain ⟨A, c, rfl⟩ := h.opn
  have hln : ls.length ≤ 1048576 := by have := totL_len ls; omega
  have HG := Lib.hid (fun j (h : j < ls.length) => Nat.le_trans (totL_get ls j h) hl)
  have HH := Lib.hid h
  clear hl h
  go_enter Tryz.func8, Tryz.ntmps8
  go_wp2_with (at_make; go_must (refine mk_full (K := cLn) w ty_line rfl _ _ rfl w.heap.size ls.length zLn rfl rfl rfl (by omega) (Nat.le_refl _) ?_; intro w1 ho1 hg1 hb1 hsz1))
  have HO : Hid (TL w.heap.size ls 0 w w1 []) := Lib.hid ⟨rfl, by simpa using ho1, fun i p => (by simp at p), hb1⟩
  have HZ1 := Lib.hid hsz1
  clear ho1 hg1 hb1 hsz1
  obtain ⟨g, hg⟩ : ∃ g, w.heap.size = g := ⟨_, rfl⟩
  have HGE := Lib.hid hg
  rw [hg] at HO HZ1 ⊢
  clear hg
  go_loopw [4] (fun i wr => ∃ k : Nat, k ≤ ls.length ∧ i = .int .i64 k ∧ (∃ hs, TL g ls k w wr hs) ∧ g < wr.heap.size) (fun i _ => ls.length - (intOf i).toNat)
  case atStart => exact ⟨0, Nat.zero_le _, rfl, ⟨_, HO.out⟩, by have := HZ1.out; omega⟩
  case round =>
    clear HZ1
    obtain ⟨k, hk, rfl, ⟨hs, ht⟩, hgw⟩ := hrel
    have HTN := Lib.hid ht
    by_cases hlt : k < ls.length
    · obtain ⟨b, o, Ai, ci, rfl, hbl, c0, c1, c2, c3, hsj⟩ := (HH.out.below (by rw [HGE.out]; exact ht.be)).at_ hlt
      have HC := Lib.hid (law_toLine (ls[k]'hlt).r (ls[k]'hlt).f (ls[k]'hlt).s _ _ wr hsj (by have := HG.out k hlt; omega))
      have HST := Lib.hid (fun (Y : World) A' c' (ho : Ow cN 75 wr.heap.size Y (.slice A' (ls[k]'hlt).x.length c') (ls[k]'hlt).x) (hb : Below wr.heap.size wr Y) => ht.step hlt ho hb hgw)
      have HRW := Lib.hid ht.row
      have HLK := Lib.hid ht.len
      generalize hr9 : (ls[k]'hlt).r = r at *
      generalize hf9 : (ls[k]'hlt).f = f at *
      generalize hs9 : (ls[k]'hlt).s = s at *
      obtain ⟨m, hm⟩ : ∃ m : Nat, (ls[k]'hlt).x.length = m := ⟨_, rfl⟩
      rw [hm] at c3 HC
      have HM := Lib.hid hm
      clear ht hsj hm HO hr9 hf9 hs9
      go_wp2_with fail
      refine HC.out.mono ?_
      rintro e w2 ⟨u, rfl, ho, hb⟩
      obtain ⟨A', c', hv'⟩ := ho.opn
      rw [HM.out] at hv'
      subst hv'
      have hrow := HRW.out.below hb
      have hks : k < (hs ++ List.replicate (ls.length - k) zLn).length := by simp [HLK.out]; omega
      have hz : (hs ++ List.replicate (ls.length - k) zLn)[k]'hks = zLn := by rw [List.getElem_append_right (by rw [HLK.out]; omega)]; simp
      obtain ⟨bq, oq, eq, hbq, hcq⟩ := hrow.sl.cell (k := k) hks
      injection eq with eq
      injection eq with eq1 eq2
      subst eq1 eq2
      rw [hz] at hcq
      have y0 := hcq 0 _ rfl
      have y1 := hcq 1 _ rfl
      have y2 := hcq 2 _ rfl
      have y3 := hcq 3 _ rfl
      obtain ⟨g', c'', eg, -, -, hfr, -⟩ := hrow.form (by simp; omega)
      injection eg with eg1 eg2 eg3
      injection eg1 with eg1
      injection eg1 with eg1
      subst eg1
      have f0 := hfr (k * 4)
      have f1 := hfr (k * 4 + 1)
      have f2 := hfr (k * 4 + 2)
      have f3 := hfr (k * 4 + 3)
      simp only [show cLn.size = 4 from rfl, Nat.zero_add, Nat.add_zero] at y0 y1 y2 y3
      have HX := Lib.hid (HST.out w2 A' c' (by rw [HM.out]; exact ho) hb)
      rw [HM.out] at HX
      have hgl2 : g < w2.heap.size := by have := hb.size; omega
      clear ho hb hrow c0 c1 c2 c3 hcq hfr hks hz hbq eg2 eg3
      go_wp2
      go_roundw
      case rel => exact ⟨k + 1, by omega, by go_num, ⟨_, HX.out⟩, by simpa [World.setCell] using hgl2⟩
      case measure => simp [intOf]; omega
    · obtain rfl : k = ls.length := by omega
      have Z := Lib.hid ht.fin
      have ZB : Hid (Below w.heap.size w wr) := Lib.hid (by rw [HGE.out]; exact ht.be)
      clear ht HO
      go_wp2
      go_ret
      exact ⟨_, rfl, by rw [HGE.out]; exact Z.out, ZB.out⟩
end Go.Proofs.YtcikenffeekkeaaGreatDoor
