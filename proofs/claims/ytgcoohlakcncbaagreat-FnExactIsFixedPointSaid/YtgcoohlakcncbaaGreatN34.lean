/- Joined of several texts: 34a, 34b. -/
import Derived.Test.YtgcoohlakcncbaaGreatB6
import Derived.Test.YtgcoohlakcncbaaGreatB7
namespace Go.Proofs.YtgcoohlakcncbaaGreat
open Go.RowKit
set_option linter.unusedVariables false
set_option linter.unusedSimpArgs false
/- Contracts of substitutions, of the program and of the reference. Written by gen34a.py. -/
/-- the image of a list of nodes under a substitution -/
def subI (xs : List Nd) (ims : List (List Nd)) : List Nd := xs.flatMap fun n => if n.1 = 0 then ims.getD n.2.toNat [] else [n]
theorem subI_snoc (xs : List Nd) (n : Nd) (ims : List (List Nd)) : subI (xs ++ [n]) ims = subI xs ims ++ (if n.1 = 0 then ims.getD n.2.toNat [] else [n]) := by simp [subI]
theorem getD_len {ims : List (List Nd)} {M : Nat} (hM : ∀ x ∈ ims, x.length ≤ M) (i : Nat) : (ims.getD i []).length ≤ M := by
  rw [List.getD_eq_getElem?_getD]
  rcases Nat.lt_or_ge i ims.length with h | h
  · rw [List.getElem?_eq_getElem h]
    exact hM _ (List.getElem_mem h)
  · rw [List.getElem?_eq_none h]
    exact Nat.zero_le _
theorem subI_length (xs : List Nd) (ims : List (List Nd)) (M : Nat) (h1 : 1 ≤ M) (hM : ∀ x ∈ ims, x.length ≤ M) : (subI xs ims).length ≤ xs.length * M := by
  induction xs with
  | nil => simp [subI]
  | cons n t ih =>
    have e : subI (n :: t) ims = (if n.1 = 0 then ims.getD n.2.toNat [] else [n]) ++ subI t ims := by simp [subI]
    rw [e, List.length_append, List.length_cons, Nat.succ_mul, Nat.add_comm (t.length * M)]
    refine Nat.add_le_add ?_ ih
    split
    · exact getD_len hM _
    · simpa using h1
/-- the substitution that maps each variable to itself -/
def idTo (k : Nat) : List (List Nd) := (List.range k).map fun (i : Nat) => [(0, (i : Int))]
theorem idTo_succ (k : Nat) : idTo (k + 1) = idTo k ++ [[(0, (k : Int))]] := by simp [idTo, List.range_succ]
theorem idTo_length (k : Nat) : (idTo k).length = k := by simp [idTo]
/-- ap_one, the address spelled otherwise -/
theorem ap_one' {α : Type} {K : Cod α} {P : Program} (w : World) {ops : Array Oper} {rest : List Oper} {o : Oper} {a : Act} {Q : Exit → Act → World → Prop} {t e : TypeId} {z : Value} {bytes : Nat}
    (T : Ty P t e z K.size bytes) (hgd : o.guard = none) (s x : Operand)
    (ho : o.op = .call { callee := .builtin .append, args := #[s, x], argTypes := #[t, t] })
    {B : Nat} {v : Value} {xs : List α} (hs : a.eval s = v) (hown : Ow K e B w v xs) (y : α) {cs : Array Value} (hcs : K.cells y = cs.toList) {g : Nat} (hg : g = w.heap.size)
    (hx : a.eval x = .slice (some ⟨g, 0, none⟩) 1 1)
    (hbytes : (xs.length + 1) * bytes ≤ 140737488355328) (hbase : B ≤ w.heap.size)
    (h : ∀ v' w', Ow K e B w' v' (xs ++ [y]) → (w.alloc (.cells cs e)).grownBy w' v.ownBlock → Below B w w' → (v'.ownBlock = v.ownBlock ∨ v'.ownBlock = some (w.heap.size + 1)) → wpList P ops Q rest (a.put o.dst v') w') :
    wpList P ops Q (o :: rest) a (w.alloc (.cells cs e)) := by
  subst hg
  exact ap_one w T hgd s x ho hs hown y hcs hx hbytes hbase h
theorem Ow2.set_ {B : Nat} {w : World} {g n c : Nat} {xss : List (List Nd)} (h : Ow2 B w (.slice (some ⟨g, 0, none⟩) n c) xss) {k : Nat} (hk : k < xss.length) {A : Option Addr} {m c' : Nat} {ys : List Nd}
    (hy : Sl cN (w.setCell ⟨g, k, none⟩ (.slice A m c')) (.slice A m c') ys) : Sl2 cN (w.setCell ⟨g, k, none⟩ (.slice A m c')) (.slice (some ⟨g, 0, none⟩) n c) (xss.set k ys) := by
  obtain ⟨hs, h1, h2, h3⟩ := h
  have hset := h1.set1 (j := k) (x := (⟨A, m, c'⟩ : Hd)) (u := .slice A m c') rfl rfl (by omega)
  refine ⟨hs.set k ⟨A, m, c'⟩, hset.sl, by simp [h2], fun i a b => ?_⟩
  rw [List.getElem_set, List.getElem_set]
  by_cases hik : k = i
  · rw [if_pos hik, if_pos hik]
    exact hy
  · rw [if_neg hik, if_neg hik]
    have a' : i < hs.length := by simpa using a
    have b' : i < xss.length := by simpa using b
    obtain ⟨q1, q2⟩ := h3 i a' b'
    refine q1.grown (grown_set (World.grownBy.refl w (some g)) rfl k _) ?_
    rcases q2 with q | ⟨q, _⟩
    · exact .inl q
    · exact .inr q
theorem Ow2.cell_ {B : Nat} {w : World} {g n c : Nat} {xss : List (List Nd)} (h : Ow2 B w (.slice (some ⟨g, 0, none⟩) n c) xss) {k : Nat} (hk : k < xss.length) :
    (∃ old, w.cell? ⟨g, k, none⟩ = some old) ∧ w.frozen? ⟨g, k, none⟩ = false ∧ B ≤ g ∧ g < w.heap.size := by
  obtain ⟨hs, h1, h2, h3⟩ := h
  obtain ⟨q1, q2, q3, q4⟩ := h1.at1 rfl (j := k) (by omega) rfl
  exact ⟨⟨_, q1⟩, q2, q3, q4⟩
theorem Ow2.form_ {B : Nat} {w : World} {v : Value} {xss : List (List Nd)} (h : Ow2 B w v xss) (hn : 0 < xss.length) : ∃ g c, v = .slice (some ⟨g, 0, none⟩) xss.length c ∧ B ≤ g ∧ g < w.heap.size := by
  obtain ⟨hs, h1, h2, h3⟩ := h
  obtain ⟨g, c, hv, q1, q2, _⟩ := h1.form (by omega)
  exact ⟨g, c, by rw [hv, h2], q1, q2⟩
theorem impl_var (x : Int) (w : World) :
    Calls Tryz.prog 75 #[.int .i64 x] w fun e w' => ∃ u, e = .returned u ∧ Ow cN 82 w.heap.size w' u [(0, x)] ∧ Below w.heap.size w w' := by
  go_enter Tryz.func75, Tryz.ntmps75
  go_wp2
  go_ret
  exact ⟨_, rfl, Ow.lit [(0, x)] rfl rfl (Nat.le_refl _), (Below.refl _ _).alloc (Nat.le_refl _) _⟩
theorem spec_var (x : Int) (w : World) :
    Calls Tryz.prog 82 #[.int .i64 x] w fun e w' => ∃ u, e = .returned u ∧ Ow cN 82 w.heap.size w' u [(0, x)] ∧ Below w.heap.size w w' := by
  go_enter Tryz.func82, Tryz.ntmps82
  go_wp2
  go_ret
  exact ⟨_, rfl, Ow.lit [(0, x)] rfl rfl (Nat.le_refl _), (Below.refl _ _).alloc (Nat.le_refl _) _⟩
theorem impl_identity (w : World) :
    Calls Tryz.prog 207 #[] w fun e w' => ∃ u, e = .returned u ∧ Ow2 w.heap.size w' u (idTo 6) ∧ Below w.heap.size w w' := by
  go_enter Tryz.func207, Tryz.ntmps207
  go_wp2
  go_loopw [1, 3] (fun v i wr => ∃ k : Nat, k ≤ 6 ∧ i = .int .i64 k ∧ Ow2 w.heap.size wr v (idTo k) ∧ Below w.heap.size w wr) (fun _ i _ => 6 - (intOf i).toNat)
  case atStart => exact ⟨0, by omega, rfl, Ow2.nil _ _, Below.refl _ _⟩
  case round =>
    obtain ⟨k, hk, rfl, ho, hb⟩ := hrel
    have HO := Lib.hid ho; have HW := Lib.hid hb
    clear ho hb
    by_cases hlt : k < 6
    · have HF := Lib.hid (idTo_succ k)
      go_wp2_with fail
      refine (impl_var k _).mono ?_
      rintro e w2 ⟨u, rfl, ho, hb⟩
      have X1 := Lib.hid (HO.out.below hb)
      have X4 := Lib.hid (bthen HW.out hb)
      have HU := Lib.hid ho
      have hz := X4.out.size
      clear ho hb
      obtain ⟨A2, c2, rfl⟩ := HU.out.opn
      obtain ⟨hs, g1, g2, g3⟩ := Ow2.push X1.out HU.out (by
        obtain ⟨hs, q1, _, _⟩ := HO.out
        exact fun k hk => (q1.block k hk).2)
      have hlen : hs.length ≤ 6 := by rw [g2, idTo_length]; omega
      have G1 := Lib.hid g1; have G3 := Lib.hid g3
      clear g1 g3 g2
      have G2 := Lib.hid hlen; clear hlen
      simp only [List.length_cons, List.length_nil, Nat.zero_add] at G3 HU ⊢
      go_wp2_with (at_builtin; refine stopHere ?_)
      refine goHere ?_
      refine ap_one (K := cH) _ ty_nodes rfl _ _ rfl (B := w.heap.size) (xs := hs) rfl G1.out (⟨A2, 1, c2⟩ : Hd) rfl rfl (by have := G2.out; omega) ?_ ?_
      · omega
      intro v1 w5 ho1 hg1 hb1 hat1
      have Y1 := Lib.hid (G3.out _ _ ho1 hg1 (hat1.imp id fun e => by rw [e]; simp))
      have Y4 := Lib.hid (X4.out.trans (hb1.mono (by omega)))
      clear ho1 hg1 hb1 hat1
      go_wp2
      go_roundw
      case rel => exact ⟨k + 1, by omega, by go_num, by rw [HF.out]; exact Y1.out, Y4.out⟩
      case measure => simp [intOf]; omega
    · obtain rfl : k = 6 := by omega
      go_wp2
      go_ret
      exact ⟨_, rfl, HO.out, HW.out⟩
theorem spec_identity (w : World) :
    Calls Tryz.prog 126 #[] w fun e w' => ∃ u, e = .returned u ∧ Ow2 w.heap.size w' u (idTo 6) ∧ Below w.heap.size w w' := by
  go_enter Tryz.func126, Tryz.ntmps126
  go_wp2
  go_loopw [1, 2] (fun v i wr => ∃ k : Nat, k ≤ 6 ∧ i = .int .i64 k ∧ Ow2 w.heap.size wr v (idTo k) ∧ Below w.heap.size w wr) (fun _ i _ => 6 - (intOf i).toNat)
  case atStart => exact ⟨0, by omega, rfl, Ow2.lit w.heap.size w.heap.size w rfl (Nat.le_refl _), (Below.refl _ _).alloc (Nat.le_refl _) _⟩
  case round =>
    obtain ⟨k, hk, rfl, ho, hb⟩ := hrel
    have HO := Lib.hid ho; have HW := Lib.hid hb
    clear ho hb
    by_cases hlt : k < 6
    · have HF := Lib.hid (idTo_succ k)
      go_wp2_with fail
      refine (spec_var k _).mono ?_
      rintro e w2 ⟨u, rfl, ho, hb⟩
      have X1 := Lib.hid (HO.out.below hb)
      have X4 := Lib.hid (bthen HW.out hb)
      have HU := Lib.hid ho
      have hz := X4.out.size
      clear ho hb
      obtain ⟨A2, c2, rfl⟩ := HU.out.opn
      obtain ⟨hs, g1, g2, g3⟩ := Ow2.push X1.out HU.out (by
        obtain ⟨hs, q1, _, _⟩ := HO.out
        exact fun k hk => (q1.block k hk).2)
      have hlen : hs.length ≤ 6 := by rw [g2, idTo_length]; omega
      have G1 := Lib.hid g1; have G3 := Lib.hid g3
      clear g1 g3 g2
      have G2 := Lib.hid hlen; clear hlen
      simp only [List.length_cons, List.length_nil, Nat.zero_add] at G3 HU ⊢
      go_wp2_with (at_builtin; refine stopHere ?_)
      refine goHere ?_
      refine ap_one (K := cH) _ ty_nodes rfl _ _ rfl (B := w.heap.size) (xs := hs) rfl G1.out (⟨A2, 1, c2⟩ : Hd) rfl rfl (by have := G2.out; omega) ?_ ?_
      · omega
      intro v1 w5 ho1 hg1 hb1 hat1
      have Y1 := Lib.hid (G3.out _ _ ho1 hg1 (hat1.imp id fun e => by rw [e]; simp))
      have Y4 := Lib.hid (X4.out.trans (hb1.mono (by omega)))
      clear ho1 hg1 hb1 hat1
      go_wp2
      go_roundw
      case rel => exact ⟨k + 1, by omega, by go_num, by rw [HF.out]; exact Y1.out, Y4.out⟩
      case measure => simp [intOf]; omega
    · obtain rfl : k = 6 := by omega
      go_wp2
      go_ret
      exact ⟨_, rfl, HO.out, HW.out⟩
theorem impl_sub (v u : Value) (xs : List Nd) (ims : List (List Nd)) (w : World) (h : Sl cN w v xs) (hi : Sl2 cN w u ims) (B : Nat) (hB : B < w.heap.size) (hc : w.cell? ⟨B, 0, none⟩ = some u) (hn : ∀ n ∈ xs, n.1 = 0 → 0 ≤ n.2 ∧ n.2 < ims.length) (hl : xs.length ≤ 4096) (hM : ∀ x ∈ ims, x.length ≤ 4096) :
    Calls Tryz.prog 244 #[v, .pointer (some ⟨B, 0, none⟩)] w fun e w' => ∃ r, e = .returned r ∧ Ow cN 82 w.heap.size w' r (subI xs ims) ∧ Below w.heap.size w w' := by
  obtain ⟨A, c, rfl⟩ := h.opn
  obtain ⟨A0, c0, rfl⟩ := hi.opn
  have HN := Lib.hid hn
  have HM := Lib.hid hM
  clear hn hM
  go_enter Tryz.func244, Tryz.ntmps244
  go_wp2
  go_loopw [4, 9] (fun o i wr => ∃ j : Nat, j ≤ xs.length ∧ i = .int .i64 j ∧ Ow cN 82 w.heap.size wr o (subI (xs.take j) ims) ∧ Below w.heap.size w wr) (fun _ i _ => xs.length - (intOf i).toNat)
  case atStart => exact ⟨0, Nat.zero_le _, rfl, Ow.nil _ _, Below.refl _ _⟩
  case round =>
    obtain ⟨j, hj, rfl, ho, hb⟩ := hrel
    have hlen := subI_length (xs.take j) ims 4096 (by omega) HM.out
    rw [List.length_take, Nat.min_eq_left hj] at hlen
    have HO := Lib.hid ho; have HW := Lib.hid hb
    have hz := hb.size
    by_cases hlt : j < xs.length
    · obtain ⟨b, o, rfl, hbl, hc0, hc1⟩ := (h.below hb).atN hlt
      have HS : Hid (subI (xs.take (j + 1)) ims = subI (xs.take j) ims ++ (if xs[j].1 = 0 then ims.getD xs[j].2.toNat [] else [xs[j]])) := by
        show _ = _
        rw [List.take_succ_eq_append_getElem hlt, subI_snoc]
      have hm := HN.out xs[j] (List.getElem_mem hlt)
      generalize hx : xs[j] = x at *
      obtain ⟨x1, x2⟩ := x
      simp only at hc0 hc1 hm HS
      clear hx
      by_cases hk : x1 = 0
      · subst hk
        obtain ⟨h1, h2⟩ := hm rfl
        obtain ⟨k, rfl⟩ := Int.eq_ofNat_of_zero_le h1
        have hk2 : k < ims.length := by omega
        obtain ⟨b2, o2, Ai, ni, ci, rfl, hb2, hci, hsi⟩ := (hi.below hb).at_ hk2
        have hgd : ims.getD k [] = ims[k] := by rw [List.getD_eq_getElem?_getD, List.getElem?_eq_getElem hk2]; rfl
        rw [if_pos rfl, Int.toNat_natCast, hgd] at HS
        have hil : ims[k].length ≤ 4096 := HM.out _ (List.getElem_mem hk2)
        generalize ims[k] = im at *
        have HSI := Lib.hid hsi
        have hcb := (hb.cell (p := ⟨B, 0, none⟩) hB).trans hc
        have hBr : B < wr.heap.size := by omega
        clear ho hb hsi hm hgd h1 h2
        go_wp2_with (at_builtin; refine stopHere ?_)
        refine goHere ?_
        refine ap_sl (K := cN) _ ty_node rfl _ _ rfl rfl rfl (B := w.heap.size) (xs := subI (xs.take j) ims) (news := im) (HO.out.alloc _) (HSI.out.alloc _) (by omega) (by simp <;> omega) ?_
        intro v1 w1 ho1 hg1 hb1 hat1
        have O1 := Lib.hid ho1
        have HB1 : Hid (Below w.heap.size w w1) := Lib.hid ((HW.out.alloc hz _).trans hb1)
        clear ho1 hg1 hb1 hat1
        go_wp2
        go_roundw
        case rel => exact ⟨j + 1, by omega, by go_num, by rw [HS.out]; exact O1.out, HB1.out⟩
        case measure => simp [intOf]; omega
      · rw [if_neg hk] at HS
        have hk' : (x1 == 0) = false := by rw [beq_eq_false_iff_ne]; exact hk
        clear ho hb hm hk
        go_wp2_with (at_builtin; refine stopHere ?_)
        refine goHere ?_
        refine ap_one' (K := cN) _ ty_node rfl _ _ rfl (B := w.heap.size) (xs := subI (xs.take j) ims) rfl (HO.out.alloc _) (x1, x2) rfl (g := wr.heap.size + 1) (by simp) rfl (by omega) (by simp <;> omega) ?_
        intro v1 w1 ho1 hg1 hb1 hat1
        have O1 := Lib.hid ho1
        have HB1 : Hid (Below w.heap.size w w1) := Lib.hid ((HW.out.alloc hz _).trans hb1)
        clear ho1 hg1 hb1 hat1
        go_wp2
        go_roundw
        case rel => exact ⟨j + 1, by omega, by go_num, by rw [HS.out]; exact O1.out, HB1.out⟩
        case measure => simp [intOf]; omega
    · have hE : xs.take j = xs := List.take_of_length_le (by omega)
      rw [hE] at HO
      clear ho hb hE
      go_wp2
      go_ret
      exact ⟨_, rfl, HO.out, HW.out⟩
theorem spec_sub (v u : Value) (xs : List Nd) (ims : List (List Nd)) (w : World) (h : Sl cN w v xs) (hi : Sl2 cN w u ims) (hn : ∀ n ∈ xs, n.1 = 0 → 0 ≤ n.2 ∧ n.2 < ims.length) (hl : xs.length ≤ 4096) (hM : ∀ x ∈ ims, x.length ≤ 4096) :
    Calls Tryz.prog 56 #[v, u] w fun e w' => ∃ r, e = .returned r ∧ Ow cN 82 w.heap.size w' r (subI xs ims) ∧ Below w.heap.size w w' := by
  obtain ⟨A, c, rfl⟩ := h.opn
  obtain ⟨A0, c0, rfl⟩ := hi.opn
  have HN := Lib.hid hn
  have HM := Lib.hid hM
  clear hn hM
  go_enter Tryz.func56, Tryz.ntmps56
  go_wp2
  go_loopw [5, 6] (fun o i wr => ∃ j : Nat, j ≤ xs.length ∧ i = .int .i64 j ∧ Ow cN 82 w.heap.size wr o (subI (xs.take j) ims) ∧ Below w.heap.size w wr) (fun _ i _ => xs.length - (intOf i).toNat)
  case atStart => exact ⟨0, Nat.zero_le _, rfl, Ow.lit [] rfl rfl (Nat.le_refl _), (Below.refl _ _).alloc (Nat.le_refl _) _⟩
  case round =>
    obtain ⟨j, hj, rfl, ho, hb⟩ := hrel
    have hlen := subI_length (xs.take j) ims 4096 (by omega) HM.out
    rw [List.length_take, Nat.min_eq_left hj] at hlen
    have HO := Lib.hid ho; have HW := Lib.hid hb
    have hz := hb.size
    by_cases hlt : j < xs.length
    · obtain ⟨b, o, rfl, hbl, hc0, hc1⟩ := (h.below hb).atN hlt
      have HS : Hid (subI (xs.take (j + 1)) ims = subI (xs.take j) ims ++ (if xs[j].1 = 0 then ims.getD xs[j].2.toNat [] else [xs[j]])) := by
        show _ = _
        rw [List.take_succ_eq_append_getElem hlt, subI_snoc]
      have hm := HN.out xs[j] (List.getElem_mem hlt)
      generalize hx : xs[j] = x at *
      obtain ⟨x1, x2⟩ := x
      simp only at hc0 hc1 hm HS
      clear hx
      by_cases hk : x1 = 0
      · subst hk
        obtain ⟨h1, h2⟩ := hm rfl
        obtain ⟨k, rfl⟩ := Int.eq_ofNat_of_zero_le h1
        have hk2 : k < ims.length := by omega
        obtain ⟨b2, o2, Ai, ni, ci, rfl, hb2, hci, hsi⟩ := (hi.below hb).at_ hk2
        have hgd : ims.getD k [] = ims[k] := by rw [List.getD_eq_getElem?_getD, List.getElem?_eq_getElem hk2]; rfl
        rw [if_pos rfl, Int.toNat_natCast, hgd] at HS
        have hil : ims[k].length ≤ 4096 := HM.out _ (List.getElem_mem hk2)
        generalize ims[k] = im at *
        have HSI := Lib.hid hsi
        clear ho hb hsi hm hgd h1 h2
        go_wp2_with (at_builtin; refine stopHere ?_)
        refine goHere ?_
        refine ap_sl (K := cN) _ ty_node rfl _ _ rfl rfl rfl (B := w.heap.size) (xs := subI (xs.take j) ims) (news := im) HO.out HSI.out (by omega) (by omega) ?_
        intro v1 w1 ho1 hg1 hb1 hat1
        have O1 := Lib.hid ho1
        have HB1 : Hid (Below w.heap.size w w1) := Lib.hid (HW.out.trans hb1)
        clear ho1 hg1 hb1 hat1
        go_wp2
        go_roundw
        case rel => exact ⟨j + 1, by omega, by go_num, by rw [HS.out]; exact O1.out, HB1.out⟩
        case measure => simp [intOf]; omega
      · rw [if_neg hk] at HS
        have hk' : (x1 == 0) = false := by rw [beq_eq_false_iff_ne]; exact hk
        clear ho hb hm hk
        go_wp2_with (at_builtin; refine stopHere ?_)
        refine goHere ?_
        refine ap_one' (K := cN) _ ty_node rfl _ _ rfl (B := w.heap.size) (xs := subI (xs.take j) ims) rfl HO.out (x1, x2) rfl (g := wr.heap.size) rfl rfl (by omega) (by omega) ?_
        intro v1 w1 ho1 hg1 hb1 hat1
        have O1 := Lib.hid ho1
        have HB1 : Hid (Below w.heap.size w w1) := Lib.hid (HW.out.trans hb1)
        clear ho1 hg1 hb1 hat1
        go_wp2
        go_roundw
        case rel => exact ⟨j + 1, by omega, by go_num, by rw [HS.out]; exact O1.out, HB1.out⟩
        case measure => simp [intOf]; omega
    · have hE : xs.take j = xs := List.take_of_length_le (by omega)
      rw [hE] at HO
      clear ho hb hE
      go_wp2
      go_ret
      exact ⟨_, rfl, HO.out, HW.out⟩
theorem impl_bind (s : Nat) (v : Value) (ys : List Nd) (w : World) (h : Sl cN w v ys) (hl : ys.length ≤ 1048576) (hs : s ≤ 5) :
    Calls Tryz.prog 134 #[.int .i64 s, v] w fun e w' => ∃ r, e = .returned r ∧ Sl2 cN w' r ((idTo 6).set s ys) ∧ Below w.heap.size w w' := by
  obtain ⟨A, c, rfl⟩ := h.opn
  have Hh := Lib.hid h
  clear h
  go_enter Tryz.func134, Tryz.ntmps134
  go_wp2_with fail
  refine (impl_identity _).mono ?_
  rintro e w1 ⟨u, rfl, ho, hb⟩
  obtain ⟨g, c1, rfl, hg, hg2⟩ := ho.form_ (by rw [idTo_length]; omega)
  rw [idTo_length] at ho ⊢
  obtain ⟨⟨old, hc1⟩, hf1, -, -⟩ := ho.cell_ (k := s) (by rw [idTo_length]; omega)
  have hb2 := hb.setCell (p := ⟨g, s, none⟩) hg (.slice A ys.length c)
  have HS := Lib.hid (ho.set_ (k := s) (by rw [idTo_length]; omega) (Hh.out.below hb2))
  have HB2 := Lib.hid hb2
  clear ho hb hb2
  go_wp2
  go_ret
  exact ⟨_, rfl, HS.out, HB2.out⟩
theorem spec_bind (s : Nat) (v : Value) (ys : List Nd) (w : World) (h : Sl cN w v ys) (hl : ys.length ≤ 1048576) (hs : s ≤ 5) :
    Calls Tryz.prog 57 #[.int .i64 s, v] w fun e w' => ∃ r, e = .returned r ∧ Sl2 cN w' r ((idTo 6).set s ys) ∧ Below w.heap.size w w' := by
  obtain ⟨A, c, rfl⟩ := h.opn
  have Hh := Lib.hid h
  clear h
  go_enter Tryz.func57, Tryz.ntmps57
  go_wp2_with fail
  refine (spec_identity _).mono ?_
  rintro e w1 ⟨u, rfl, ho, hb⟩
  obtain ⟨g, c1, rfl, hg, hg2⟩ := ho.form_ (by rw [idTo_length]; omega)
  rw [idTo_length] at ho ⊢
  have HO := Lib.hid ho
  have HB := Lib.hid hb
  clear ho hb
  go_wp2_with fail
  refine (spec_l02Own _ _ _ (Hh.out.below HB.out) hl).mono ?_
  rintro e w2 ⟨u, rfl, hu, hb2⟩
  obtain ⟨A2, c2, rfl⟩ := hu.opn
  have ho := HO.out.below hb2
  have hb := bthen HB.out hb2
  have hg3 := Nat.lt_of_lt_of_le hg2 hb2.size
  obtain ⟨⟨old, hc1⟩, hf1, -, -⟩ := ho.cell_ (k := s) (by rw [idTo_length]; omega)
  have hy : Sl cN (w2.setCell ⟨g, s, none⟩ (.slice A2 ys.length c2)) (.slice A2 ys.length c2) ys := (hu.far (p := ⟨g, s, none⟩) (fun e => by have := (hu.block g e).1; omega) _).sl
  have HS := Lib.hid (ho.set_ (k := s) (by rw [idTo_length]; omega) hy)
  have HB2 := Lib.hid (hb.setCell (p := ⟨g, s, none⟩) hg (.slice A2 ys.length c2))
  clear ho hb hy hu hb2
  go_wp2
  go_ret
  exact ⟨_, rfl, HS.out, HB2.out⟩
theorem en_withImages_1 : ∀ (args : Array Value) (w : World), (callFunc 244 args).run Tryz.prog w = .ok (.enter 244 args) w := enters Tryz.func244 (by kernel_rfl) (by kernel_rfl)
theorem impl_withImages (A : Option Addr) (n c : Nat) (u : Value) (hu : u = .slice A n c) (w : World) :
    Calls Tryz.prog 206 #[u] w fun e w' => e = .returned (.func (.func 244) #[] #[.pointer (some ⟨w.heap.size, 0, none⟩)]) ∧ w' = w.alloc (.cells #[u] 46) := by
  subst hu
  go_enter Tryz.func206, Tryz.ntmps206
  go_wp2
  go_ret
  exact ⟨rfl, rfl⟩
theorem impl_substitute (v u : Value) (xs : List Nd) (ims : List (List Nd)) (w : World) (h : Sl cN w v xs) (hi : Sl2 cN w u ims) (hn : ∀ n ∈ xs, n.1 = 0 → 0 ≤ n.2 ∧ n.2 < ims.length) (hl : xs.length ≤ 4096) (hM : ∀ x ∈ ims, x.length ≤ 4096) :
    Calls Tryz.prog 133 #[v, u] w fun e w' => ∃ r, e = .returned r ∧ Ow cN 82 w.heap.size w' r (subI xs ims) ∧ Below w.heap.size w w' := by
  have hb0 := below_alloc' w (.cells #[u] 46)
  have HC := Lib.hid (impl_sub v u xs ims (w.alloc (.cells #[u] 46)) (h.below hb0) (hi.below hb0) w.heap.size (by simp) ((Bk.new w #[u] 46).2 0) hn hl hM)
  have HB0 := Lib.hid hb0
  have hk := en_withImages_1
  obtain ⟨A0, c0, rfl⟩ := hi.opn
  clear h hi hn hM hb0
  go_enter Tryz.func133, Tryz.ntmps133
  go_wp2_with fail
  refine (impl_withImages A0 _ c0 _ rfl _).mono ?_
  rintro e w1 ⟨rfl, rfl⟩
  go_wp2_with fail
  refine HC.out.mono ?_
  rintro e w2 ⟨r, rfl, ho, hb⟩
  have O : Hid (Ow cN 82 w.heap.size w2 r (subI xs ims)) := Lib.hid (ho.mono (by simp))
  have HB := Lib.hid (HB0.out.trans (hb.mono (by simp)))
  clear ho hb
  go_wp2
  go_ret
  exact ⟨_, rfl, O.out, HB.out⟩
/-- a formula with a variable replaced -/
def repL (xs : List Nd) (s : Nat) (ys : List Nd) : List Nd := subI xs ((idTo 6).set s ys)
theorem repL_ims (s : Nat) (ys : List Nd) (M : Nat) (h1 : 1 ≤ M) (hy : ys.length ≤ M) : ∀ x ∈ (idTo 6).set s ys, x.length ≤ M := by
  intro x hx
  rcases List.mem_or_eq_of_mem_set hx with h | h
  · simp only [idTo, List.mem_map] at h
    obtain ⟨i, _, rfl⟩ := h
    simpa using h1
  · rw [h]; exact hy
theorem repL_length (xs : List Nd) (s : Nat) (ys : List Nd) (M : Nat) (h1 : 1 ≤ M) (hy : ys.length ≤ M) : (repL xs s ys).length ≤ xs.length * M := subI_length _ _ _ h1 (repL_ims s ys M h1 hy)
theorem node_ims {xs : List Nd} (h : ∀ n ∈ xs, isNd n = true) (s : Nat) (ys : List Nd) : ∀ n ∈ xs, n.1 = 0 → 0 ≤ n.2 ∧ n.2 < ((idTo 6).set s ys).length := by
  intro n hn hz
  have := h n hn
  rw [List.length_set, idTo_length]
  simp [isNd, hz, inR] at this
  omega
theorem impl_replaceVariable (v u : Value) (xs ys : List Nd) (s : Nat) (w : World) (h : Sl cN w v xs) (h' : Sl cN w u ys) (hn : ∀ n ∈ xs, isNd n = true) (hl : xs.length ≤ 4096) (hl' : ys.length ≤ 4096) (hs : s ≤ 5) :
    Calls Tryz.prog 63 #[v, .int .i64 s, u] w fun e w' => ∃ r, e = .returned r ∧ Ow cN 82 w.heap.size w' r (repL xs s ys) ∧ Below w.heap.size w w' := by
  have HN := Lib.hid (node_ims hn s ys)
  have HI := Lib.hid (repL_ims s ys 4096 (by omega) hl')
  have Hh := Lib.hid h
  have HB := Lib.hid (impl_bind s u ys w h' (by omega) hs)
  clear hn h h'
  go_enter Tryz.func63, Tryz.ntmps63
  go_wp2_with fail
  refine HB.out.mono ?_
  rintro e w1 ⟨r, rfl, hi, hb⟩
  have HS := Lib.hid hi
  have HB1 := Lib.hid hb
  clear hi hb
  go_wp2_with fail
  refine (impl_substitute _ _ xs _ _ (Hh.out.below HB1.out) HS.out HN.out hl HI.out).mono ?_
  rintro e w2 ⟨r, rfl, ho, hb⟩
  have O : Hid (Ow cN 82 w.heap.size w2 r (repL xs s ys)) := Lib.hid (ho.mono HB1.out.size)
  have HB2 := Lib.hid (bthen HB1.out hb)
  clear ho hb
  go_wp2
  go_ret
  exact ⟨_, rfl, O.out, HB2.out⟩
/- Contracts of UniquenessFormula, of the program and of the reference. -/
theorem vmask_bit (xs : List Nd) (n : Nat) : (vmask xs).testBit n = xs.any fun x => x.1 == 0 && x.2.toNat == n := by
  have key : ∀ (xs : List Nd) (m : Nat), (xs.foldl (fun m n => if n.1 = 0 then m ||| 2 ^ n.2.toNat else m) m).testBit n = (m.testBit n || xs.any fun x => x.1 == 0 && x.2.toNat == n) := by
    intro xs
    induction xs with
    | nil => intro m; simp
    | cons x t ih =>
      intro m
      rw [List.foldl_cons, ih, List.any_cons]
      by_cases hx : x.1 = 0
      · rw [if_pos hx, Nat.testBit_or, Nat.testBit_two_pow]
        have e1 : (x.1 == 0) = true := by simp [hx]
        rw [e1, Bool.true_and, Bool.or_assoc]
        congr 2
      · rw [if_neg hx]
        have e1 : (x.1 == 0) = false := by simp [hx]
        rw [e1, Bool.false_and, Bool.false_or]
  have := key xs 0
  simpa [vmask] using this
/-- does a node of a variable occur? -/
def occ (xs : List Nd) (t : Int) : Bool := xs.any fun x => x.1 == 0 && x.2 == t
theorem occ_bit (xs : List Nd) (n : Nat) (h : ∀ x ∈ xs, isNd x = true) : occ xs n = (vmask xs).testBit n := by
  rw [vmask_bit]
  unfold occ
  induction xs with
  | nil => rfl
  | cons x t ih =>
    have key : (x.1 == 0 && x.2 == (n : Int)) = (x.1 == 0 && x.2.toNat == n) := by
      by_cases hx : x.1 = 0
      · have := h x List.mem_cons_self
        simp [isNd, hx, inR] at this
        rw [Bool.eq_iff_iff]
        simp [hx]
        omega
      · rw [show (x.1 == 0) = false from beq_eq_false_iff_ne.2 hx]
        rfl
    rw [List.any_cons, List.any_cons, ih fun y hy => h y (List.mem_cons_of_mem _ hy), key]
/-- the formula that says that two formulas imply each other -/
def eqL (v a : List Nd) : List Nd := [(2, 0)] ++ ([(4, 0)] ++ v ++ a) ++ ([(4, 0)] ++ a ++ v)
def unE (a : List Nd) (s : Nat) : List Nd := eqL [(0, (s : Int))] a
def unG (a : List Nd) (s t : Nat) : List Nd := repL (unE a s) s [(0, (t : Int))]
def unL (a : List Nd) (s t : Nat) : List Nd := [(4, 0)] ++ ((5, 0) :: ([(2, 0)] ++ unE a s ++ unG a s t)) ++ ((5, 0) :: ([(4, 0)] ++ [(0, (s : Int))] ++ [(0, (t : Int))]))
theorem unE_length (a : List Nd) (s : Nat) (h : a.length ≤ 40) : (unE a s).length ≤ 90 := by simp [unE, eqL]; omega
theorem unG_length (a : List Nd) (s t : Nat) (h : a.length ≤ 40) : (unG a s t).length ≤ 90 := by
  have h1 := repL_length (unE a s) s [(0, (t : Int))] 1 (by omega) (by simp)
  have h2 := unE_length a s h
  unfold unG
  omega
theorem unE_nodes (f : Fm) (s : Nat) (hok : f.ok = true) (hs : s ≤ 5) : ∀ n ∈ unE (enc f) s, isNd n = true := by
  have := enc_nodes (.bin .and (.bin .imp (.var s) f) (.bin .imp f (.var s))) (by simp [Fm.ok, hok, hs])
  simpa [enc, unE, eqL, BK.i] using this
theorem Sl2.two' {α : Type} {K : Cod α} {w : World} {A B : Option Addr} {n c m d : Nat} {xs ys : List α} (h : Sl K w (.slice A n c) xs) (h' : Sl K w (.slice B m d) ys) (e : TypeId) (g : Nat) (hg : g = w.heap.size) :
    Sl2 K (w.alloc (.cells #[.slice A n c, .slice B m d] e)) (.slice (some ⟨g, 0, none⟩) 2 2) [xs, ys] := by subst hg; exact Sl2.two h h' e
theorem impl_prefix (k : Int) (u : Value) (ys : List Nd) (w : World) (h' : Sl cN w u ys) (hl' : ys.length ≤ 262144) :
    Calls Tryz.prog 144 #[.int .i64 k, u] w fun e w' => ∃ r, e = .returned r ∧ Ow cN 82 w.heap.size w' r ((k, 0) :: ys) ∧ Below w.heap.size w w' := by
  obtain ⟨B, d, rfl⟩ := h'.opn
  have hs := Sl2.two' ((Ow.lit (K := cN) (e := 82) (B := w.heap.size) [(k, 0)] (cs := #[.int .i64 k, .int .i64 0]) (n := 1) rfl rfl (Nat.le_refl _)).sl) (h'.alloc (.cells #[.int .i64 k, .int .i64 0] 82)) 26 (w.heap.size + 1) (by simp)
  have H := Lib.hid (slices_Concat_nodes _ _ _ hs (by simp) (by simp <;> omega))
  clear h' hs
  go_enter Tryz.func144, Tryz.ntmps144
  go_wp2_with fail
  refine H.out.mono ?_
  rintro e w1 ⟨r, rfl, ho, hb⟩
  have HB : Hid (Below w.heap.size w w1) := Lib.hid ((((Below.refl _ _).alloc (Nat.le_refl _) _).alloc (by simp) _).trans (hb.mono (by simp <;> omega)))
  have O : Hid (Ow cN 82 w.heap.size w1 r ((k, 0) :: ys)) := Lib.hid (by have := ho.mono (B' := w.heap.size) (by simp <;> omega); simpa using this)
  clear ho hb
  go_wp2
  go_ret
  exact ⟨_, rfl, O.out, HB.out⟩
theorem impl_boxed (u : Value) (ys : List Nd) (w : World) (h' : Sl cN w u ys) (hl' : ys.length ≤ 262144) :
    Calls Tryz.prog 78 #[u] w fun e w' => ∃ r, e = .returned r ∧ Ow cN 82 w.heap.size w' r ((5, 0) :: ys) ∧ Below w.heap.size w w' := by
  have H := Lib.hid (impl_prefix 5 u ys w h' hl')
  clear h'
  go_enter Tryz.func78, Tryz.ntmps78
  go_wp2_with fail
  refine H.out.mono ?_
  rintro e w1 ⟨r, rfl, ho, hb⟩
  have O := Lib.hid ho
  have HB := Lib.hid hb
  clear ho hb
  go_wp2
  go_ret
  exact ⟨_, rfl, O.out, HB.out⟩
/-- the two states of the loop of arrow at two formulas -/
def ArS (w : World) (xs ys : List Nd) (o i : Value) (wr : World) : Prop :=
  (i = .int .i64 0 ∧ Sl cN w o ys ∧ wr = w) ∨ (i = .int .i64 (-1) ∧ Ow cN 82 w.heap.size wr o ([(4, 0)] ++ xs ++ ys) ∧ Below w.heap.size w wr)
theorem impl_arrow2 (v : Value) (xs ys : List Nd) (w : World) (h : Sl2 cN w v [xs, ys]) (hl : xs.length ≤ 262144) (hl' : ys.length ≤ 262144) :
    Calls Tryz.prog 77 #[v] w fun e w' => ∃ r, e = .returned r ∧ Ow cN 82 w.heap.size w' r ([(4, 0)] ++ xs ++ ys) ∧ Below w.heap.size w w' := by
  obtain ⟨A, c, rfl⟩ := h.opn
  obtain ⟨b, o, A0, n0, c0, rfl, hb, hc0, hs0⟩ := h.at_ (k := 0) (by simp)
  obtain ⟨b', o', A1, n1, c1, hA, hb', hc1, hs1⟩ := h.at_ (k := 1) (by simp)
  injection hA with hA
  injection hA with h1 h2 _
  subst h1
  subst h2
  simp only [List.getElem_cons_zero, List.getElem_cons_succ, Nat.add_zero, List.length_cons, List.length_nil, Nat.zero_add] at hc0 hc1 hs0 hs1 ⊢
  have S0 := Lib.hid hs0
  have S1 := Lib.hid hs1
  clear h hs0 hs1
  go_enter Tryz.func77, Tryz.ntmps77
  go_wp2
  go_loopw [3, 4] (fun o i wr => ArS w xs ys o i wr) (fun _ i _ => (intOf i + 1).toNat)
  case atStart => exact .inl ⟨rfl, S1.out, rfl⟩
  case round =>
    rcases hrel with ⟨rfl, hs, rfl⟩ | ⟨rfl, ho, hb⟩
    · have HS := Lib.hid hs
      clear hs
      go_wp2_with fail
      refine (impl_join 4 _ _ _ _ _ S0.out HS.out hl hl').mono ?_
      rintro e w1 ⟨r, rfl, ho, hb1⟩
      have O := Lib.hid ho
      have HB := Lib.hid hb1
      clear ho hb1
      go_wp2
      go_roundw
      case rel => exact .inr ⟨rfl, O.out, HB.out⟩
      case measure => simp [intOf]
    · have O := Lib.hid ho
      have HB := Lib.hid hb
      clear ho hb
      go_wp2
      go_ret
      exact ⟨_, rfl, O.out, HB.out⟩
/-- arrow at two formulas laid as a list -/
theorem impl_arrow_of {A B : Option Addr} {n c m d : Nat} (xs ys : List Nd) (w : World) (h : Sl cN w (.slice A n c) xs) (h' : Sl cN w (.slice B m d) ys) (hl : xs.length ≤ 262144) (hl' : ys.length ≤ 262144) (g : Nat) (hg : g = w.heap.size) :
    Calls Tryz.prog 77 #[.slice (some ⟨g, 0, none⟩) 2 2] (w.alloc (.cells #[.slice A n c, .slice B m d] 26)) fun e w' => ∃ r, e = .returned r ∧ Ow cN 82 w.heap.size w' r ([(4, 0)] ++ xs ++ ys) ∧ Below w.heap.size w w' := by
  subst hg
  exact (impl_arrow2 _ xs ys _ (Sl2.two h h' 26) hl hl').mono fun e w' ⟨r, he, ho, hb⟩ => ⟨r, he, ho.mono (by simp), ((Below.refl _ _).alloc (Nat.le_refl _) _).trans (hb.mono (by simp))⟩
theorem impl_equality (v u : Value) (xs ys : List Nd) (w : World) (h : Sl cN w v xs) (h' : Sl cN w u ys) (hl : xs.length ≤ 4096) (hl' : ys.length ≤ 4096) :
    Calls Tryz.prog 74 #[v, u] w fun e w' => ∃ r, e = .returned r ∧ Ow cN 82 w.heap.size w' r (eqL xs ys) ∧ Below w.heap.size w w' := by
  obtain ⟨A, c, rfl⟩ := h.opn
  obtain ⟨B, d, rfl⟩ := h'.opn
  have Hh := Lib.hid h
  have Hh' := Lib.hid h'
  clear h h'
  go_enter Tryz.func74, Tryz.ntmps74
  go_wp2_with fail
  refine (impl_arrow_of xs ys _ Hh.out Hh'.out (by omega) (by omega) _ rfl).mono ?_
  rintro e w1 ⟨r, rfl, ho, hb⟩
  have O1 := Lib.hid ho
  have HB := Lib.hid hb
  clear ho hb
  go_wp2_with fail
  refine (impl_arrow_of ys xs _ (Hh'.out.below HB.out) (Hh.out.below HB.out) (by omega) (by omega) _ rfl).mono ?_
  rintro e w2 ⟨r2, rfl, ho, hb⟩
  have O2 := Lib.hid ho
  have O1' := Lib.hid (O1.out.below hb)
  have HB2 := Lib.hid (bthen HB.out hb)
  clear ho hb
  go_wp2_with fail
  refine (impl_join 2 _ _ _ _ _ O1'.out.sl O2.out.sl (by simp <;> omega) (by simp <;> omega)).mono ?_
  rintro e w3 ⟨r3, rfl, ho, hb⟩
  have O3 : Hid (Ow cN 82 w.heap.size w3 r3 (eqL xs ys)) := Lib.hid (ho.mono HB2.out.size)
  have HB3 := Lib.hid (bthen HB2.out hb)
  clear ho hb
  go_wp2
  go_ret
  exact ⟨_, rfl, O3.out, HB3.out⟩
theorem spec_l33Equal (v u : Value) (xs ys : List Nd) (w : World) (h : Sl cN w v xs) (h' : Sl cN w u ys) (hl : xs.length ≤ 4096) (hl' : ys.length ≤ 4096) :
    Calls Tryz.prog 81 #[v, u] w fun e w' => ∃ r, e = .returned r ∧ Ow cN 82 w.heap.size w' r (eqL xs ys) ∧ Below w.heap.size w w' := by
  have Hh := Lib.hid h
  have Hh' := Lib.hid h'
  clear h h'
  go_enter Tryz.func81, Tryz.ntmps81
  go_wp2_with fail
  refine (spec_l02Pair 4 _ _ xs ys _ Hh.out Hh'.out (by omega) (by omega)).mono ?_
  rintro e w1 ⟨r, rfl, ho, hb⟩
  have O1 := Lib.hid ho
  have HB := Lib.hid hb
  clear ho hb
  go_wp2_with fail
  refine (spec_l02Pair 4 _ _ ys xs _ (Hh'.out.below HB.out) (Hh.out.below HB.out) (by omega) (by omega)).mono ?_
  rintro e w2 ⟨r2, rfl, ho, hb⟩
  have O2 := Lib.hid ho
  have O1' := Lib.hid (O1.out.below hb)
  have HB2 := Lib.hid (bthen HB.out hb)
  clear ho hb
  go_wp2_with fail
  refine (spec_l02Pair 2 _ _ _ _ _ O1'.out.sl O2.out.sl (by simp <;> omega) (by simp <;> omega)).mono ?_
  rintro e w3 ⟨r3, rfl, ho, hb⟩
  have O3 : Hid (Ow cN 82 w.heap.size w3 r3 (eqL xs ys)) := Lib.hid (ho.mono HB2.out.size)
  have HB3 := Lib.hid (bthen HB2.out hb)
  clear ho hb
  go_wp2
  go_ret
  exact ⟨_, rfl, O3.out, HB3.out⟩
theorem spec_l33Occurs (v : Value) (xs : List Nd) (t : Int) (w : World) (h : Sl cN w v xs) (hl : xs.length ≤ 1073741824) :
    Calls Tryz.prog 59 #[v, .int .i64 t] w fun e w' => e = .returned (.bool (occ xs t)) ∧ w = w' := by
  obtain ⟨A, c, rfl⟩ := h.opn
  go_enter Tryz.func59, Tryz.ntmps59
  go_wp2
  go_loop [5] (fun i => ∃ j : Nat, j ≤ xs.length ∧ i = .int .i64 j ∧ occ (xs.take j) t = false) (fun i => xs.length - (intOf i).toNat)
  case atStart => exact ⟨0, Nat.zero_le _, rfl, rfl⟩
  case round =>
    obtain ⟨j, hj, rfl, hh⟩ := hrel
    have Hh := Lib.hid hh; clear hh
    by_cases hlt : j < xs.length
    · obtain ⟨b, o, rfl, hbl, hc0, hc1⟩ := h.atN hlt
      have HT : Hid (occ (xs.take (j + 1)) t = (xs[j].1 == 0 && xs[j].2 == t)) := Lib.hid (by
        have := Hh.out
        unfold occ at this ⊢
        rw [List.take_succ_eq_append_getElem hlt, List.any_append, this]
        simp)
      have HA : Hid ((xs[j].1 == 0 && xs[j].2 == t) = true → occ xs t = true) := Lib.hid fun h1 => List.any_eq_true.2 ⟨_, List.getElem_mem hlt, h1⟩
      generalize xs[j] = x at *
      obtain ⟨x1, x2⟩ := x
      simp only at hc0 hc1 HT HA
      cases e1 : (x1 == 0)
      · rw [e1, Bool.false_and] at HT
        go_wp2
        go_round
        case rel => exact ⟨j + 1, by omega, by go_num, HT.out⟩
        case measure => simp [intOf]; omega
      · cases e2 : (x2 == t)
        · rw [e1, e2, Bool.true_and] at HT
          go_wp2
          go_round
          case rel => exact ⟨j + 1, by omega, by go_num, HT.out⟩
          case measure => simp [intOf]; omega
        · have HO := Lib.hid (HA.out (by rw [e1, e2]; rfl))
          go_wp2
          go_ret
          exact ⟨by rw [HO.out]; rfl, rfl⟩
    · have HO : Hid (occ xs t = false) := Lib.hid (by have := Hh.out; rwa [List.take_of_length_le (by omega)] at this)
      go_wp2
      go_ret
      exact ⟨by rw [HO.out]; rfl, rfl⟩
end Go.Proofs.YtgcoohlakcncbaaGreat
