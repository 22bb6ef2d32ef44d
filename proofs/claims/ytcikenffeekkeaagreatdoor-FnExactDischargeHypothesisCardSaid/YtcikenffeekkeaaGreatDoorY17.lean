/- Joined of several texts: 34a, 34b. -/
import Derived.Test.YtcikenffeekkeaaGreatDoorY09
import Derived.Test.YtcikenffeekkeaaGreatDoorY16
namespace Go.Proofs.YtcikenffeekkeaaGreatDoor
open Go.RowKit
set_option linter.unusedVariables false
set_option linter.unusedSimpArgs false
/- Contracts of substitutions, of the program and of the reference. Written by gen34a.py. -/
/-- the image of a list of nodes under a substitution -/
def subI (xs : List Nd) (ims : List (List Nd)) : List Nd := xs.flatMap fun n => if n.1 = 0 then ims.getD n.2.toNat [] else [n]
theorem subI_snoc (xs : List Nd) (n : Nd) (ims : List (List Nd)) : subI (xs ++ [n]) ims = subI xs ims ++ (if n.1 = 0 then ims.getD n.2.toNat [] else [n]) := by simp [subI]
theorem getD_len {ims : List (List Nd)} {M : Nat} (hM : ∀ x ∈ ims, x.length ≤ M) (i : Nat) : (ims.getD i []).length ≤ M := by
  rw [List.getD_eq_getElem?_getD]
  rcases Nat.lt_or_ge i ims.length with h | h
  · rw [List.getElem?_eq_getElem h]
    exact hM _ (List.getElem_mem h)
  · rw [List.getElem?_eq_none h]
    exact Nat.zero_le _
theorem subI_length (xs : List Nd) (ims : List (List Nd)) (M : Nat) (h1 : 1 ≤ M) (hM : ∀ x ∈ ims, x.length ≤ M) : (subI xs ims).length ≤ xs.length * M := by
  induction xs with
  | nil => simp [subI]
  | cons n t ih =>
    have e : subI (n :: t) ims = (if n.1 = 0 then ims.getD n.2.toNat [] else [n]) ++ subI t ims := by simp [subI]
    rw [e, List.length_append, List.length_cons, Nat.succ_mul, Nat.add_comm (t.length * M)]
    refine Nat.add_le_add ?_ ih
    split
    · exact getD_len hM _
    · simpa using h1
/-- the substitution that maps each variable to itself -/
def idTo (k : Nat) : List (List Nd) := (List.range k).map fun (i : Nat) => [(0, (i : Int))]
theorem idTo_succ (k : Nat) : idTo (k + 1) = idTo k ++ [[(0, (k : Int))]] := by simp [idTo, List.range_succ]
theorem idTo_length (k : Nat) : (idTo k).length = k := by simp [idTo]
/-- ap_one, the address spelled otherwise -/
theorem ap_one' {α : Type} {K : Cod α} {P : Program} (w : World) {ops : Array Oper} {rest : List Oper} {o : Oper} {a : Act} {Q : Exit → Act → World → Prop} {t e : TypeId} {z : Value} {bytes : Nat}
    (T : Ty P t e z K.size bytes) (hgd : o.guard = none) (s x : Operand)
    (ho : o.op = .call { callee := .builtin .append, args := #[s, x], argTypes := #[t, t] })
    {B : Nat} {v : Value} {xs : List α} (hs : a.eval s = v) (hown : Ow K e B w v xs) (y : α) {cs : Array Value} (hcs : K.cells y = cs.toList) {g : Nat} (hg : g = w.heap.size)
    (hx : a.eval x = .slice (some ⟨g, 0, none⟩) 1 1)
    (hbytes : (xs.length + 1) * bytes ≤ 140737488355328) (hbase : B ≤ w.heap.size)
    (h : ∀ v' w', Ow K e B w' v' (xs ++ [y]) → (w.alloc (.cells cs e)).grownBy w' v.ownBlock → Below B w w' → (v'.ownBlock = v.ownBlock ∨ v'.ownBlock = some (w.heap.size + 1)) → wpList P ops Q rest (a.put o.dst v') w') :
    wpList P ops Q (o :: rest) a (w.alloc (.cells cs e)) := by
  subst hg
  exact ap_one w T hgd s x ho hs hown y hcs hx hbytes hbase h
theorem Ow2.set_ {B : Nat} {w : World} {g n c : Nat} {xss : List (List Nd)} (h : Ow2 B w (.slice (some ⟨g, 0, none⟩) n c) xss) {k : Nat} (hk : k < xss.length) {A : Option Addr} {m c' : Nat} {ys : List Nd}
    (hy : Sl cN (w.setCell ⟨g, k, none⟩ (.slice A m c')) (.slice A m c') ys) : Sl2 cN (w.setCell ⟨g, k, none⟩ (.slice A m c')) (.slice (some ⟨g, 0, none⟩) n c) (xss.set k ys) := by
  obtain ⟨hs, h1, h2, h3⟩ := h
  have hset := h1.set1 (j := k) (x := (⟨A, m, c'⟩ : Hd)) (u := .slice A m c') rfl rfl (by omega)
  refine ⟨hs.set k ⟨A, m, c'⟩, hset.sl, by simp [h2], fun i a b => ?_⟩
  rw [List.getElem_set, List.getElem_set]
  by_cases hik : k = i
  · rw [if_pos hik, if_pos hik]
    exact hy
  · rw [if_neg hik, if_neg hik]
    have a' : i < hs.length := by simpa using a
    have b' : i < xss.length := by simpa using b
    obtain ⟨q1, q2⟩ := h3 i a' b'
    refine q1.grown (grown_set (World.grownBy.refl w (some g)) rfl k _) ?_
    rcases q2 with q | ⟨q, _⟩
    · exact .inl q
    · exact .inr q
theorem Ow2.cell_ {B : Nat} {w : World} {g n c : Nat} {xss : List (List Nd)} (h : Ow2 B w (.slice (some ⟨g, 0, none⟩) n c) xss) {k : Nat} (hk : k < xss.length) :
    (∃ old, w.cell? ⟨g, k, none⟩ = some old) ∧ w.frozen? ⟨g, k, none⟩ = false ∧ B ≤ g ∧ g < w.heap.size := by
  obtain ⟨hs, h1, h2, h3⟩ := h
  obtain ⟨q1, q2, q3, q4⟩ := h1.at1 rfl (j := k) (by omega) rfl
  exact ⟨⟨_, q1⟩, q2, q3, q4⟩
theorem Ow2.form_ {B : Nat} {w : World} {v : Value} {xss : List (List Nd)} (h : Ow2 B w v xss) (hn : 0 < xss.length) : ∃ g c, v = .slice (some ⟨g, 0, none⟩) xss.length c ∧ B ≤ g ∧ g < w.heap.size := by
  obtain ⟨hs, h1, h2, h3⟩ := h
  obtain ⟨g, c, hv, q1, q2, _⟩ := h1.form (by omega)
  exact ⟨g, c, by rw [hv, h2], q1, q2⟩
theorem impl_var (x : Int) (w : World) :
    Calls Tryz.prog 124 #[.int .i64 x] w fun e w' => ∃ u, e = .returned u ∧ Ow cN 75 w.heap.size w' u [(0, x)] ∧ Below w.heap.size w w' := by
  go_enter Tryz.func124, Tryz.ntmps124
  go_wp2
  go_ret
  exact ⟨_, rfl, Ow.lit [(0, x)] rfl rfl (Nat.le_refl _), (Below.refl _ _).alloc (Nat.le_refl _) _⟩
theorem spec_var (x : Int) (w : World) :
    Calls Tryz.prog 120 #[.int .i64 x] w fun e w' => ∃ u, e = .returned u ∧ Ow cN 75 w.heap.size w' u [(0, x)] ∧ Below w.heap.size w w' := by
  go_enter Tryz.func120, Tryz.ntmps120
  go_wp2
  go_ret
  exact ⟨_, rfl, Ow.lit [(0, x)] rfl rfl (Nat.le_refl _), (Below.refl _ _).alloc (Nat.le_refl _) _⟩
theorem spec_identity (w : World) :
    Calls Tryz.prog 102 #[] w fun e w' => ∃ u, e = .returned u ∧ Ow2 w.heap.size w' u (idTo 6) ∧ Below w.heap.size w w' := by
  go_enter Tryz.func102, Tryz.ntmps102
  go_wp2
  go_loopw [1, 2] (fun v i wr => ∃ k : Nat, k ≤ 6 ∧ i = .int .i64 k ∧ Ow2 w.heap.size wr v (idTo k) ∧ Below w.heap.size w wr) (fun _ i _ => 6 - (intOf i).toNat)
  case atStart => exact ⟨0, by omega, rfl, Ow2.lit w.heap.size w.heap.size w rfl (Nat.le_refl _), (Below.refl _ _).alloc (Nat.le_refl _) _⟩
  case round =>
    obtain ⟨k, hk, rfl, ho, hb⟩ := hrel
    have HO := Lib.hid ho; have HW := Lib.hid hb
    clear ho hb
    by_cases hlt : k < 6
    · have HF := Lib.hid (idTo_succ k)
      go_wp2_with fail
      refine (spec_var k _).mono ?_
      rintro e w2 ⟨u, rfl, ho, hb⟩
      have X1 := Lib.hid (HO.out.below hb)
      have X4 := Lib.hid (bthen HW.out hb)
      have HU := Lib.hid ho
      have hz := X4.out.size
      clear ho hb
      obtain ⟨A2, c2, rfl⟩ := HU.out.opn
      obtain ⟨hs, g1, g2, g3⟩ := Ow2.push X1.out HU.out (by
        obtain ⟨hs, q1, _, _⟩ := HO.out
        exact fun k hk => (q1.block k hk).2)
      have hlen : hs.length ≤ 6 := by rw [g2, idTo_length]; omega
      have G1 := Lib.hid g1; have G3 := Lib.hid g3
      clear g1 g3 g2
      have G2 := Lib.hid hlen; clear hlen
      simp only [List.length_cons, List.length_nil, Nat.zero_add] at G3 HU ⊢
      go_wp2_with (at_builtin; refine stopHere ?_)
      refine goHere ?_
      refine ap_one (K := cH) _ ty_nodes rfl _ _ rfl (B := w.heap.size) (xs := hs) rfl G1.out (⟨A2, 1, c2⟩ : Hd) rfl rfl (by have := G2.out; omega) ?_ ?_
      · omega
      intro v1 w5 ho1 hg1 hb1 hat1
      have Y1 := Lib.hid (G3.out _ _ ho1 hg1 (hat1.imp id fun e => by rw [e]; simp))
      have Y4 := Lib.hid (X4.out.trans (hb1.mono (by omega)))
      clear ho1 hg1 hb1 hat1
      go_wp2
      go_roundw
      case rel => exact ⟨k + 1, by omega, by go_num, by rw [HF.out]; exact Y1.out, Y4.out⟩
      case measure => simp [intOf]; omega
    · obtain rfl : k = 6 := by omega
      go_wp2
      go_ret
      exact ⟨_, rfl, HO.out, HW.out⟩
/-- a formula with a variable replaced -/
def repL (xs : List Nd) (s : Nat) (ys : List Nd) : List Nd := subI xs ((idTo 6).set s ys)
theorem repL_ims (s : Nat) (ys : List Nd) (M : Nat) (h1 : 1 ≤ M) (hy : ys.length ≤ M) : ∀ x ∈ (idTo 6).set s ys, x.length ≤ M := by
  intro x hx
  rcases List.mem_or_eq_of_mem_set hx with h | h
  · simp only [idTo, List.mem_map] at h
    obtain ⟨i, _, rfl⟩ := h
    simpa using h1
  · rw [h]; exact hy
theorem repL_length (xs : List Nd) (s : Nat) (ys : List Nd) (M : Nat) (h1 : 1 ≤ M) (hy : ys.length ≤ M) : (repL xs s ys).length ≤ xs.length * M := subI_length _ _ _ h1 (repL_ims s ys M h1 hy)
theorem node_ims {xs : List Nd} (h : ∀ n ∈ xs, isNd n = true) (s : Nat) (ys : List Nd) : ∀ n ∈ xs, n.1 = 0 → 0 ≤ n.2 ∧ n.2 < ((idTo 6).set s ys).length := by
  intro n hn hz
  have := h n hn
  rw [List.length_set, idTo_length]
  simp [isNd, hz, inR] at this
  omega
/- Contracts of UniquenessFormula, of the program and of the reference. -/
theorem vmask_bit (xs : List Nd) (n : Nat) : (vmask xs).testBit n = xs.any fun x => x.1 == 0 && x.2.toNat == n := by
  have key : ∀ (xs : List Nd) (m : Nat), (xs.foldl (fun m n => if n.1 = 0 then m ||| 2 ^ n.2.toNat else m) m).testBit n = (m.testBit n || xs.any fun x => x.1 == 0 && x.2.toNat == n) := by
    intro xs
    induction xs with
    | nil => intro m; simp
    | cons x t ih =>
      intro m
      rw [List.foldl_cons, ih, List.any_cons]
      by_cases hx : x.1 = 0
      · rw [if_pos hx, Nat.testBit_or, Nat.testBit_two_pow]
        have e1 : (x.1 == 0) = true := by simp [hx]
        rw [e1, Bool.true_and, Bool.or_assoc]
        congr 2
      · rw [if_neg hx]
        have e1 : (x.1 == 0) = false := by simp [hx]
        rw [e1, Bool.false_and, Bool.false_or]
  have := key xs 0
  simpa [vmask] using this
/-- does a node of a variable occur? -/
def occ (xs : List Nd) (t : Int) : Bool := xs.any fun x => x.1 == 0 && x.2 == t
theorem occ_bit (xs : List Nd) (n : Nat) (h : ∀ x ∈ xs, isNd x = true) : occ xs n = (vmask xs).testBit n := by
  rw [vmask_bit]
  unfold occ
  induction xs with
  | nil => rfl
  | cons x t ih =>
    have key : (x.1 == 0 && x.2 == (n : Int)) = (x.1 == 0 && x.2.toNat == n) := by
      by_cases hx : x.1 = 0
      · have := h x List.mem_cons_self
        simp [isNd, hx, inR] at this
        rw [Bool.eq_iff_iff]
        simp [hx]
        omega
      · rw [show (x.1 == 0) = false from beq_eq_false_iff_ne.2 hx]
        rfl
    rw [List.any_cons, List.any_cons, ih fun y hy => h y (List.mem_cons_of_mem _ hy), key]
/-- the formula that says that two formulas imply each other -/
def eqL (v a : List Nd) : List Nd := [(2, 0)] ++ ([(4, 0)] ++ v ++ a) ++ ([(4, 0)] ++ a ++ v)
def unE (a : List Nd) (s : Nat) : List Nd := eqL [(0, (s : Int))] a
def unG (a : List Nd) (s t : Nat) : List Nd := repL (unE a s) s [(0, (t : Int))]
def unL (a : List Nd) (s t : Nat) : List Nd := [(4, 0)] ++ ((5, 0) :: ([(2, 0)] ++ unE a s ++ unG a s t)) ++ ((5, 0) :: ([(4, 0)] ++ [(0, (s : Int))] ++ [(0, (t : Int))]))
theorem unE_length (a : List Nd) (s : Nat) (h : a.length ≤ 40) : (unE a s).length ≤ 90 := by simp [unE, eqL]; omega
theorem unG_length (a : List Nd) (s t : Nat) (h : a.length ≤ 40) : (unG a s t).length ≤ 90 := by
  have h1 := repL_length (unE a s) s [(0, (t : Int))] 1 (by omega) (by simp)
  have h2 := unE_length a s h
  unfold unG
  omega
theorem unE_nodes (f : Fm) (s : Nat) (hok : f.ok = true) (hs : s ≤ 5) : ∀ n ∈ unE (enc f) s, isNd n = true := by
  have := enc_nodes (.bin .and (.bin .imp (.var s) f) (.bin .imp f (.var s))) (by simp [Fm.ok, hok, hs])
  simpa [enc, unE, eqL, BK.i] using this
theorem Sl2.two' {α : Type} {K : Cod α} {w : World} {A B : Option Addr} {n c m d : Nat} {xs ys : List α} (h : Sl K w (.slice A n c) xs) (h' : Sl K w (.slice B m d) ys) (e : TypeId) (g : Nat) (hg : g = w.heap.size) :
    Sl2 K (w.alloc (.cells #[.slice A n c, .slice B m d] e)) (.slice (some ⟨g, 0, none⟩) 2 2) [xs, ys] := by subst hg; exact Sl2.two h h' e
/-- the two states of the loop of arrow at two formulas -/
def ArS (w : World) (xs ys : List Nd) (o i : Value) (wr : World) : Prop :=
  (i = .int .i64 0 ∧ Sl cN w o ys ∧ wr = w) ∨ (i = .int .i64 (-1) ∧ Ow cN 75 w.heap.size wr o ([(4, 0)] ++ xs ++ ys) ∧ Below w.heap.size w wr)
theorem impl_arrow2 (v : Value) (xs ys : List Nd) (w : World) (h : Sl2 cN w v [xs, ys]) (hl : xs.length ≤ 262144) (hl' : ys.length ≤ 262144) :
    Calls Tryz.prog 69 #[v] w fun e w' => ∃ r, e = .returned r ∧ Ow cN 75 w.heap.size w' r ([(4, 0)] ++ xs ++ ys) ∧ Below w.heap.size w w' := by
  obtain ⟨A, c, rfl⟩ := h.opn
  obtain ⟨b, o, A0, n0, c0, rfl, hb, hc0, hs0⟩ := h.at_ (k := 0) (by simp)
  obtain ⟨b', o', A1, n1, c1, hA, hb', hc1, hs1⟩ := h.at_ (k := 1) (by simp)
  injection hA with hA
  injection hA with h1 h2 _
  subst h1
  subst h2
  simp only [List.getElem_cons_zero, List.getElem_cons_succ, Nat.add_zero, List.length_cons, List.length_nil, Nat.zero_add] at hc0 hc1 hs0 hs1 ⊢
  have S0 := Lib.hid hs0
  have S1 := Lib.hid hs1
  clear h hs0 hs1
  go_enter Tryz.func69, Tryz.ntmps69
  go_wp2
  go_loopw [3, 4] (fun o i wr => ArS w xs ys o i wr) (fun _ i _ => (intOf i + 1).toNat)
  case atStart => exact .inl ⟨rfl, S1.out, rfl⟩
  case round =>
    rcases hrel with ⟨rfl, hs, rfl⟩ | ⟨rfl, ho, hb⟩
    · have HS := Lib.hid hs
      clear hs
      go_wp2_with fail
      refine (impl_join 4 _ _ _ _ _ S0.out HS.out hl hl').mono ?_
      rintro e w1 ⟨r, rfl, ho, hb1⟩
      have O := Lib.hid ho
      have HB := Lib.hid hb1
      clear ho hb1
      go_wp2
      go_roundw
      case rel => exact .inr ⟨rfl, O.out, HB.out⟩
      case measure => simp [intOf]
    · have O := Lib.hid ho
      have HB := Lib.hid hb
      clear ho hb
      go_wp2
      go_ret
      exact ⟨_, rfl, O.out, HB.out⟩
/-- arrow at two formulas laid as a list -/
theorem impl_arrow_of {A B : Option Addr} {n c m d : Nat} (xs ys : List Nd) (w : World) (h : Sl cN w (.slice A n c) xs) (h' : Sl cN w (.slice B m d) ys) (hl : xs.length ≤ 262144) (hl' : ys.length ≤ 262144) (g : Nat) (hg : g = w.heap.size) :
    Calls Tryz.prog 69 #[.slice (some ⟨g, 0, none⟩) 2 2] (w.alloc (.cells #[.slice A n c, .slice B m d] 44)) fun e w' => ∃ r, e = .returned r ∧ Ow cN 75 w.heap.size w' r ([(4, 0)] ++ xs ++ ys) ∧ Below w.heap.size w w' := by
  subst hg
  exact (impl_arrow2 _ xs ys _ (Sl2.two h h' 44) hl hl').mono fun e w' ⟨r, he, ho, hb⟩ => ⟨r, he, ho.mono (by simp), ((Below.refl _ _).alloc (Nat.le_refl _) _).trans (hb.mono (by simp))⟩
end Go.Proofs.YtcikenffeekkeaaGreatDoor
