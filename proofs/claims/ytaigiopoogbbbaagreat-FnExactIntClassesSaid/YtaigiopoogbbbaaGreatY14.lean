/- Joined of several texts. -/
import Derived.Test.YtaigiopoogbbbaaGreatY13
import Derived.Test.YtaigiopoogbbbaaGreatY12
import Derived.Test.YtaigiopoogbbbaaGreatY07
import Derived.Test.YtaigiopoogbbbaaGreatY08
namespace Go.Proofs.YtaigiopoogbbbaaGreat
/- Joined of several texts: 03v, 03w, 03x, 03y, 03z, 03f, 03h, 03k, 33n. -/
open Go.RowKit
set_option linter.unusedVariables false
set_option linter.unusedSimpArgs false
/- Contracts of what FormulaOfTrace joins with: l02True, l02Own, truth, l02All. -/
/-- the formula that joins all, by an operation -/
def joinL (op : Int) (xss : List (List Nd)) : List Nd := List.replicate (xss.length - 1) (op, 0) ++ xss.flatten
theorem joinL_one (op : Int) {xss : List (List Nd)} (h : 0 < xss.length) : joinL op (xss.take 1) = xss[0] := by
  cases xss with
  | nil => simp at h
  | cons x t => simp [joinL]
theorem joinL_succ (op : Int) {xss : List (List Nd)} {j : Nat} (h : j < xss.length) (hj : 0 < j) : joinL op (xss.take (j + 1)) = [(op, 0)] ++ joinL op (xss.take j) ++ xss[j] := by
  obtain ⟨i, rfl⟩ : ∃ i, j = i + 1 := ⟨j - 1, by omega⟩
  unfold joinL
  rw [flat_take_succ xss h, List.length_take, List.length_take, Nat.min_eq_left (by omega), Nat.min_eq_left (by omega)]
  simp [List.replicate_succ]
theorem joinL_length (op : Int) (xss : List (List Nd)) : (joinL op xss).length = xss.length - 1 + xss.flatten.length := by simp [joinL]
theorem impl_truth (w : World) :
    Calls Tryz.prog 135 #[] w fun e w' => ∃ u, e = .returned u ∧ Ow cN 46 w.heap.size w' u [(4, 0), (1, 0), (1, 0)] ∧ Below w.heap.size w w' := by
  go_enter Tryz.func135, Tryz.ntmps135
  go_wp2
  go_ret
  exact ⟨_, rfl, Ow.lit [(4, 0), (1, 0), (1, 0)] rfl rfl (Nat.le_refl _), (Below.refl _ _).alloc (Nat.le_refl _) _⟩
/- Contract of joinAll of the program. -/
/-- a make of no nodes with room for n -/
theorem mk_room {ops : Array Oper} {rest : List Oper} {o : Oper} {a : Act} {Q : Exit → Act → World → Prop} (w : World) (hgd : o.guard = none) (l c : Operand) (ho : o.op = Op.makeSlice 37 l c) (n : Nat)
    (hl : a.eval l = .int .i64 0) (hc : a.eval c = .int .i64 (n : Int)) (hn : n ≤ 1048576)
    (h : ∀ w', Ow cN 46 w.heap.size w' (.slice (some ⟨w.heap.size, 0, none⟩) 0 n) [] → Below w.heap.size w w' → wpList Tryz.prog ops Q rest (a.put o.dst (.slice (some ⟨w.heap.size, 0, none⟩) 0 n)) w') :
    wpList Tryz.prog ops Q (o :: rest) a w := by
  obtain ⟨i, hi, hz, hsize, hby⟩ := ty_node.info
  have hb : i.bytes = 16 := hby
  refine wpList_make_own w hgd l c 37 ho w.heap.size 46 i _ 2 ty_node.under hi hz hsize .i64 .i64 n n hl hc rfl (by rw [hb]; omega) (by simp only [maxLen]; omega) (Nat.le_refl _) fun w' hown hg => ?_
  exact h w' ⟨⟨_, _, rfl, Nat.zero_le _, by omega⟩, hown⟩ ((Below.refl _ _).grown hg (Nat.le_refl _) (by simp))
/- An owned list of lists of nodes: the header slice is the call's own, each header reads. -/
theorem ty_nodes : Ty Tryz.prog 27 37 (.slice none 0 0) 1 24 := Ty.mk' Tryz.underlying27 (by kernel_rfl) rfl (by decide)
def Ow2 (B : Nat) (w : World) (v : Value) (xss : List (List Nd)) : Prop :=
  ∃ hs : List Hd, Ow cH 37 B w v hs ∧ hs.length = xss.length ∧ ∀ i (a : i < hs.length) (b : i < xss.length), Sl cN w hs[i].val xss[i] ∧ (hs[i].val.ownBlock = none ∨ (hs[i].val.ownBlock ≠ v.ownBlock ∧ ∀ k, hs[i].val.ownBlock = some k → k < w.heap.size))
theorem Ow2.nil (B : Nat) (w : World) : Ow2 B w (.slice none 0 0) [] := ⟨[], Ow.nil _ _, rfl, fun i a => by simp at a⟩
theorem Ow2.sl2 {B : Nat} {w : World} {v : Value} {xss : List (List Nd)} (h : Ow2 B w v xss) : Sl2 cN w v xss := by
  obtain ⟨hs, h1, h2, h3⟩ := h
  exact ⟨hs, h1.sl, h2, fun i a b => (h3 i a b).1⟩
theorem Ow2.below {B : Nat} {w w' : World} {v : Value} {xss : List (List Nd)} (h : Ow2 B w v xss) (hb : Below w.heap.size w w') : Ow2 B w' v xss := by
  obtain ⟨hs, h1, h2, h3⟩ := h
  refine ⟨hs, h1.below hb, h2, fun i a b => ⟨(h3 i a b).1.below hb, ?_⟩⟩
  rcases (h3 i a b).2 with h | ⟨h, k⟩
  · exact .inl h
  · exact .inr ⟨h, fun j hj => Nat.lt_of_lt_of_le (k j hj) hb.size⟩
/-- one more header, which lies in a block that is not the header slice's -/
theorem Ow2.snoc {B : Nat} {w w' : World} {v v' : Value} {xss : List (List Nd)} {hd : Hd} {xs : List Nd} {hs : List Hd} (hs2 : hs.length = xss.length)
    (h3 : ∀ i (a : i < hs.length) (b : i < xss.length), Sl cN w hs[i].val xss[i] ∧ (hs[i].val.ownBlock = none ∨ (hs[i].val.ownBlock ≠ v.ownBlock ∧ ∀ k, hs[i].val.ownBlock = some k → k < w.heap.size)))
    (hx : Sl cN w hd.val xs) (hne : hd.val.ownBlock = none ∨ (hd.val.ownBlock ≠ v.ownBlock ∧ ∀ k, hd.val.ownBlock = some k → k < w.heap.size))
    (ho : Ow cH 37 B w' v' (hs ++ [hd])) (hg : w.grownBy w' v.ownBlock) (hat : v'.ownBlock = v.ownBlock ∨ v'.ownBlock = some w.heap.size) : Ow2 B w' v' (xss ++ [xs]) := by
  have key : ∀ (u : Value) (ys : List Nd), Sl cN w u ys → (u.ownBlock = none ∨ (u.ownBlock ≠ v.ownBlock ∧ ∀ k, u.ownBlock = some k → k < w.heap.size)) →
      Sl cN w' u ys ∧ (u.ownBlock = none ∨ (u.ownBlock ≠ v'.ownBlock ∧ ∀ k, u.ownBlock = some k → k < w'.heap.size)) := by
    intro u ys hu hn
    refine ⟨hu.grown hg (hn.imp id And.left), ?_⟩
    rcases hn with hn | ⟨hn, hk⟩
    · exact .inl hn
    · refine .inr ⟨?_, fun k e => Nat.lt_of_lt_of_le (hk k e) hg.size⟩
      rcases hat with e | e
      · rw [e]; exact hn
      · rw [e]; intro e2; exact absurd (hk _ e2) (Nat.lt_irrefl _)
  refine ⟨hs ++ [hd], ho, by simp [hs2], fun i a b => ?_⟩
  by_cases hi : i < hs.length
  · rw [List.getElem_append_left hi, List.getElem_append_left (by omega)]
    exact key _ _ (h3 i hi (by omega)).1 (h3 i hi (by omega)).2
  · have e : i = hs.length := by simp at a; omega
    subst e
    have e2 : (xss ++ [xs])[hs.length] = xs := by
      rw [List.getElem_append_right (by omega)]; simp [hs2]
    rw [e2]
    have e3 : (hs ++ [hd])[hs.length] = hd := by simp
    rw [e3]
    exact key _ _ hx hne
/- l02All and joinAll at the empty list. -/
def joinE (op : Int) : List Nd := if op = 2 then [(4, 0), (1, 0), (1, 0)] else [(1, 0)]
/- Contract of the program's formula of a Trace. -/
/-- the part of a rank, and the parts of a Trace -/
def elL (b : Bool) (n : Nat) : List Nd := if b then rankL n else [(4, 0)] ++ rankL n ++ [(1, 0)]
def formL (b : Bool) (xs : List Int) : List (List Nd) := xs.map fun x => elL b x.toNat
theorem formL_succ (b : Bool) {xs : List Int} {j : Nat} (h : j < xs.length) : formL b (xs.take (j + 1)) = formL b (xs.take j) ++ [elL b xs[j].toNat] := by
  unfold formL
  rw [List.take_succ_eq_append_getElem h, List.map_append]
  rfl
theorem elL_length (b : Bool) {n : Nat} (h : n ≤ 60) : (elL b n).length ≤ 200 := by
  have := rankL_length n
  unfold elL
  split
  · omega
  · simp; omega
/-- the list of all joined, by the program's or the reference's way -/
def outL (b : Bool) (xs : List Int) : List Nd := if xs.length = 0 then joinE (if b then 3 else 2) else joinL (if b then 3 else 2) (formL b xs)
/- only with 27 -/
/-- the header slice with one header more: the step of both loops -/
theorem Ow2.push {B : Nat} {w : World} {v : Value} {xss : List (List Nd)} {A : Option Addr} {c : Nat} {xs : List Nd} {B2 : Nat}
    (h : Ow2 B w v xss) (hu : Ow cN 46 B2 w (.slice A xs.length c) xs) (hB : ∀ k, v.ownBlock = some k → k < B2) :
    ∃ hs : List Hd, Ow cH 37 B w v hs ∧ hs.length = xss.length ∧
      ∀ w' v', Ow cH 37 B w' v' (hs ++ [⟨A, xs.length, c⟩]) → (w.alloc (.cells #[.slice A xs.length c] 37)).grownBy w' v.ownBlock →
        (v'.ownBlock = v.ownBlock ∨ v'.ownBlock = some (w.alloc (.cells #[.slice A xs.length c] 37)).heap.size) → Ow2 B w' v' (xss ++ [xs]) := by
  have ha := h.below ((Below.refl _ _).alloc (Nat.le_refl _) (.cells #[.slice A xs.length c] 37))
  obtain ⟨hs, h1, h2, h3⟩ := h
  have hlt : ∀ k, (Value.slice A xs.length c).ownBlock = some k → B2 ≤ k ∧ k < w.heap.size := hu.block
  refine ⟨hs, h1, h2, fun w' v' ho hg hat => ?_⟩
  refine Ow2.snoc (hd := ⟨A, xs.length, c⟩) (w := w.alloc (.cells #[.slice A xs.length c] 37)) h2 (fun i a b => ⟨(h3 i a b).1.alloc _, ?_⟩) (hu.sl.alloc _) ?_ ho hg hat
  · rcases (h3 i a b).2 with h | ⟨h, k⟩
    · exact .inl h
    · exact .inr ⟨h, fun j hj => by have := k j hj; simp; omega⟩
  · show (Value.slice A xs.length c).ownBlock = none ∨ _
    cases hq : (Value.slice A xs.length c).ownBlock with
    | none => exact .inl rfl
    | some k =>
      have hk := hlt k hq
      refine .inr ⟨?_, fun j hj => ?_⟩
      · rw [show (Hd.val ⟨A, xs.length, c⟩).ownBlock = some k from hq]
        intro e
        have := hB k e.symm
        omega
      · have hj' : (Value.slice A xs.length c).ownBlock = some j := hj
        have := (hlt j hj').2
        simp; omega
/- Contract of the program's formula of a Trace. Written by gen03f.py. -/
theorem formL_flat_le (b : Bool) (xs : List Int) (h : ∀ x ∈ xs, 0 ≤ x ∧ x ≤ 60) : (formL b xs).flatten.length ≤ xs.length * 200 := by
  induction xs with
  | nil => simp [formL]
  | cons x t ih =>
    have h1 := h x List.mem_cons_self
    have h2 := ih (fun y hy => h y (List.mem_cons_of_mem _ hy))
    have h3 := elL_length b (n := x.toNat) (by omega)
    have e : formL b (x :: t) = elL b x.toNat :: formL b t := rfl
    rw [e, List.flatten_cons, List.length_append, List.length_cons]
    omega
theorem formL_length (b : Bool) (xs : List Int) : (formL b xs).length = xs.length := by simp [formL]
/- Contract of the reference's formula of a Trace. Written by gen03h.py. -/ /- only with 27 -/
theorem Ow2.lit (B g : Nat) (w : World) (hg : g = w.heap.size) (hB : B ≤ g) : Ow2 B (w.alloc (.cells #[] 37)) (.slice (some ⟨g, 0, none⟩) 0 0) [] :=
  ⟨[], Ow.lit' [] hg rfl rfl hB, rfl, fun i a => by simp at a⟩
/- Contracts of FormulaOfTrace, of the program and of the reference. -/
theorem okT_short' {xs : List Int} (h : okT xs = true) : xs.length ≤ 61 := by
  have key : ∀ i : Nat, i < xs.length → (i : Int) ≤ xs.getD i 0 ∧ xs.getD i 0 ≤ 60 := by
    intro i
    induction i with
    | zero => intro hi; have := okT_at h hi; simp only [goodT, inR, Bool.and_eq_true, decide_eq_true_eq] at this; omega
    | succ k ih =>
      intro hi
      have h1 := ih (by omega)
      have := okT_at h hi
      simp only [goodT, inR, Bool.and_eq_true, Bool.or_eq_true, decide_eq_true_eq, Nat.add_sub_cancel] at this
      omega
  rcases Nat.lt_or_ge 61 xs.length with hq | hq
  · have := key 61 hq; omega
  · exact hq
/- Contracts of LetterlessNormal, of the program and of the reference. -/
theorem trOf_length (p : Nat → Bool) : (trOf p).length ≤ 61 := trTo_length p 61
theorem trOf_mem (p : Nat → Bool) : ∀ x ∈ trOf p, 0 ≤ x ∧ x ≤ 60 := by
  intro x hx
  simp only [trOf, trTo, List.mem_map, List.mem_filter, List.mem_range] at hx
  obtain ⟨n, ⟨hn, _⟩, rfl⟩ := hx
  omega
/- Joined of several texts: 34a, 34b. -/
open Go.RowKit
set_option linter.unusedVariables false
set_option linter.unusedSimpArgs false
/- Contracts of substitutions, of the program and of the reference. Written by gen34a.py. -/
/-- the image of a list of nodes under a substitution -/
def subI (xs : List Nd) (ims : List (List Nd)) : List Nd := xs.flatMap fun n => if n.1 = 0 then ims.getD n.2.toNat [] else [n]
theorem subI_snoc (xs : List Nd) (n : Nd) (ims : List (List Nd)) : subI (xs ++ [n]) ims = subI xs ims ++ (if n.1 = 0 then ims.getD n.2.toNat [] else [n]) := by simp [subI]
theorem getD_len {ims : List (List Nd)} {M : Nat} (hM : ∀ x ∈ ims, x.length ≤ M) (i : Nat) : (ims.getD i []).length ≤ M := by
  rw [List.getD_eq_getElem?_getD]
  rcases Nat.lt_or_ge i ims.length with h | h
  · rw [List.getElem?_eq_getElem h]
    exact hM _ (List.getElem_mem h)
  · rw [List.getElem?_eq_none h]
    exact Nat.zero_le _
theorem subI_length (xs : List Nd) (ims : List (List Nd)) (M : Nat) (h1 : 1 ≤ M) (hM : ∀ x ∈ ims, x.length ≤ M) : (subI xs ims).length ≤ xs.length * M := by
  induction xs with
  | nil => simp [subI]
  | cons n t ih =>
    have e : subI (n :: t) ims = (if n.1 = 0 then ims.getD n.2.toNat [] else [n]) ++ subI t ims := by simp [subI]
    rw [e, List.length_append, List.length_cons, Nat.succ_mul, Nat.add_comm (t.length * M)]
    refine Nat.add_le_add ?_ ih
    split
    · exact getD_len hM _
    · simpa using h1
/-- the substitution that maps each variable to itself -/
def idTo (k : Nat) : List (List Nd) := (List.range k).map fun (i : Nat) => [(0, (i : Int))]
theorem idTo_succ (k : Nat) : idTo (k + 1) = idTo k ++ [[(0, (k : Int))]] := by simp [idTo, List.range_succ]
theorem idTo_length (k : Nat) : (idTo k).length = k := by simp [idTo]
/-- ap_one, the address spelled otherwise -/
theorem ap_one' {α : Type} {K : Cod α} {P : Program} (w : World) {ops : Array Oper} {rest : List Oper} {o : Oper} {a : Act} {Q : Exit → Act → World → Prop} {t e : TypeId} {z : Value} {bytes : Nat}
    (T : Ty P t e z K.size bytes) (hgd : o.guard = none) (s x : Operand)
    (ho : o.op = .call { callee := .builtin .append, args := #[s, x], argTypes := #[t, t] })
    {B : Nat} {v : Value} {xs : List α} (hs : a.eval s = v) (hown : Ow K e B w v xs) (y : α) {cs : Array Value} (hcs : K.cells y = cs.toList) {g : Nat} (hg : g = w.heap.size)
    (hx : a.eval x = .slice (some ⟨g, 0, none⟩) 1 1)
    (hbytes : (xs.length + 1) * bytes ≤ 140737488355328) (hbase : B ≤ w.heap.size)
    (h : ∀ v' w', Ow K e B w' v' (xs ++ [y]) → (w.alloc (.cells cs e)).grownBy w' v.ownBlock → Below B w w' → (v'.ownBlock = v.ownBlock ∨ v'.ownBlock = some (w.heap.size + 1)) → wpList P ops Q rest (a.put o.dst v') w') :
    wpList P ops Q (o :: rest) a (w.alloc (.cells cs e)) := by
  subst hg
  exact ap_one w T hgd s x ho hs hown y hcs hx hbytes hbase h
theorem Ow2.set_ {B : Nat} {w : World} {g n c : Nat} {xss : List (List Nd)} (h : Ow2 B w (.slice (some ⟨g, 0, none⟩) n c) xss) {k : Nat} (hk : k < xss.length) {A : Option Addr} {m c' : Nat} {ys : List Nd}
    (hy : Sl cN (w.setCell ⟨g, k, none⟩ (.slice A m c')) (.slice A m c') ys) : Sl2 cN (w.setCell ⟨g, k, none⟩ (.slice A m c')) (.slice (some ⟨g, 0, none⟩) n c) (xss.set k ys) := by
  obtain ⟨hs, h1, h2, h3⟩ := h
  have hset := h1.set1 (j := k) (x := (⟨A, m, c'⟩ : Hd)) (u := .slice A m c') rfl rfl (by omega)
  refine ⟨hs.set k ⟨A, m, c'⟩, hset.sl, by simp [h2], fun i a b => ?_⟩
  rw [List.getElem_set, List.getElem_set]
  by_cases hik : k = i
  · rw [if_pos hik, if_pos hik]
    exact hy
  · rw [if_neg hik, if_neg hik]
    have a' : i < hs.length := by simpa using a
    have b' : i < xss.length := by simpa using b
    obtain ⟨q1, q2⟩ := h3 i a' b'
    refine q1.grown (grown_set (World.grownBy.refl w (some g)) rfl k _) ?_
    rcases q2 with q | ⟨q, _⟩
    · exact .inl q
    · exact .inr q
theorem Ow2.cell_ {B : Nat} {w : World} {g n c : Nat} {xss : List (List Nd)} (h : Ow2 B w (.slice (some ⟨g, 0, none⟩) n c) xss) {k : Nat} (hk : k < xss.length) :
    (∃ old, w.cell? ⟨g, k, none⟩ = some old) ∧ w.frozen? ⟨g, k, none⟩ = false ∧ B ≤ g ∧ g < w.heap.size := by
  obtain ⟨hs, h1, h2, h3⟩ := h
  obtain ⟨q1, q2, q3, q4⟩ := h1.at1 rfl (j := k) (by omega) rfl
  exact ⟨⟨_, q1⟩, q2, q3, q4⟩
theorem Ow2.form_ {B : Nat} {w : World} {v : Value} {xss : List (List Nd)} (h : Ow2 B w v xss) (hn : 0 < xss.length) : ∃ g c, v = .slice (some ⟨g, 0, none⟩) xss.length c ∧ B ≤ g ∧ g < w.heap.size := by
  obtain ⟨hs, h1, h2, h3⟩ := h
  obtain ⟨g, c, hv, q1, q2, _⟩ := h1.form (by omega)
  exact ⟨g, c, by rw [hv, h2], q1, q2⟩
theorem impl_var (x : Int) (w : World) :
    Calls Tryz.prog 136 #[.int .i64 x] w fun e w' => ∃ u, e = .returned u ∧ Ow cN 46 w.heap.size w' u [(0, x)] ∧ Below w.heap.size w w' := by
  go_enter Tryz.func136, Tryz.ntmps136
  go_wp2
  go_ret
  exact ⟨_, rfl, Ow.lit [(0, x)] rfl rfl (Nat.le_refl _), (Below.refl _ _).alloc (Nat.le_refl _) _⟩
/-- a formula with a variable replaced -/
def repL (xs : List Nd) (s : Nat) (ys : List Nd) : List Nd := subI xs ((idTo 6).set s ys)
theorem repL_ims (s : Nat) (ys : List Nd) (M : Nat) (h1 : 1 ≤ M) (hy : ys.length ≤ M) : ∀ x ∈ (idTo 6).set s ys, x.length ≤ M := by
  intro x hx
  rcases List.mem_or_eq_of_mem_set hx with h | h
  · simp only [idTo, List.mem_map] at h
    obtain ⟨i, _, rfl⟩ := h
    simpa using h1
  · rw [h]; exact hy
theorem repL_length (xs : List Nd) (s : Nat) (ys : List Nd) (M : Nat) (h1 : 1 ≤ M) (hy : ys.length ≤ M) : (repL xs s ys).length ≤ xs.length * M := subI_length _ _ _ h1 (repL_ims s ys M h1 hy)
theorem node_ims {xs : List Nd} (h : ∀ n ∈ xs, isNd n = true) (s : Nat) (ys : List Nd) : ∀ n ∈ xs, n.1 = 0 → 0 ≤ n.2 ∧ n.2 < ((idTo 6).set s ys).length := by
  intro n hn hz
  have := h n hn
  rw [List.length_set, idTo_length]
  simp [isNd, hz, inR] at this
  omega
/- Contracts of UniquenessFormula, of the program and of the reference. -/
theorem vmask_bit (xs : List Nd) (n : Nat) : (vmask xs).testBit n = xs.any fun x => x.1 == 0 && x.2.toNat == n := by
  have key : ∀ (xs : List Nd) (m : Nat), (xs.foldl (fun m n => if n.1 = 0 then m ||| 2 ^ n.2.toNat else m) m).testBit n = (m.testBit n || xs.any fun x => x.1 == 0 && x.2.toNat == n) := by
    intro xs
    induction xs with
    | nil => intro m; simp
    | cons x t ih =>
      intro m
      rw [List.foldl_cons, ih, List.any_cons]
      by_cases hx : x.1 = 0
      · rw [if_pos hx, Nat.testBit_or, Nat.testBit_two_pow]
        have e1 : (x.1 == 0) = true := by simp [hx]
        rw [e1, Bool.true_and, Bool.or_assoc]
        congr 2
      · rw [if_neg hx]
        have e1 : (x.1 == 0) = false := by simp [hx]
        rw [e1, Bool.false_and, Bool.false_or]
  have := key xs 0
  simpa [vmask] using this
/-- does a node of a variable occur? -/
def occ (xs : List Nd) (t : Int) : Bool := xs.any fun x => x.1 == 0 && x.2 == t
theorem occ_bit (xs : List Nd) (n : Nat) (h : ∀ x ∈ xs, isNd x = true) : occ xs n = (vmask xs).testBit n := by
  rw [vmask_bit]
  unfold occ
  induction xs with
  | nil => rfl
  | cons x t ih =>
    have key : (x.1 == 0 && x.2 == (n : Int)) = (x.1 == 0 && x.2.toNat == n) := by
      by_cases hx : x.1 = 0
      · have := h x List.mem_cons_self
        simp [isNd, hx, inR] at this
        rw [Bool.eq_iff_iff]
        simp [hx]
        omega
      · rw [show (x.1 == 0) = false from beq_eq_false_iff_ne.2 hx]
        rfl
    rw [List.any_cons, List.any_cons, ih fun y hy => h y (List.mem_cons_of_mem _ hy), key]
/-- the formula that says that two formulas imply each other -/
def eqL (v a : List Nd) : List Nd := [(2, 0)] ++ ([(4, 0)] ++ v ++ a) ++ ([(4, 0)] ++ a ++ v)
def unE (a : List Nd) (s : Nat) : List Nd := eqL [(0, (s : Int))] a
def unG (a : List Nd) (s t : Nat) : List Nd := repL (unE a s) s [(0, (t : Int))]
def unL (a : List Nd) (s t : Nat) : List Nd := [(4, 0)] ++ ((5, 0) :: ([(2, 0)] ++ unE a s ++ unG a s t)) ++ ((5, 0) :: ([(4, 0)] ++ [(0, (s : Int))] ++ [(0, (t : Int))]))
theorem unE_length (a : List Nd) (s : Nat) (h : a.length ≤ 40) : (unE a s).length ≤ 90 := by simp [unE, eqL]; omega
theorem unG_length (a : List Nd) (s t : Nat) (h : a.length ≤ 40) : (unG a s t).length ≤ 90 := by
  have h1 := repL_length (unE a s) s [(0, (t : Int))] 1 (by omega) (by simp)
  have h2 := unE_length a s h
  unfold unG
  omega
theorem unE_nodes (f : Fm) (s : Nat) (hok : f.ok = true) (hs : s ≤ 5) : ∀ n ∈ unE (enc f) s, isNd n = true := by
  have := enc_nodes (.bin .and (.bin .imp (.var s) f) (.bin .imp f (.var s))) (by simp [Fm.ok, hok, hs])
  simpa [enc, unE, eqL, BK.i] using this
theorem Sl2.two' {α : Type} {K : Cod α} {w : World} {A B : Option Addr} {n c m d : Nat} {xs ys : List α} (h : Sl K w (.slice A n c) xs) (h' : Sl K w (.slice B m d) ys) (e : TypeId) (g : Nat) (hg : g = w.heap.size) :
    Sl2 K (w.alloc (.cells #[.slice A n c, .slice B m d] e)) (.slice (some ⟨g, 0, none⟩) 2 2) [xs, ys] := by subst hg; exact Sl2.two h h' e
/-- the two states of the loop of arrow at two formulas -/
def ArS (w : World) (xs ys : List Nd) (o i : Value) (wr : World) : Prop :=
  (i = .int .i64 0 ∧ Sl cN w o ys ∧ wr = w) ∨ (i = .int .i64 (-1) ∧ Ow cN 46 w.heap.size wr o ([(4, 0)] ++ xs ++ ys) ∧ Below w.heap.size w wr)
theorem impl_arrow2 (v : Value) (xs ys : List Nd) (w : World) (h : Sl2 cN w v [xs, ys]) (hl : xs.length ≤ 262144) (hl' : ys.length ≤ 262144) :
    Calls Tryz.prog 98 #[v] w fun e w' => ∃ r, e = .returned r ∧ Ow cN 46 w.heap.size w' r ([(4, 0)] ++ xs ++ ys) ∧ Below w.heap.size w w' := by
  obtain ⟨A, c, rfl⟩ := h.opn
  obtain ⟨b, o, A0, n0, c0, rfl, hb, hc0, hs0⟩ := h.at_ (k := 0) (by simp)
  obtain ⟨b', o', A1, n1, c1, hA, hb', hc1, hs1⟩ := h.at_ (k := 1) (by simp)
  injection hA with hA
  injection hA with h1 h2 _
  subst h1
  subst h2
  simp only [List.getElem_cons_zero, List.getElem_cons_succ, Nat.add_zero, List.length_cons, List.length_nil, Nat.zero_add] at hc0 hc1 hs0 hs1 ⊢
  have S0 := Lib.hid hs0
  have S1 := Lib.hid hs1
  clear h hs0 hs1
  go_enter Tryz.func98, Tryz.ntmps98
  go_wp2
  go_loopw [3, 4] (fun o i wr => ArS w xs ys o i wr) (fun _ i _ => (intOf i + 1).toNat)
  case atStart => exact .inl ⟨rfl, S1.out, rfl⟩
  case round =>
    rcases hrel with ⟨rfl, hs, rfl⟩ | ⟨rfl, ho, hb⟩
    · have HS := Lib.hid hs
      clear hs
      go_wp2_with fail
      refine (impl_join 4 _ _ _ _ _ S0.out HS.out hl hl').mono ?_
      rintro e w1 ⟨r, rfl, ho, hb1⟩
      have O := Lib.hid ho
      have HB := Lib.hid hb1
      clear ho hb1
      go_wp2
      go_roundw
      case rel => exact .inr ⟨rfl, O.out, HB.out⟩
      case measure => simp [intOf]
    · have O := Lib.hid ho
      have HB := Lib.hid hb
      clear ho hb
      go_wp2
      go_ret
      exact ⟨_, rfl, O.out, HB.out⟩
/-- arrow at two formulas laid as a list -/
theorem impl_arrow_of {A B : Option Addr} {n c m d : Nat} (xs ys : List Nd) (w : World) (h : Sl cN w (.slice A n c) xs) (h' : Sl cN w (.slice B m d) ys) (hl : xs.length ≤ 262144) (hl' : ys.length ≤ 262144) (g : Nat) (hg : g = w.heap.size) :
    Calls Tryz.prog 98 #[.slice (some ⟨g, 0, none⟩) 2 2] (w.alloc (.cells #[.slice A n c, .slice B m d] 37)) fun e w' => ∃ r, e = .returned r ∧ Ow cN 46 w.heap.size w' r ([(4, 0)] ++ xs ++ ys) ∧ Below w.heap.size w w' := by
  subst hg
  exact (impl_arrow2 _ xs ys _ (Sl2.two h h' 37) hl hl').mono fun e w' ⟨r, he, ho, hb⟩ => ⟨r, he, ho.mono (by simp), ((Below.refl _ _).alloc (Nat.le_refl _) _).trans (hb.mono (by simp))⟩
end Go.Proofs.YtaigiopoogbbbaaGreat
