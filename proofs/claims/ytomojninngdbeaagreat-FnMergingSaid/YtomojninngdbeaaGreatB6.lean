/- Joined of several texts: 03v, 03w, 03x, 03y, 03z, 03f, 03h, 03k, 33n. -/
import Derived.Test.YtomojninngdbeaaGreatB5
import Derived.Test.YtomojninngdbeaaGreatB4
import Derived.Test.YtomojninngdbeaaGreatB3
namespace Go.Proofs.YtomojninngdbeaaGreat
open Go.RowKit
set_option linter.unusedVariables false
set_option linter.unusedSimpArgs false
/- Contracts of what FormulaOfTrace joins with: l02True, l02Own, truth, l02All. -/
/-- the formula that joins all, by an operation -/
def joinL (op : Int) (xss : List (List Nd)) : List Nd := List.replicate (xss.length - 1) (op, 0) ++ xss.flatten
theorem joinL_one (op : Int) {xss : List (List Nd)} (h : 0 < xss.length) : joinL op (xss.take 1) = xss[0] := by
  cases xss with
  | nil => simp at h
  | cons x t => simp [joinL]
theorem joinL_succ (op : Int) {xss : List (List Nd)} {j : Nat} (h : j < xss.length) (hj : 0 < j) : joinL op (xss.take (j + 1)) = [(op, 0)] ++ joinL op (xss.take j) ++ xss[j] := by
  obtain ⟨i, rfl⟩ : ∃ i, j = i + 1 := ⟨j - 1, by omega⟩
  unfold joinL
  rw [flat_take_succ xss h, List.length_take, List.length_take, Nat.min_eq_left (by omega), Nat.min_eq_left (by omega)]
  simp [List.replicate_succ]
theorem joinL_length (op : Int) (xss : List (List Nd)) : (joinL op xss).length = xss.length - 1 + xss.flatten.length := by simp [joinL]
theorem spec_l02Own (v : Value) (xs : List Nd) (w : World) (h : Sl cN w v xs) (hl : xs.length ≤ 1048576) :
    Calls Tryz.prog 129 #[v] w fun e w' => ∃ u, e = .returned u ∧ Ow cN 84 w.heap.size w' u xs ∧ Below w.heap.size w w' := by
  obtain ⟨A, c, rfl⟩ := h.opn
  go_enter Tryz.func129, Tryz.ntmps129
  go_wp2_with (at_builtin; refine stopHere ?_)
  refine goHere ?_
  refine ap_sl (K := cN) _ ty_node rfl _ _ rfl rfl rfl (B := w.heap.size) (xs := []) (news := xs) (Ow.lit [] rfl rfl (Nat.le_refl _)) (h.alloc _) (by simp <;> omega) (by simp) ?_
  intro v1 w1 ho hg hb hat
  have hb' : Below w.heap.size w w1 := ((Below.refl _ _).alloc (Nat.le_refl _) _).trans hb
  have O := Lib.hid ho; clear ho hg hb hat
  go_wp2
  go_ret
  exact ⟨_, rfl, O.out, hb'⟩
/- Contract of joinAll of the program. -/
/-- a make of no nodes with room for n -/
theorem mk_room {ops : Array Oper} {rest : List Oper} {o : Oper} {a : Act} {Q : Exit → Act → World → Prop} (w : World) (hgd : o.guard = none) (l c : Operand) (ho : o.op = Op.makeSlice 33 l c) (n : Nat)
    (hl : a.eval l = .int .i64 0) (hc : a.eval c = .int .i64 (n : Int)) (hn : n ≤ 1048576)
    (h : ∀ w', Ow cN 84 w.heap.size w' (.slice (some ⟨w.heap.size, 0, none⟩) 0 n) [] → Below w.heap.size w w' → wpList Tryz.prog ops Q rest (a.put o.dst (.slice (some ⟨w.heap.size, 0, none⟩) 0 n)) w') :
    wpList Tryz.prog ops Q (o :: rest) a w := by
  obtain ⟨i, hi, hz, hsize, hby⟩ := ty_node.info
  have hb : i.bytes = 16 := hby
  refine wpList_make_own w hgd l c 33 ho w.heap.size 84 i _ 2 ty_node.under hi hz hsize .i64 .i64 n n hl hc rfl (by rw [hb]; omega) (by simp only [maxLen]; omega) (Nat.le_refl _) fun w' hown hg => ?_
  exact h w' ⟨⟨_, _, rfl, Nat.zero_le _, by omega⟩, hown⟩ ((Below.refl _ _).grown hg (Nat.le_refl _) (by simp))
/- l02All and joinAll at the empty list. -/
def joinE (op : Int) : List Nd := if op = 2 then [(4, 0), (1, 0), (1, 0)] else [(1, 0)]
/- Contract of the program's formula of a Trace. -/
/-- the part of a rank, and the parts of a Trace -/
def elL (b : Bool) (n : Nat) : List Nd := if b then rankL n else [(4, 0)] ++ rankL n ++ [(1, 0)]
def formL (b : Bool) (xs : List Int) : List (List Nd) := xs.map fun x => elL b x.toNat
theorem formL_succ (b : Bool) {xs : List Int} {j : Nat} (h : j < xs.length) : formL b (xs.take (j + 1)) = formL b (xs.take j) ++ [elL b xs[j].toNat] := by
  unfold formL
  rw [List.take_succ_eq_append_getElem h, List.map_append]
  rfl
theorem elL_length (b : Bool) {n : Nat} (h : n ≤ 60) : (elL b n).length ≤ 200 := by
  have := rankL_length n
  unfold elL
  split
  · omega
  · simp; omega
/-- the list of all joined, by the program's or the reference's way -/
def outL (b : Bool) (xs : List Int) : List Nd := if xs.length = 0 then joinE (if b then 3 else 2) else joinL (if b then 3 else 2) (formL b xs)
/- Contract of the program's formula of a Trace. Written by gen03f.py. -/
theorem formL_flat_le (b : Bool) (xs : List Int) (h : ∀ x ∈ xs, 0 ≤ x ∧ x ≤ 60) : (formL b xs).flatten.length ≤ xs.length * 200 := by
  induction xs with
  | nil => simp [formL]
  | cons x t ih =>
    have h1 := h x List.mem_cons_self
    have h2 := ih (fun y hy => h y (List.mem_cons_of_mem _ hy))
    have h3 := elL_length b (n := x.toNat) (by omega)
    have e : formL b (x :: t) = elL b x.toNat :: formL b t := rfl
    rw [e, List.flatten_cons, List.length_append, List.length_cons]
    omega
theorem formL_length (b : Bool) (xs : List Int) : (formL b xs).length = xs.length := by simp [formL]
/- Contracts of FormulaOfTrace, of the program and of the reference. -/
theorem okT_short' {xs : List Int} (h : okT xs = true) : xs.length ≤ 61 := by
  have key : ∀ i : Nat, i < xs.length → (i : Int) ≤ xs.getD i 0 ∧ xs.getD i 0 ≤ 60 := by
    intro i
    induction i with
    | zero => intro hi; have := okT_at h hi; simp only [goodT, inR, Bool.and_eq_true, decide_eq_true_eq] at this; omega
    | succ k ih =>
      intro hi
      have h1 := ih (by omega)
      have := okT_at h hi
      simp only [goodT, inR, Bool.and_eq_true, Bool.or_eq_true, decide_eq_true_eq, Nat.add_sub_cancel] at this
      omega
  rcases Nat.lt_or_ge 61 xs.length with hq | hq
  · have := key 61 hq; omega
  · exact hq
/- Contracts of LetterlessNormal, of the program and of the reference. -/
theorem trOf_length (p : Nat → Bool) : (trOf p).length ≤ 61 := trTo_length p 61
theorem trOf_mem (p : Nat → Bool) : ∀ x ∈ trOf p, 0 ≤ x ∧ x ≤ 60 := by
  intro x hx
  simp only [trOf, trTo, List.mem_map, List.mem_filter, List.mem_range] at hx
  obtain ⟨n, ⟨hn, _⟩, rfl⟩ := hx
  omega
end Go.Proofs.YtomojninngdbeaaGreat
