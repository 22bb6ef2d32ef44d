/- Joined of several texts. -/
import Derived.Test.YtcikenffeekkeaaGreatDoorY08
import Derived.Test.YtcikenffeekkeaaGreatDoorY07
namespace Go.Proofs.YtcikenffeekkeaaGreatDoor
/- Joined of several texts: 03v, 03w, 03x, 03y, 03z, 03f, 03h, 03k, 33n. -/
open Go.RowKit
set_option linter.unusedVariables false
set_option linter.unusedSimpArgs false
/- Contracts of what FormulaOfTrace joins with: l02True, l02Own, truth, l02All. -/
/-- the formula that joins all, by an operation -/
def joinL (op : Int) (xss : List (List Nd)) : List Nd := List.replicate (xss.length - 1) (op, 0) ++ xss.flatten
theorem joinL_one (op : Int) {xss : List (List Nd)} (h : 0 < xss.length) : joinL op (xss.take 1) = xss[0] := by
  cases xss with
  | nil => simp at h
  | cons x t => simp [joinL]
theorem joinL_succ (op : Int) {xss : List (List Nd)} {j : Nat} (h : j < xss.length) (hj : 0 < j) : joinL op (xss.take (j + 1)) = [(op, 0)] ++ joinL op (xss.take j) ++ xss[j] := by
  obtain ⟨i, rfl⟩ : ∃ i, j = i + 1 := ⟨j - 1, by omega⟩
  unfold joinL
  rw [flat_take_succ xss h, List.length_take, List.length_take, Nat.min_eq_left (by omega), Nat.min_eq_left (by omega)]
  simp [List.replicate_succ]
theorem joinL_length (op : Int) (xss : List (List Nd)) : (joinL op xss).length = xss.length - 1 + xss.flatten.length := by simp [joinL]
theorem spec_l02True (w : World) :
    Calls Tryz.prog 139 #[] w fun e w' => ∃ u, e = .returned u ∧ Ow cN 75 w.heap.size w' u [(4, 0), (1, 0), (1, 0)] ∧ Below w.heap.size w w' := by
  go_enter Tryz.func139, Tryz.ntmps139
  go_wp2_with fail
  refine (spec_l02False _).mono ?_
  rintro e w1 ⟨u, rfl, ho, hb⟩
  have HB := Lib.hid hb
  have O := Lib.hid ho
  clear ho hb
  go_wp2_with fail
  refine (spec_l02Not _ _ _ O.out.sl (by simp)).mono ?_
  rintro e w2 ⟨r, rfl, ho, hb⟩
  have HB2 := Lib.hid (bthen HB.out hb)
  have hz := HB.out.size
  have O2 := Lib.hid ho
  clear ho hb
  go_wp2
  go_ret
  exact ⟨_, rfl, O2.out.mono hz, HB2.out⟩
theorem spec_l02Own (v : Value) (xs : List Nd) (w : World) (h : Sl cN w v xs) (hl : xs.length ≤ 1048576) :
    Calls Tryz.prog 59 #[v] w fun e w' => ∃ u, e = .returned u ∧ Ow cN 75 w.heap.size w' u xs ∧ Below w.heap.size w w' := by
  obtain ⟨A, c, rfl⟩ := h.opn
  go_enter Tryz.func59, Tryz.ntmps59
  go_wp2_with (at_builtin; refine stopHere ?_)
  refine goHere ?_
  refine ap_sl (K := cN) _ ty_node rfl _ _ rfl rfl rfl (B := w.heap.size) (xs := []) (news := xs) (Ow.lit [] rfl rfl (Nat.le_refl _)) (h.alloc _) (by simp <;> omega) (by simp) ?_
  intro v1 w1 ho hg hb hat
  have hb' : Below w.heap.size w w1 := ((Below.refl _ _).alloc (Nat.le_refl _) _).trans hb
  have O := Lib.hid ho; clear ho hg hb hat
  go_wp2
  go_ret
  exact ⟨_, rfl, O.out, hb'⟩
theorem impl_truth (w : World) :
    Calls Tryz.prog 156 #[] w fun e w' => ∃ u, e = .returned u ∧ Ow cN 75 w.heap.size w' u [(4, 0), (1, 0), (1, 0)] ∧ Below w.heap.size w w' := by
  go_enter Tryz.func156, Tryz.ntmps156
  go_wp2
  go_ret
  exact ⟨_, rfl, Ow.lit [(4, 0), (1, 0), (1, 0)] rfl rfl (Nat.le_refl _), (Below.refl _ _).alloc (Nat.le_refl _) _⟩
/- Contract of joinAll of the program. -/
/-- a make of no nodes with room for n -/
theorem mk_room {ops : Array Oper} {rest : List Oper} {o : Oper} {a : Act} {Q : Exit → Act → World → Prop} (w : World) (hgd : o.guard = none) (l c : Operand) (ho : o.op = Op.makeSlice 44 l c) (n : Nat)
    (hl : a.eval l = .int .i64 0) (hc : a.eval c = .int .i64 (n : Int)) (hn : n ≤ 1048576)
    (h : ∀ w', Ow cN 75 w.heap.size w' (.slice (some ⟨w.heap.size, 0, none⟩) 0 n) [] → Below w.heap.size w w' → wpList Tryz.prog ops Q rest (a.put o.dst (.slice (some ⟨w.heap.size, 0, none⟩) 0 n)) w') :
    wpList Tryz.prog ops Q (o :: rest) a w := by
  obtain ⟨i, hi, hz, hsize, hby⟩ := ty_node.info
  have hb : i.bytes = 16 := hby
  refine wpList_make_own w hgd l c 44 ho w.heap.size 75 i _ 2 ty_node.under hi hz hsize .i64 .i64 n n hl hc rfl (by rw [hb]; omega) (by simp only [maxLen]; omega) (Nat.le_refl _) fun w' hown hg => ?_
  exact h w' ⟨⟨_, _, rfl, Nat.zero_le _, by omega⟩, hown⟩ ((Below.refl _ _).grown hg (Nat.le_refl _) (by simp))
/- An owned list of lists of nodes: the header slice is the call's own, each header reads. -/
theorem ty_nodes : Ty Tryz.prog 29 44 (.slice none 0 0) 1 24 := Ty.mk' Tryz.underlying29 (by kernel_rfl) rfl (by decide)
def Ow2 (B : Nat) (w : World) (v : Value) (xss : List (List Nd)) : Prop :=
  ∃ hs : List Hd, Ow cH 44 B w v hs ∧ hs.length = xss.length ∧ ∀ i (a : i < hs.length) (b : i < xss.length), Sl cN w hs[i].val xss[i] ∧ (hs[i].val.ownBlock = none ∨ (hs[i].val.ownBlock ≠ v.ownBlock ∧ ∀ k, hs[i].val.ownBlock = some k → k < w.heap.size))
theorem Ow2.nil (B : Nat) (w : World) : Ow2 B w (.slice none 0 0) [] := ⟨[], Ow.nil _ _, rfl, fun i a => by simp at a⟩
theorem Ow2.sl2 {B : Nat} {w : World} {v : Value} {xss : List (List Nd)} (h : Ow2 B w v xss) : Sl2 cN w v xss := by
  obtain ⟨hs, h1, h2, h3⟩ := h
  exact ⟨hs, h1.sl, h2, fun i a b => (h3 i a b).1⟩
theorem Ow2.below {B : Nat} {w w' : World} {v : Value} {xss : List (List Nd)} (h : Ow2 B w v xss) (hb : Below w.heap.size w w') : Ow2 B w' v xss := by
  obtain ⟨hs, h1, h2, h3⟩ := h
  refine ⟨hs, h1.below hb, h2, fun i a b => ⟨(h3 i a b).1.below hb, ?_⟩⟩
  rcases (h3 i a b).2 with h | ⟨h, k⟩
  · exact .inl h
  · exact .inr ⟨h, fun j hj => Nat.lt_of_lt_of_le (k j hj) hb.size⟩
/-- one more header, which lies in a block that is not the header slice's -/
theorem Ow2.snoc {B : Nat} {w w' : World} {v v' : Value} {xss : List (List Nd)} {hd : Hd} {xs : List Nd} {hs : List Hd} (hs2 : hs.length = xss.length)
    (h3 : ∀ i (a : i < hs.length) (b : i < xss.length), Sl cN w hs[i].val xss[i] ∧ (hs[i].val.ownBlock = none ∨ (hs[i].val.ownBlock ≠ v.ownBlock ∧ ∀ k, hs[i].val.ownBlock = some k → k < w.heap.size)))
    (hx : Sl cN w hd.val xs) (hne : hd.val.ownBlock = none ∨ (hd.val.ownBlock ≠ v.ownBlock ∧ ∀ k, hd.val.ownBlock = some k → k < w.heap.size))
    (ho : Ow cH 44 B w' v' (hs ++ [hd])) (hg : w.grownBy w' v.ownBlock) (hat : v'.ownBlock = v.ownBlock ∨ v'.ownBlock = some w.heap.size) : Ow2 B w' v' (xss ++ [xs]) := by
  have key : ∀ (u : Value) (ys : List Nd), Sl cN w u ys → (u.ownBlock = none ∨ (u.ownBlock ≠ v.ownBlock ∧ ∀ k, u.ownBlock = some k → k < w.heap.size)) →
      Sl cN w' u ys ∧ (u.ownBlock = none ∨ (u.ownBlock ≠ v'.ownBlock ∧ ∀ k, u.ownBlock = some k → k < w'.heap.size)) := by
    intro u ys hu hn
    refine ⟨hu.grown hg (hn.imp id And.left), ?_⟩
    rcases hn with hn | ⟨hn, hk⟩
    · exact .inl hn
    · refine .inr ⟨?_, fun k e => Nat.lt_of_lt_of_le (hk k e) hg.size⟩
      rcases hat with e | e
      · rw [e]; exact hn
      · rw [e]; intro e2; exact absurd (hk _ e2) (Nat.lt_irrefl _)
  refine ⟨hs ++ [hd], ho, by simp [hs2], fun i a b => ?_⟩
  by_cases hi : i < hs.length
  · rw [List.getElem_append_left hi, List.getElem_append_left (by omega)]
    exact key _ _ (h3 i hi (by omega)).1 (h3 i hi (by omega)).2
  · have e : i = hs.length := by simp at a; omega
    subst e
    have e2 : (xss ++ [xs])[hs.length] = xs := by
      rw [List.getElem_append_right (by omega)]; simp [hs2]
    rw [e2]
    have e3 : (hs ++ [hd])[hs.length] = hd := by simp
    rw [e3]
    exact key _ _ hx hne
/- l02All and joinAll at the empty list. -/
def joinE (op : Int) : List Nd := if op = 2 then [(4, 0), (1, 0), (1, 0)] else [(1, 0)]
/- Contract of the program's formula of a Trace. -/
/-- the part of a rank, and the parts of a Trace -/
def elL (b : Bool) (n : Nat) : List Nd := if b then rankL n else [(4, 0)] ++ rankL n ++ [(1, 0)]
def formL (b : Bool) (xs : List Int) : List (List Nd) := xs.map fun x => elL b x.toNat
theorem formL_succ (b : Bool) {xs : List Int} {j : Nat} (h : j < xs.length) : formL b (xs.take (j + 1)) = formL b (xs.take j) ++ [elL b xs[j].toNat] := by
  unfold formL
  rw [List.take_succ_eq_append_getElem h, List.map_append]
  rfl
theorem elL_length (b : Bool) {n : Nat} (h : n ≤ 60) : (elL b n).length ≤ 200 := by
  have := rankL_length n
  unfold elL
  split
  · omega
  · simp; omega
/-- the list of all joined, by the program's or the reference's way -/
def outL (b : Bool) (xs : List Int) : List Nd := if xs.length = 0 then joinE (if b then 3 else 2) else joinL (if b then 3 else 2) (formL b xs)
/- only with 29 -/
/-- the header slice with one header more: the step of both loops -/
theorem Ow2.push {B : Nat} {w : World} {v : Value} {xss : List (List Nd)} {A : Option Addr} {c : Nat} {xs : List Nd} {B2 : Nat}
    (h : Ow2 B w v xss) (hu : Ow cN 75 B2 w (.slice A xs.length c) xs) (hB : ∀ k, v.ownBlock = some k → k < B2) :
    ∃ hs : List Hd, Ow cH 44 B w v hs ∧ hs.length = xss.length ∧
      ∀ w' v', Ow cH 44 B w' v' (hs ++ [⟨A, xs.length, c⟩]) → (w.alloc (.cells #[.slice A xs.length c] 44)).grownBy w' v.ownBlock →
        (v'.ownBlock = v.ownBlock ∨ v'.ownBlock = some (w.alloc (.cells #[.slice A xs.length c] 44)).heap.size) → Ow2 B w' v' (xss ++ [xs]) := by
  have ha := h.below ((Below.refl _ _).alloc (Nat.le_refl _) (.cells #[.slice A xs.length c] 44))
  obtain ⟨hs, h1, h2, h3⟩ := h
  have hlt : ∀ k, (Value.slice A xs.length c).ownBlock = some k → B2 ≤ k ∧ k < w.heap.size := hu.block
  refine ⟨hs, h1, h2, fun w' v' ho hg hat => ?_⟩
  refine Ow2.snoc (hd := ⟨A, xs.length, c⟩) (w := w.alloc (.cells #[.slice A xs.length c] 44)) h2 (fun i a b => ⟨(h3 i a b).1.alloc _, ?_⟩) (hu.sl.alloc _) ?_ ho hg hat
  · rcases (h3 i a b).2 with h | ⟨h, k⟩
    · exact .inl h
    · exact .inr ⟨h, fun j hj => by have := k j hj; simp; omega⟩
  · show (Value.slice A xs.length c).ownBlock = none ∨ _
    cases hq : (Value.slice A xs.length c).ownBlock with
    | none => exact .inl rfl
    | some k =>
      have hk := hlt k hq
      refine .inr ⟨?_, fun j hj => ?_⟩
      · rw [show (Hd.val ⟨A, xs.length, c⟩).ownBlock = some k from hq]
        intro e
        have := hB k e.symm
        omega
      · have hj' : (Value.slice A xs.length c).ownBlock = some j := hj
        have := (hlt j hj').2
        simp; omega
/- Contract of the program's formula of a Trace. Written by gen03f.py. -/
theorem formL_flat_le (b : Bool) (xs : List Int) (h : ∀ x ∈ xs, 0 ≤ x ∧ x ≤ 60) : (formL b xs).flatten.length ≤ xs.length * 200 := by
  induction xs with
  | nil => simp [formL]
  | cons x t ih =>
    have h1 := h x List.mem_cons_self
    have h2 := ih (fun y hy => h y (List.mem_cons_of_mem _ hy))
    have h3 := elL_length b (n := x.toNat) (by omega)
    have e : formL b (x :: t) = elL b x.toNat :: formL b t := rfl
    rw [e, List.flatten_cons, List.length_append, List.length_cons]
    omega
theorem formL_length (b : Bool) (xs : List Int) : (formL b xs).length = xs.length := by simp [formL]
/- Contract of the reference's formula of a Trace. Written by gen03h.py. -/ /- only with 29 -/
theorem Ow2.lit (B g : Nat) (w : World) (hg : g = w.heap.size) (hB : B ≤ g) : Ow2 B (w.alloc (.cells #[] 44)) (.slice (some ⟨g, 0, none⟩) 0 0) [] :=
  ⟨[], Ow.lit' [] hg rfl rfl hB, rfl, fun i a => by simp at a⟩
/- Contracts of FormulaOfTrace, of the program and of the reference. -/
theorem okT_short' {xs : List Int} (h : okT xs = true) : xs.length ≤ 61 := by
  have key : ∀ i : Nat, i < xs.length → (i : Int) ≤ xs.getD i 0 ∧ xs.getD i 0 ≤ 60 := by
    intro i
    induction i with
    | zero => intro hi; have := okT_at h hi; simp only [goodT, inR, Bool.and_eq_true, decide_eq_true_eq] at this; omega
    | succ k ih =>
      intro hi
      have h1 := ih (by omega)
      have := okT_at h hi
      simp only [goodT, inR, Bool.and_eq_true, Bool.or_eq_true, decide_eq_true_eq, Nat.add_sub_cancel] at this
      omega
  rcases Nat.lt_or_ge 61 xs.length with hq | hq
  · have := key 61 hq; omega
  · exact hq
/- Contracts of LetterlessNormal, of the program and of the reference. -/
theorem trOf_length (p : Nat → Bool) : (trOf p).length ≤ 61 := trTo_length p 61
theorem trOf_mem (p : Nat → Bool) : ∀ x ∈ trOf p, 0 ≤ x ∧ x ≤ 60 := by
  intro x hx
  simp only [trOf, trTo, List.mem_map, List.mem_filter, List.mem_range] at hx
  obtain ⟨n, ⟨hn, _⟩, rfl⟩ := hx
  omega
/- Plain law of Hilbert proofs: matching a scheme. No program in sight. -/
open Go.RowKit
set_option linter.unusedVariables false
set_option linter.unusedSimpArgs false
/-- images of variables, fs far fs they are known -/
abbrev Img := Nat → Option Fm
def Img.put (σ : Img) (s : Nat) (g : Fm) : Img := fun i => if i = s then some g else σ i
/-- a formula matched to another one -/
def mat : Fm → Fm → Img → Option Img
  | .var s, g, σ => match σ s with
    | some h => if enc h = enc g then some σ else none
    | none => some (σ.put s g)
  | .fls, .fls, σ => some σ
  | .fls, _, _ => none
  | .bin k a b, .bin k' a' b', σ => if k.i = k'.i then (mat a a' σ).bind fun τ => mat b b' τ else none
  | .bin _ _ _, _, _ => none
  | .un k a, .un k' a', σ => if k.i = k'.i then mat a a' σ else none
  | .un _ _, _, _ => none
/-- one after another -/
def matL : List Fm → List Fm → Img → Option Img
  | [], [], σ => some σ
  | x :: fs, y :: gs, σ => (mat x y σ).bind fun τ => matL fs gs τ
  | _, _, _ => none
def encs (l : List Fm) : List Nd := l.flatMap enc
theorem encs_cons (f : Fm) (l : List Fm) : encs (f :: l) = enc f ++ encs l := rfl
theorem encs_bin (k : BK) (a b : Fm) (l : List Fm) : encs (.bin k a b :: l) = (k.i, 0) :: encs (a :: b :: l) := by simp [encs, enc]
theorem encs_un (k : UK) (a : Fm) (l : List Fm) : encs (.un k a :: l) = (k.i, 0) :: encs (a :: l) := by simp [encs, enc]
theorem encs_fls (l : List Fm) : encs (.fls :: l) = (1, 0) :: encs l := rfl
theorem encs_var (s : Nat) (l : List Fm) : encs (.var s :: l) = (0, (s : Int)) :: encs l := rfl
theorem matL_bin (k : BK) (a b a' b' : Fm) (fs gs : List Fm) (σ : Img) : matL (.bin k a b :: fs) (.bin k a' b' :: gs) σ = matL (a :: b :: fs) (a' :: b' :: gs) σ := by
  simp only [matL, mat, if_true]
  rw [Option.bind_assoc]
theorem matL_un (k : UK) (a a' : Fm) (fs gs : List Fm) (σ : Img) : matL (.un k a :: fs) (.un k a' :: gs) σ = matL (a :: fs) (a' :: gs) σ := by
  simp only [matL, mat, if_true]
theorem matL_fls (fs gs : List Fm) (σ : Img) : matL (.fls :: fs) (.fls :: gs) σ = matL fs gs σ := rfl
/-- the first node of a formula -/
def hd1 : Fm → Nd
  | .var s => (0, (s : Int))
  | .fls => (1, 0)
  | .bin k _ _ => (k.i, 0)
  | .un k _ => (k.i, 0)
theorem encs_hd (f : Fm) (l : List Fm) : ∃ r, encs (f :: l) = hd1 f :: r := by
  cases f with
  | var s => exact ⟨_, encs_var s l⟩
  | fls => exact ⟨_, encs_fls l⟩
  | bin k a b => exact ⟨_, encs_bin k a b l⟩
  | un k a => exact ⟨_, encs_un k a l⟩
theorem matL_len : ∀ (fs gs : List Fm) (σ : Img), fs.length ≠ gs.length → matL fs gs σ = none
  | [], [], _, h => absurd rfl h
  | [], _ :: _, _, _ => rfl
  | _ :: _, [], _, _ => rfl
  | x :: fs, y :: gs, σ, h => by
    unfold matL
    cases mat x y σ with
    | none => rfl
    | some τ => exact matL_len fs gs τ (by simpa using h)
/-- a step at a formula that is no variable: the first nodes must be the same; then both go on -/
theorem mat_step (x y : Fm) (fs gs : List Fm) (σ : Img) (hx : ∀ s, x ≠ .var s) : (hd1 y ≠ hd1 x → matL (x :: fs) (y :: gs) σ = none) ∧
    (hd1 y = hd1 x → ∃ ps qs, encs (x :: fs) = hd1 x :: encs (ps ++ fs) ∧ encs (y :: gs) = hd1 y :: encs (qs ++ gs) ∧ ps.length = qs.length ∧ (x.ok = true → ∀ z ∈ ps, z.ok = true) ∧ matL (x :: fs) (y :: gs) σ = matL (ps ++ fs) (qs ++ gs) σ) := by
  cases x with
  | var s => exact absurd rfl (hx s)
  | fls =>
    cases y with
    | fls => exact ⟨fun h => absurd rfl h, fun _ => ⟨[], [], rfl, rfl, rfl, fun _ z hz => (by cases hz), rfl⟩⟩
    | var s => exact ⟨fun _ => rfl, fun h => by simp [hd1] at h⟩
    | bin k a b => exact ⟨fun _ => rfl, fun h => by cases k <;> simp [hd1, BK.i] at h⟩
    | un k a => exact ⟨fun _ => rfl, fun h => by cases k <;> simp [hd1, UK.i] at h⟩
  | bin k a b =>
    cases y with
    | fls => exact ⟨fun _ => rfl, fun h => by cases k <;> simp [hd1, BK.i] at h⟩
    | var s => exact ⟨fun _ => rfl, fun h => by cases k <;> simp [hd1, BK.i] at h⟩
    | un k' a => exact ⟨fun _ => rfl, fun h => by cases k <;> cases k' <;> simp [hd1, BK.i, UK.i] at h⟩
    | bin k' a' b' =>
      by_cases e : k.i = k'.i
      · have e' : k = k' := by cases k <;> cases k' <;> simp_all [BK.i]
        subst e'
        exact ⟨fun h => absurd rfl h, fun _ => ⟨[a, b], [a', b'], encs_bin .., encs_bin .., rfl, fun h z hz => (by simp only [Fm.ok, Bool.and_eq_true] at h; simp only [List.mem_cons, List.not_mem_nil, or_false] at hz; rcases hz with rfl | rfl; exact h.1; exact h.2), matL_bin ..⟩⟩
      · refine ⟨fun _ => ?_, fun h => ?_⟩
        · simp only [matL, mat, if_neg e, Option.bind_none]
        · exfalso; cases k <;> cases k' <;> simp_all [hd1, BK.i]
  | un k a =>
    cases y with
    | fls => exact ⟨fun _ => rfl, fun h => by cases k <;> simp [hd1, UK.i] at h⟩
    | var s => exact ⟨fun _ => rfl, fun h => by cases k <;> simp [hd1, UK.i] at h⟩
    | bin k' a' b' => exact ⟨fun _ => rfl, fun h => by cases k <;> cases k' <;> simp [hd1, BK.i, UK.i] at h⟩
    | un k' a' =>
      by_cases e : k.i = k'.i
      · have e' : k = k' := by cases k <;> cases k' <;> simp_all [UK.i]
        subst e'
        exact ⟨fun h => absurd rfl h, fun _ => ⟨[a], [a'], encs_un .., encs_un .., rfl, fun h z hz => (by simp only [Fm.ok] at h; rw [List.mem_singleton.1 hz]; exact h), matL_un ..⟩⟩
      · refine ⟨fun _ => ?_, fun h => ?_⟩
        · simp only [matL, mat, if_neg e, Option.bind_none]
        · exfalso; cases k <;> cases k' <;> simp_all [hd1, UK.i]
/-- a step at a variable -/
theorem mat_var (s : Nat) (y : Fm) (fs gs : List Fm) (σ : Img) : matL (.var s :: fs) (y :: gs) σ = match σ s with
    | some h => if enc h = enc y then matL fs gs σ else none
    | none => matL fs gs (σ.put s y) := by
  conv => lhs; rw [matL, mat]
  cases σ s with
  | none => rfl
  | some h =>
    simp only
    split <;> rfl
/-- does it match? -/
def inst (f g : Fm) : Bool := (mat f g fun _ => none).isSome
theorem inst_L (f g : Fm) : inst f g = (matL [f] [g] fun _ => none).isSome := by
  unfold inst matL
  cases mat f g fun _ => none <;> rfl
end Go.Proofs.YtcikenffeekkeaaGreatDoor
