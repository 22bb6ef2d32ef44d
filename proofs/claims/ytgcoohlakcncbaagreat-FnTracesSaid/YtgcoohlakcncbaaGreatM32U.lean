/- Plain law: the formula of a trace has that trace. -/
import Derived.Test.YtgcoohlakcncbaaGreatM32T
import Derived.Test.YtgcoohlakcncbaaGreatB6
namespace Go.Proofs.YtgcoohlakcncbaaGreat
open Go.RowKit
set_option linter.unusedVariables false
set_option linter.unusedSimpArgs false
/-- n boxes before falsehood -/
def bxF : Nat → Fm
  | 0 => .fls
  | n + 1 => .un .box (bxF n)
theorem bxF_enc (n : Nat) : enc (bxF n) = boxesL n := by
  induction n with
  | zero => rfl
  | succ n ih => simp [bxF, enc, ih, boxesL, List.replicate_succ, UK.i]
theorem bxF_novar (n : Nat) : (bxF n).novar = true := by
  induction n with
  | zero => rfl
  | succ n ih => simpa [bxF, Fm.novar] using ih
theorem bxF_rk (n k : Nat) : rk (bxF n) 0 k = decide (k < n) := by
  induction n generalizing k with
  | zero => simp [bxF, rk]
  | succ n ih =>
    rw [bxF, rk, Bool.eq_iff_iff, List.all_eq_true, decide_eq_true_iff]
    constructor
    · intro h
      by_cases hk : k ≤ n
      · omega
      · have := h n (List.mem_range.2 (by omega))
        rw [ih] at this
        simp at this
    · intro h x hx
      rw [ih, decide_eq_true_iff]
      have := List.mem_range.1 hx
      omega
def rF (n : Nat) : Fm := if n = 0 then bxF 1 else .bin .and (bxF (n + 1)) (.bin .imp (bxF n) .fls)
theorem rF_enc (n : Nat) : enc (rF n) = rankL n := by
  unfold rF rankL
  split
  · rw [bxF_enc]
  · simp [enc, bxF_enc, BK.i]
theorem rF_novar (n : Nat) : (rF n).novar = true := by
  unfold rF
  split
  · exact bxF_novar 1
  · simp [Fm.novar, bxF_novar]
theorem rF_rk (n k : Nat) : rk (rF n) 0 k = decide (k = n) := by
  unfold rF
  split
  · rename_i h; subst h; rw [bxF_rk]; simp
  · simp only [rk, bxF_rk, Bool.or_false]
    rw [Bool.eq_iff_iff]
    simp
    omega
def eF (b : Bool) (n : Nat) : Fm := if b then rF n else .bin .imp (rF n) .fls
theorem eF_enc (b : Bool) (n : Nat) : enc (eF b n) = elL b n := by
  cases b <;> simp [eF, elL, enc, rF_enc, BK.i]
theorem eF_novar (b : Bool) (n : Nat) : (eF b n).novar = true := by
  cases b <;> simp [eF, Fm.novar, rF_novar]
theorem eF_rk (b : Bool) (n k : Nat) : rk (eF b n) 0 k = (decide (k = n) == b) := by
  cases b <;> simp [eF, rk, rF_rk]
/-- formulas joined from the left -/
def jF (k : BK) (a : Fm) (fs : List Fm) : Fm := fs.foldl (fun a b => .bin k a b) a
theorem jF_enc (k : BK) (a : Fm) (fs : List Fm) : enc (jF k a fs) = joinL k.i ((a :: fs).map enc) := by
  unfold jF joinL
  induction fs generalizing a with
  | nil => simp
  | cons b fs ih =>
    rw [List.foldl_cons, ih]
    simp only [List.map_cons, List.length_cons, List.length_map, List.flatten_cons, Nat.add_sub_cancel, enc, List.replicate_succ', List.append_assoc, List.cons_append, List.nil_append]
theorem jF_novar (k : BK) (a : Fm) (fs : List Fm) (ha : a.novar = true) (h : ∀ f ∈ fs, f.novar = true) : (jF k a fs).novar = true := by
  unfold jF
  induction fs generalizing a with
  | nil => exact ha
  | cons b fs ih =>
    rw [List.foldl_cons]
    exact ih _ (by simp [Fm.novar, ha, h b (List.mem_cons_self ..)]) fun f hf => h f (List.mem_cons_of_mem _ hf)
theorem jF_or (a : Fm) (fs : List Fm) (k : Nat) : rk (jF .or a fs) 0 k = (rk a 0 k || fs.any fun f => rk f 0 k) := by
  unfold jF
  induction fs generalizing a with
  | nil => simp
  | cons b fs ih => rw [List.foldl_cons, ih]; simp [rk, Bool.or_assoc]
theorem jF_and (a : Fm) (fs : List Fm) (k : Nat) : rk (jF .and a fs) 0 k = (rk a 0 k && fs.all fun f => rk f 0 k) := by
  unfold jF
  induction fs generalizing a with
  | nil => simp
  | cons b fs ih => rw [List.foldl_cons, ih]; simp [rk, Bool.and_assoc]
/-- the formula of a trace -/
def oF (b : Bool) : List Int → Fm
  | [] => if b then .fls else .bin .imp .fls .fls
  | x :: xs => jF (if b then .or else .and) (eF b x.toNat) (xs.map fun y => eF b y.toNat)
theorem oF_enc (b : Bool) (xs : List Int) : enc (oF b xs) = outL b xs := by
  cases xs with
  | nil => cases b <;> simp [oF, outL, joinE, enc, BK.i]
  | cons x xs =>
    rw [oF, jF_enc, outL, if_neg (show ¬ (x :: xs).length = 0 by simp)]
    rw [show (if b then BK.or else BK.and).i = (if b then 3 else 2) by cases b <;> rfl]
    congr 1
    simp [formL, eF_enc, Function.comp_def]
theorem oF_novar (b : Bool) (xs : List Int) : (oF b xs).novar = true := by
  cases xs with
  | nil => cases b <;> rfl
  | cons x xs =>
    exact jF_novar _ _ _ (eF_novar _ _) fun f hf => by
      obtain ⟨y, -, rfl⟩ := List.mem_map.1 hf
      exact eF_novar _ _
theorem oF_rk (b : Bool) (xs : List Int) (h : ∀ x ∈ xs, 0 ≤ x) (k : Nat) : rk (oF b xs) 0 k = (decide ((k : Int) ∈ xs) == b) := by
  cases xs with
  | nil => cases b <;> simp [oF, rk]
  | cons x xs =>
    have key : ∀ y ∈ x :: xs, rk (eF b y.toNat) 0 k = (decide ((k : Int) = y) == b) := fun y hy => by
      rw [eF_rk]
      have := h y hy
      congr 2
      exact propext ⟨fun e => by omega, fun e => by omega⟩
    rw [oF]
    cases b with
    | true =>
      rw [if_pos rfl, jF_or, key x (List.mem_cons_self ..), List.any_map]
      rw [Bool.eq_iff_iff]
      simp only [beq_true, Bool.or_eq_true, List.any_eq_true, Function.comp_apply, decide_eq_true_iff, List.mem_cons]
      constructor
      · rintro (e | ⟨y, hy, e⟩)
        · exact .inl e
        · rw [key y (List.mem_cons_of_mem _ hy)] at e
          simp at e
          exact .inr (e ▸ hy)
      · rintro (e | e)
        · exact .inl e
        · exact .inr ⟨_, e, by rw [key _ (List.mem_cons_of_mem _ e)]; simp⟩
    | false =>
      rw [if_neg (by decide), jF_and, key x (List.mem_cons_self ..), List.all_map]
      rw [Bool.eq_iff_iff]
      simp only [beq_false, Bool.and_eq_true, List.all_eq_true, Function.comp_apply, Bool.not_eq_true', decide_eq_false_iff_not, List.mem_cons, not_or]
      constructor
      · rintro ⟨e, h2⟩
        refine ⟨e, fun hm => ?_⟩
        have := h2 _ hm
        rw [key _ (List.mem_cons_of_mem _ hm)] at this
        simp at this
      · rintro ⟨e, h2⟩
        refine ⟨e, fun y hy => ?_⟩
        rw [key y (List.mem_cons_of_mem _ hy)]
        simp
        rintro rfl
        exact h2 hy
theorem novar_ok (f : Fm) (h : f.novar = true) : f.ok = true := by
  induction f with
  | var s => simp [Fm.novar] at h
  | fls => rfl
  | bin k a b iha ihb => simp only [Fm.novar, Bool.and_eq_true] at h; simp [Fm.ok, iha h.1, ihb h.2]
  | un k a ih => simp only [Fm.novar] at h; simp [Fm.ok, ih h]
theorem outL_long (b : Bool) (xs : List Int) : xs.length ≤ (outL b xs).length ∧ ∀ x ∈ xs, (rankL x.toNat).length ≤ (outL b xs).length := by
  cases xs with
  | nil => exact ⟨by simp, fun x hx => by cases hx⟩
  | cons y ys =>
    unfold outL
    rw [if_neg (show ¬ (y :: ys).length = 0 by simp)]
    generalize y :: ys = zs
    have h1 : ∀ n, 0 < (rankL n).length := fun n => by unfold rankL; split <;> simp [boxesL]
    have h2 : ∀ n, (rankL n).length ≤ (elL b n).length := fun n => by unfold elL; split <;> simp <;> omega
    have h3 : zs.length ≤ (formL b zs).flatten.length ∧ ∀ x ∈ zs, (rankL x.toNat).length ≤ (formL b zs).flatten.length := by
      induction zs with
      | nil => exact ⟨by simp, fun x hx => by cases hx⟩
      | cons z zs ih =>
        have e : formL b (z :: zs) = elL b z.toNat :: formL b zs := rfl
        rw [e, List.flatten_cons, List.length_append]
        have := h1 z.toNat
        have := h2 z.toNat
        refine ⟨by rw [List.length_cons]; omega, fun x hx => ?_⟩
        rcases List.mem_cons.1 hx with rfl | hx
        · omega
        · have := ih.2 x hx; omega
    unfold joinL
    rw [List.length_append, List.length_replicate]
    exact ⟨by omega, fun x hx => by have := h3.2 x hx; omega⟩
theorem no60 {b : Bool} {xs : List Int} (hl : (outL b xs).length ≤ 40) : (60 : Int) ∉ xs := fun h => by
  have := (outL_long b xs).2 60 h
  simp [rankL, boxesL] at this
  omega
theorem oF_fin {b : Bool} {xs : List Int} (h : okT xs = true) (hl : (outL b xs).length ≤ 40) : (!rk (oF b xs) 0 60) = b := by
  rw [oF_rk b xs (fun x hx => (okT_rng h hx).1)]
  have := no60 hl
  cases b <;> simpa using this
theorem oF_tr {b : Bool} {xs : List Int} (h : okT xs = true) (hl : (outL b xs).length ≤ 40) : trOf (rk (oF b xs) 0) = xs := by
  have hf := oF_fin h hl
  unfold trOf trTo
  simp only [hf]
  refine asc_eq _ _ ?_ (okT_pw h) fun a => ?_
  · have := rng61_asc.filter fun x : Int => rk (oF b xs) 0 x.toNat == b
    unfold rng61 at this
    rw [List.filter_map] at this
    simpa [Function.comp_def] using this
  · simp only [List.mem_map, List.mem_filter, List.mem_range]
    have hr := oF_rk b xs (fun x hx => (okT_rng h hx).1)
    constructor
    · rintro ⟨n, ⟨hn, hb⟩, rfl⟩
      rw [hr] at hb
      cases b <;> simpa using hb
    · intro ha
      obtain ⟨h1, h2⟩ := okT_rng h ha
      refine ⟨a.toNat, ⟨by omega, ?_⟩, by omega⟩
      rw [hr, show ((a.toNat : Nat) : Int) = a by omega]
      cases b <;> simp [ha]
/-- the trace of a box before a formula -/
theorem box_rk (f : Fm) (n : Nat) : rk (.un .box f) 0 n = (List.range n).all (rk f 0) := rfl
theorem box_all (f : Fm) {n : Nat} (hn : n ≤ 61) (h : ffI (rk f 0) < 0) : rk (.un .box f) 0 n = true := by
  unfold ffI at h
  rw [box_rk, List.all_eq_true]
  intro x hx
  split at h
  · omega
  · rename_i he
    have := List.find?_eq_none.1 he x (List.mem_range.2 (by have := List.mem_range.1 hx; omega))
    simpa using this
theorem box_some (f : Fm) {t : Nat} (h : ffI (rk f 0) = t) (n : Nat) : rk (.un .box f) 0 n = decide (n ≤ t) := by
  unfold ffI at h
  split at h
  · rename_i m he
    have hmt : m = t := by omega
    subst hmt
    obtain ⟨h1, -, h2⟩ := List.find?_range_eq_some.1 he
    have hlow : ∀ x < m, rk f 0 x = true := fun x hx => by simpa using h2 x hx
    rw [box_rk, Bool.eq_iff_iff, List.all_eq_true, decide_eq_true_iff]
    constructor
    · intro hx
      by_cases hn : n ≤ m
      · exact hn
      · have := hx m (List.mem_range.2 (by omega))
        simp [this] at h1
    · intro hn x hx
      exact hlow x (by have := List.mem_range.1 hx; omega)
  · omega
theorem vmask_nil (f : Fm) (h : f.novar = true) : ∀ n ∈ enc f, n.1 ≠ 0 := by
  induction f with
  | var s => simp [Fm.novar] at h
  | fls => intro n hn; simp [enc] at hn; subst hn; decide
  | bin k a b iha ihb =>
    simp only [Fm.novar, Bool.and_eq_true] at h
    intro n hn
    rw [enc] at hn
    rcases List.mem_cons.1 hn with rfl | hn
    · cases k <;> decide
    · rcases List.mem_append.1 hn with hn | hn
      · exact iha h.1 n hn
      · exact ihb h.2 n hn
  | un k a ih =>
    simp only [Fm.novar] at h
    intro n hn
    rw [enc] at hn
    rcases List.mem_cons.1 hn with rfl | hn
    · cases k <;> decide
    · exact ih h n hn
theorem vmask_none (xs : List Nd) (h : ∀ n ∈ xs, n.1 ≠ 0) : vmask xs = 0 := by
  unfold vmask
  induction xs with
  | nil => rfl
  | cons x xs ih =>
    rw [List.foldl_cons, if_neg (h x (List.mem_cons_self ..))]
    exact ih fun n hn => h n (List.mem_cons_of_mem _ hn)
theorem lcode_novar (f : Fm) (h : f.novar = true) (hl : (enc f).length ≤ 40) : lcode [enc f] = 0 := by
  have h1 : isF (enc f) = true := (isF_iff _).2 ⟨f, novar_ok f h, rfl, hl⟩
  have h2 : letterless (enc f) = true := by simp [letterless, vmask_none _ (vmask_nil f h)]
  simp [lcode, h1, h2]
/-- the trace of a box before a trace's formula -/
theorem box_tr {b : Bool} {xs : List Int} (h : okT xs = true) (hl : (outL b xs).length ≤ 40) :
    (ffT b xs < 0 ∧ (!rk (.un .box (oF b xs)) 0 60) = false ∧ trOf (rk (.un .box (oF b xs)) 0) = []) ∨ ∃ t : Nat, ffT b xs = t ∧ t ≤ 59 ∧ (!rk (.un .box (oF b xs)) 0 60) = true ∧ trOf (rk (.un .box (oF b xs)) 0) = shL (t + 1) := by
  have e1 := ff_tr (rk (oF b xs) 0)
  have hfin := oF_fin h hl
  have htr := oF_tr h hl
  rw [hfin, htr] at e1
  rcases (show ffI (rk (oF b xs) 0) < 0 ∨ 0 ≤ ffI (rk (oF b xs) 0) by omega) with q | q
  · refine .inl ⟨by omega, by rw [box_all _ (by omega) q]; rfl, ?_⟩
    unfold trOf trTo
    rw [box_all _ (by omega) q, List.filter_eq_nil_iff.2, List.map_nil]
    intro n hn
    rw [box_all _ (by have := List.mem_range.1 hn; omega) q]
    decide
  · obtain ⟨t, ht⟩ := Int.eq_ofNat_of_zero_le q
    have ht' : ffI (rk (oF b xs) 0) = (t : Int) := ht
    have hb := box_some _ ht'
    have h59 : t ≤ 59 := by
      refine Decidable.byContradiction fun hc => ?_
      have hlo : ∀ n, n ≤ 59 → rk (oF b xs) 0 n = true := fun n hn => by
        have h1 := hb (n + 1)
        rw [decide_eq_true (by omega), box_rk, List.all_eq_true] at h1
        exact h1 n (List.mem_range.2 (by omega))
      have hx := oF_rk b xs (fun x hx => (okT_rng h hx).1)
      have hlen := (outL_long b xs).1
      cases b with
      | true =>
        have hsub : ∀ n : Nat, n ≤ 59 → (n : Int) ∈ xs := fun n hn => by
          have := hlo n hn
          rw [hx] at this
          simpa using this
        have hle : (rng61.filter fun x => decide (x ≤ 59)).length ≤ xs.length := by
          have e : (xs.filter fun x => decide (x ≤ 59)) = rng61.filter fun x => decide (x ≤ 59) := asc_eq _ _ ((okT_pw h).filter _) (rng61_asc.filter _) fun a => by
            rw [List.mem_filter, List.mem_filter, mem_rng61, decide_eq_true_iff]
            constructor
            · rintro ⟨h1, h2⟩
              exact ⟨okT_rng h h1, h2⟩
            · rintro ⟨⟨h1, h3⟩, h2⟩
              have := hsub a.toNat (by omega)
              rw [show ((a.toNat : Nat) : Int) = a by omega] at this
              exact ⟨this, h2⟩
          rw [← e]
          exact List.length_filter_le ..
        have h60 : (rng61.filter fun x => decide (x ≤ 59)).length = 60 := by decide
        omega
      | false =>
        have hf60 : rk (oF false xs) 0 60 = true := by simpa using hfin
        have hnone : ffI (rk (oF false xs) 0) = -1 := by
          unfold ffI
          rw [List.find?_eq_none.2]
          intro n hn
          have := List.mem_range.1 hn
          by_cases hn60 : n = 60
          · subst hn60; rw [hf60]; decide
          · rw [hlo n (by omega)]; decide
        omega
    refine .inr ⟨t, by omega, h59, by rw [hb]; simp; omega, ?_⟩
    unfold trOf trTo
    rw [hb 60, decide_eq_false (by omega)]
    unfold shL
    congr 1
    rw [show (61 : Nat) = (t + 1) + (60 - t) by omega, List.range_add, List.filter_append]
    rw [List.filter_eq_self.2, List.filter_eq_nil_iff.2, List.append_nil]
    · intro n hn
      obtain ⟨k, hk, rfl⟩ := List.mem_map.1 hn
      rw [hb]; simp; omega
    · intro n hn
      have := List.mem_range.1 hn
      rw [hb]; simp; omega
/-- whether a rank belongs to a trace -/
def inT (b : Bool) (xs : List Int) (n : Int) : Bool := decide (n ∈ xs) == b
theorem inT_not (b : Bool) (xs : List Int) (n : Int) : inT (!b) xs n = !inT b xs n := by unfold inT; cases b <;> simp
theorem inT_meet (bt bu : Bool) (xs ys : List Int) (h : okT xs = true) (h' : okT ys = true) (n : Int) (hn : 0 ≤ n) : inT (bt || bu) (mtR bt xs bu ys) n = (inT bt xs n && inT bu ys n) := by
  have e : decide (n ∈ mtR bt xs bu ys) = (decide (n ≤ 60) && mtB bt xs bu ys n) := by
    unfold mtR
    rw [Bool.eq_iff_iff, decide_eq_true_iff, List.mem_filter, mem_rng61]
    simp only [Bool.and_eq_true, decide_eq_true_iff]
    exact ⟨fun ⟨a, b⟩ => ⟨a.2, b⟩, fun ⟨a, b⟩ => ⟨⟨hn, a⟩, b⟩⟩
  unfold inT
  rw [e]
  by_cases h60 : n ≤ 60
  · rw [decide_eq_true h60]
    unfold mtB
    cases bt <;> cases bu <;> by_cases hx : n ∈ xs <;> by_cases hy : n ∈ ys <;> simp [hx, hy]
  · have hx : n ∉ xs := fun hm => h60 (okT_rng h hm).2
    have hy : n ∉ ys := fun hm => h60 (okT_rng h' hm).2
    rw [decide_eq_false h60]
    cases bt <;> cases bu <;> simp [hx, hy]
end Go.Proofs.YtgcoohlakcncbaaGreat
