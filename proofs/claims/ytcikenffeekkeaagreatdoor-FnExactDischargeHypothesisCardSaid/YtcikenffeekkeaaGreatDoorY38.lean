/- Over any program: a region whose orders are left open, shown operation by operation and not order by order: each of its first operations is shown from what the operations that it waits for have yielded, in any world that meets a condition; each leaves all that lies in memory as it was. -/
import Derived.Test.YtcikenffeekkeaaGreatDoorY11
import Derived.Below
namespace Go.Proofs.YtcikenffeekkeaaGreatDoor
open Go.RowKit
set_option linter.unusedVariables false
section
variable {P : Program} {ops : Array Oper}
/-- what a slot holds -/
def sv (d : Option Tmp) (a : Act) : Value := match d with | some t => a.tmps.getD t undef | none => undef
/-- the block to which a value points -/
def blk1 (v : Value) : List Nat := match v with
  | .pointer (some p) => [p.block]
  | .pointer none => []
  | v => v.ownBlock.toList
def blksA (v : Value) : List Nat := match v with
  | .agg xs => xs.toList.flatMap blk1
  | v => blk1 v
/-- the blocks to which a value points -/
def blks (v : Value) : List Nat := match v with
  | .tuple xs => xs.toList.flatMap blksA
  | v => blksA v
def dstAt (ops : Array Oper) (i : Nat) : Option Tmp := (ops[i]?).bind (·.dst)
def puts (ops : Array Oper) (vs : Nat → Value) : List Nat → Act → Act
  | [], a => a
  | i :: L, a => puts ops vs L (a.put (dstAt ops i) (vs i))
theorem put_defers' (a : Act) (d : Option Tmp) (v : Value) : (a.put d v).defers = a.defers := by cases d <;> rfl
theorem put_size' (a : Act) (d : Option Tmp) (v : Value) : (a.put d v).tmps.size = a.tmps.size := by cases d <;> simp [Act.put]
theorem put_ne' {a : Act} {d : Option Tmp} {v : Value} {k : Tmp} (h : d ≠ some k) : (a.put d v).tmps[k]? = a.tmps[k]? := by
  cases d with
  | none => rfl
  | some t => exact Array.getElem?_setIfInBounds_ne (fun e => h (by rw [e]))
theorem put_at' {a : Act} {v : Value} {k : Tmp} (h : k < a.tmps.size) : (a.put (some k) v).tmps[k]? = some v := by
  simp [Act.put, h]
theorem puts_df (vs : Nat → Value) : ∀ (L : List Nat) (a : Act), (puts ops vs L a).defers = a.defers
  | [], a => rfl
  | i :: L, a => by rw [puts, puts_df vs L, put_defers']
theorem puts_sz (vs : Nat → Value) : ∀ (L : List Nat) (a : Act), (puts ops vs L a).tmps.size = a.tmps.size
  | [], a => rfl
  | i :: L, a => by rw [puts, puts_sz vs L, put_size']
theorem puts_out (vs : Nat → Value) {k : Tmp} : ∀ (L : List Nat) (a : Act), (∀ i ∈ L, dstAt ops i ≠ some k) → (puts ops vs L a).tmps[k]? = a.tmps[k]?
  | [], a, _ => rfl
  | i :: L, a, h => by rw [puts, puts_out vs L _ (fun j hj => h j (List.mem_cons_of_mem _ hj)), put_ne' (h i (List.mem_cons_self ..))]
theorem puts_at (vs : Nat → Value) {k : Tmp} {i : Nat} (hk : dstAt ops i = some k) : ∀ (L : List Nat) (a : Act), (∀ j ∈ L, dstAt ops j = some k → j = i) → i ∈ L → k < a.tmps.size → (puts ops vs L a).tmps[k]? = some (vs i)
  | [], a, _, hi, _ => by cases hi
  | p :: L, a, h, hi, hs => by
    rw [puts]
    by_cases hL : i ∈ L
    · exact puts_at vs hk L _ (fun j hj => h j (List.mem_cons_of_mem _ hj)) hL (by rw [put_size']; exact hs)
    · have hp : p = i := by
        rcases List.mem_cons.1 hi with h1 | h1
        · exact h1.symm
        · exact absurd h1 hL
      subst hp
      rw [puts_out vs L _ (fun j hj hjk => hL (h j (List.mem_cons_of_mem _ hj) hjk ▸ hj)), hk, put_at' hs]
theorem wanted_same {o : Oper} {a a' : Act} (h : ∀ t ∈ o.looksAt ops, a.tmps[t]? = a'.tmps[t]?) : Region.wanted o (yielded ops a.tmps) = Region.wanted o (yielded ops a'.tmps) := by
  unfold Region.wanted
  cases hg : o.guard with
  | none => rfl
  | some gw =>
    obtain ⟨g, want⟩ := gw
    have hy : yielded ops a.tmps g = yielded ops a'.tmps g := by
      unfold yielded
      cases ht : (ops[g]?).bind (·.dst) with
      | none => rfl
      | some t =>
        have := h t (by simp [Oper.looksAt, hg, ht])
        simp [this]
    simp only [hy]
theorem exec_same {o : Oper} (hs : ∀ cs b, o.op ≠ .select cs b) {a a' : Act} (h : ∀ t ∈ o.looksAt ops, a.tmps[t]? = a'.tmps[t]?) : execOp a.eval o = execOp a'.eval o := by
  refine execOp_congr o hs fun x hx => ?_
  cases x with
  | tmp t =>
    have := h t (List.mem_append_left _ (List.mem_filterMap.2 ⟨.tmp t, by simpa using hx, rfl⟩))
    simp [Act.eval, this]
  | _ => rfl
/-- an operation's run, carried from one frame to another at which it reads the same -/
theorem opI_move {j : Nat} {o : Oper} {a a' : Act} {w : World} {K K' : Act → World → Prop} (hj : ops[j]? = some o) (hs : ∀ cs b, o.op ≠ .select cs b) (h : ∀ t ∈ o.looksAt ops, a.tmps[t]? = a'.tmps[t]?)
    (hd : ∀ b w', K b w' → b.defers = a'.defers) (hK : ∀ v w', K (a'.put o.dst v) w' → K' (a.put o.dst v) w') (H : opI P ops j K a' w) : opI P ops j K' a w := by
  unfold opI at *
  simp only [hj] at *
  rw [wanted_same h]
  split
  · rename_i hw
    simp only [hw, if_true] at H
    unfold Oper.wp at *
    rw [exec_same hs h]
    generalize (execOp a'.eval o).run P w = r at *
    cases r with
    | ok n w' =>
      cases n <;> simp only [Oper.upon] at H ⊢
      case value u => exact hK _ _ H
      case skip => exact hK _ _ H
      case defer d =>
        have := hd _ _ H
        rw [put_defers'] at this
        exact absurd (congrArg List.length this) (by simp)
      case enter f args =>
        refine Calls.mono H fun e w'' he => ?_
        cases e with
        | returned u => exact hK _ _ he
        | panicked c => exact he
        | outgrown => exact he
      case row row args => exact Rows.mono H fun u w'' he => hK _ _ he
    | halt x w' =>
      cases x <;> simp only [Oper.upon] at H ⊢
      case panic u => exact H
  · rename_i hw
    simp only [hw] at H
    exact hK _ _ H

/-- how worlds may follow one another -/
structure Steps (R : World → World → Prop) : Prop where
  refl : ∀ w, R w w
  trans : ∀ a b c, R a b → R b c → R a c
  size : ∀ a b, R a b → a.heap.size ≤ b.heap.size
def BelowR (w w' : World) : Prop := Below w.heap.size w w'
theorem belowR : Steps BelowR := ⟨fun w => Below.refl _ _, fun a b c h k => Below.trans h (Below.mono k h.size), fun a b h => h.size⟩
/-- rows of a table: an operation's slot, and the operations that it waits for, with their slots -/
abbrev Tab := List (Option Tmp × List (Nat × Option Tmp))
def finL (sz n : Nat) : Array Bool := ((List.range sz).map fun i => decide (i < n)).toArray
def rowB (ops : Array Oper) (sz n j : Nat) (o : Oper) (r : Option Tmp × List (Nat × Option Tmp)) : Bool :=
  (o.dst == r.1) && (match r.1 with | some t => decide (t < sz) | none => true) &&
  r.2.all (fun p => decide (p.1 < n) && (dstAt ops p.1 == p.2) && Region.waitsFor .any ops j p.1) &&
  o.after.all (fun e => !Region.binds .any e || decide (e.on < j)) &&
  (List.range n).all (fun i => match dstAt ops i with
    | some t => (decide (i = j) || r.1 != some t) && (!(o.looksAt ops).contains t || (r.2.map (·.1)).contains i)
    | none => true)
def relyB (ops : Array Oper) (sz : Nat) (T : Tab) : Bool :=
  Region.noSelect ops && tailB .any ops T.length && decide (T.length ≤ ops.size) &&
  (List.range T.length).all (fun j => match ops[j]?, T[j]? with | some o, some r => rowB ops sz T.length j o r | _, _ => false) &&
  Region.seqB .any ops (ops.size - T.length) T.length (finL ops.size T.length)

def stepR (R : World → World → Prop) (P : Program) (ops : Array Oper) (j : Nat) (d : Option Tmp) (F : List Value → Value → World → Prop) (c : Option Nat) (w : World) (a : Act) (old : List Nat) (pv : List Value) : Prop :=
  ∀ K : Act → World → Prop, (∀ a' w', R w w' → F pv (sv d a') w' → (c ≠ none → ∀ k ∈ blks (sv d a'), k < w'.heap.size ∧ (w.heap.size ≤ k ∨ k ∈ old)) → a'.defers = a.defers → K a' w') → opI P ops j K a w
/-- what each operation's value meets, given those of the operations that it waits for -/
abbrev Fs := List (List Value → Value → World → Prop)
def gF (F : Fs) (i : Nat) : List Value → Value → World → Prop := F.getD i fun _ _ _ => True
/-- it met it in a world, all of which stands yet -/
def gS (R : World → World → Prop) (F : Fs) (i : Nat) (q : List Value) (v : Value) (w : World) : Prop := ∃ X, R X w ∧ gF F i q v X
theorem gS.stab {R : World → World → Prop} (hR : Steps R) {F : Fs} {i : Nat} {q : List Value} {v : Value} {w w' : World} (h : gS R F i q v w) (hb : R w w') : gS R F i q v w' := by
  obtain ⟨X, hX, h⟩ := h
  exact ⟨X, hR.trans _ _ _ hX hb, h⟩
def withPre (R : World → World → Prop) (F : Fs) (al : List (Option Nat)) (w : World) (c : Option Nat) : List (Nat × Option Tmp) → List Nat → List Value → Act → (Act → List Nat → List Value → Prop) → Prop
  | [], old, pv, a, k => k a old pv
  | (p, d) :: L, old, pv, a, k => ∀ v, (∃ q, gS R F p q v w) → withPre R F al w c L (if al.getD p none = c then blks v ++ old else old) (pv ++ [v]) (a.put d v) k
def stepsR (R : World → World → Prop) (P : Program) (ops : Array Oper) (I : World → Prop) (F : Fs) (al : List (Option Nat)) (a0 : Act) : Nat → Tab → Prop
  | _, [] => True
  | j, (d, pre) :: T => (∀ w, I w → withPre R F al w (al.getD j none) pre [] [] a0 fun a old pv => stepR R P ops j d (gF F j) (al.getD j none) w a old pv) ∧ stepsR R P ops I F al a0 (j + 1) T
def sepL (tr : List (Option Nat × List Nat)) : Prop := tr.Pairwise fun x y => x.1 ≠ none → y.1 ≠ none → x.1 ≠ y.1 → ∀ k ∈ x.2, k ∉ y.2
def allV (R : World → World → Prop) (F : Fs) (al : List (Option Nat)) (w : World) : Nat → Tab → List Value → List (Option Nat × List Nat) → Act → (Act → List (Option Nat × List Nat) → Prop) → Prop
  | _, [], _, tr, a, k => k a tr
  | i, (d, pre) :: T, env, tr, a, k => ∀ v, gS R F i (pre.map fun p => env.getD p.1 undef) v w → allV R F al w (i + 1) T (env ++ [v]) (tr ++ [(al.getD i none, blks v)]) (a.put d v) k

theorem stepsR_cons {R : World → World → Prop} {I : World → Prop} {F : Fs} {al : List (Option Nat)} {a0 : Act} {j : Nat} {d : Option Tmp} {pre : List (Nat × Option Tmp)} {T : Tab}
    (h1 : ∀ w, I w → withPre R F al w (al.getD j none) pre [] [] a0 fun a old pv => stepR R P ops j d (gF F j) (al.getD j none) w a old pv) (h2 : stepsR R P ops I F al a0 (j + 1) T) : stepsR R P ops I F al a0 j ((d, pre) :: T) := ⟨h1, h2⟩
theorem stepsR_nil {R : World → World → Prop} {I : World → Prop} {F : Fs} {al : List (Option Nat)} {a0 : Act} {j : Nat} : stepsR R P ops I F al a0 j [] := trivial
theorem stepR_of {R : World → World → Prop} {j : Nat} {o : Oper} {d : Option Tmp} {F : List Value → Value → World → Prop} {c : Option Nat} {w : World} {a : Act} {old : List Nat} {pv : List Value} (hj : ops[j]? = some o)
    (h : ∀ K : Act → World → Prop, (∀ a' w', R w w' → F pv (sv d a') w' → (c ≠ none → ∀ k ∈ blks (sv d a'), k < w'.heap.size ∧ (w.heap.size ≤ k ∨ k ∈ old)) → a'.defers = a.defers → K a' w') →
      if Region.wanted o (yielded ops a.tmps) then o.wp P a w K Qf else K (a.put o.dst undef) w) : stepR R P ops j d F c w a old pv := by
  intro K hK
  unfold opI
  simp only [hj]
  exact h K hK

structure RG (R : World → World → Prop) (ops : Array Oper) (T : Tab) (I : World → Prop) (F : Fs) (al : List (Option Nat)) (a0 : Act) (vs : Nat → Value) (listed : Array Bool) (a : Act) (w : World) : Prop where
  inv : I w
  df : a.defers = a0.defers
  sz : a.tmps.size = a0.tmps.size
  out : ∀ k, (∀ i, i < T.length → dstAt ops i ≠ some k) → a.tmps[k]? = a0.tmps[k]?
  at_ : ∀ i, i < T.length → listed.getD i false = true → ∀ d, dstAt ops i = some d → a.tmps[d]? = some (vs i)
  fact : ∀ i r, T[i]? = some r → listed.getD i false = true → gS R F i (r.2.map fun p => vs p.1) (vs i) w
  lt : ∀ i, i < T.length → listed.getD i false = true → al.getD i none ≠ none → ∀ k ∈ blks (vs i), k < w.heap.size
  sep : ∀ i j, i < T.length → j < T.length → listed.getD i false = true → listed.getD j false = true → al.getD i none ≠ none → al.getD j none ≠ none → al.getD i none ≠ al.getD j none → ∀ k ∈ blks (vs i), k ∉ blks (vs j)

theorem withPre_puts {R : World → World → Prop} {F : Fs} {al : List (Option Nat)} {w : World} {c : Option Nat} (vs : Nat → Value) {k : Act → List Nat → List Value → Prop} : ∀ (L : List (Nat × Option Tmp)) (old : List Nat) (pv : List Value) (a : Act),
    (∀ p ∈ L, dstAt ops p.1 = p.2 ∧ ∃ q, gS R F p.1 q (vs p.1) w) → withPre R F al w c L old pv a k →
    ∃ old', (∀ x ∈ old', x ∈ old ∨ ∃ p ∈ L, al.getD p.1 none = c ∧ x ∈ blks (vs p.1)) ∧ k (puts ops vs (L.map (·.1)) a) old' (pv ++ L.map fun p => vs p.1)
  | [], old, pv, a, _, h => ⟨old, fun x hx => .inl hx, by
    have h' : k a old pv := h
    simpa [puts] using h'⟩
  | (p, d) :: L, old, pv, a, hp, h => by
    obtain ⟨h1, h2⟩ := hp (p, d) (List.mem_cons_self ..)
    obtain ⟨old', h3, h4⟩ := withPre_puts vs L _ _ _ (fun q hq => hp q (List.mem_cons_of_mem _ hq)) (h (vs p) h2)
    refine ⟨old', fun x hx => ?_, ?_⟩
    · rcases h3 x hx with h5 | ⟨q, hq, h6⟩
      · split at h5
        · rename_i hc
          rcases List.mem_append.1 h5 with h5 | h5
          · exact .inr ⟨(p, d), List.mem_cons_self .., hc, h5⟩
          · exact .inl h5
        · exact .inl h5
      · exact .inr ⟨q, List.mem_cons_of_mem _ hq, h6⟩
    · simp only [List.map_cons, puts]
      rw [show dstAt ops p = d from h1]
      rwa [List.append_assoc] at h4
theorem stepsR_get {R : World → World → Prop} {I : World → Prop} {F : Fs} {al : List (Option Nat)} {a0 : Act} : ∀ (T : Tab) (j0 j : Nat) (r : Option Tmp × List (Nat × Option Tmp)), stepsR R P ops I F al a0 j0 T → T[j]? = some r →
    ∀ w, I w → withPre R F al w (al.getD (j0 + j) none) r.2 [] [] a0 fun a old pv => stepR R P ops (j0 + j) r.1 (gF F (j0 + j)) (al.getD (j0 + j) none) w a old pv
  | [], _, _, _, _, h => by simp at h
  | (d, pre) :: T, j0, 0, r, hs, h => by
    simp only [List.getElem?_cons_zero, Option.some.injEq] at h
    subst h
    exact hs.1
  | (d, pre) :: T, j0, j + 1, r, hs, h => by
    have := stepsR_get T (j0 + 1) j r hs.2 (by simpa using h)
    rw [show j0 + (j + 1) = j0 + 1 + j by omega]
    exact this
theorem allV_puts {R : World → World → Prop} {F : Fs} {al : List (Option Nat)} {w : World} (vs : Nat → Value) {k : Act → List (Option Nat × List Nat) → Prop} : ∀ (T : Tab) (i : Nat) (env : List Value) (tr : List (Option Nat × List Nat)) (a : Act), env = (List.range i).map vs →
    (∀ j r, T[j]? = some r → dstAt ops (i + j) = r.1 ∧ gS R F (i + j) (r.2.map fun p => vs p.1) (vs (i + j)) w ∧ ∀ p ∈ r.2, p.1 < i + j) → allV R F al w i T env tr a k →
    k (puts ops vs (List.range' i T.length) a) (tr ++ (List.range' i T.length).map fun j => (al.getD j none, blks (vs j)))
  | [], i, env, tr, a, _, _, h => by
    have h' : k a tr := h
    simpa [puts] using h'
  | (d, pre) :: T, i, env, tr, a, he, hp, h => by
    obtain ⟨h1, h2, h0⟩ := hp 0 (d, pre) rfl
    have hv : (pre.map fun p => env.getD p.1 undef) = pre.map fun p => vs p.1 := List.map_congr_left fun p hpp => by
      have := h0 p hpp
      rw [he]
      simp only [List.getD_eq_getElem?_getD, List.getElem?_map, List.getElem?_range (show p.1 < i by omega)]
      rfl
    have h3 := allV_puts vs T (i + 1) _ _ _ (by rw [he, List.range_succ, List.map_append]; rfl) (fun j r hj => by have := hp (j + 1) r (by simpa using hj); rwa [show i + (j + 1) = i + 1 + j by omega] at this) (h (vs i) (by rw [hv]; exact h2))
    simp only [List.length_cons, List.range'_succ, puts, List.map_cons]
    rw [show dstAt ops i = d from h1]
    rwa [List.append_assoc] at h3

theorem dst_lt {sz : Nat} {T : Tab} (hB : relyB ops sz T = true) {j : Nat} (hj : j < T.length) : ∃ o r, ops[j]? = some o ∧ T[j]? = some r ∧ rowB ops sz T.length j o r = true := by
  simp only [relyB, Bool.and_eq_true] at hB
  have := List.all_eq_true.1 hB.1.2 j (List.mem_range.2 hj)
  split at this
  · rename_i o r h1 h2; exact ⟨o, r, h1, h2, this⟩
  · cases this
theorem rely_step {R : World → World → Prop} (hR : Steps R) {sz : Nat} {T : Tab} {I : World → Prop} {F : Fs} {al : List (Option Nat)} {a0 : Act} (hB : relyB ops sz T = true) (hsz : a0.tmps.size = sz)
    (hstI : ∀ w w', I w → R w w' → I w')
    (hst : stepsR R P ops I F al a0 0 T) {vs : Nat → Value} {listed : Array Bool} {a : Act} {w : World} (hinv : HeadInv .any ops T.length listed) (h : RG R ops T I F al a0 vs listed a w) {j : Nat} (hj : j < T.length)
    (hr : j ∈ Region.ready .any ops listed) : opI P ops j (fun a' w' => ∃ vs', RG R ops T I F al a0 vs' (listed.setIfInBounds j true) a' w') a w := by
  obtain ⟨o, r, hjo, hTr, hrow⟩ := dst_lt hB hj
  have hsel : Region.noSelect ops = true := by simp only [relyB, Bool.and_eq_true] at hB; exact hB.1.1.1.1
  have hso := fun cs b => Region.noSelect_spec hsel j o cs b hjo
  obtain ⟨hun, o', ho', hall⟩ := mem_ready.1 hr
  obtain rfl : o' = o := Option.some.inj (ho'.symm.trans hjo)
  simp only [rowB, Bool.and_eq_true] at hrow
  obtain ⟨⟨⟨⟨hd, ht⟩, hpre⟩, -⟩, hap⟩ := hrow
  have hd : o'.dst = r.1 := by simpa using hd
  have hdj : dstAt ops j = r.1 := by simp [dstAt, hjo, hd]
  have hjd : listed.getD j false = false := getD_both hun
  have hpre' : ∀ p ∈ r.2, p.1 < T.length ∧ dstAt ops p.1 = p.2 ∧ listed.getD p.1 false = true := fun p hp => by
    have := List.all_eq_true.1 hpre p hp
    simp only [Bool.and_eq_true, decide_eq_true_eq, beq_iff_eq] at this
    obtain ⟨⟨h1, h2⟩, h3⟩ := this
    obtain ⟨oj, hoj, e, he, hb, hon⟩ := Region.waitsFor_spec h3
    obtain rfl : oj = o' := Option.some.inj (hoj.symm.trans hjo)
    exact ⟨h1, h2, hon ▸ hall e he hb⟩
  have hap' : ∀ i, i < T.length → ∀ t, dstAt ops i = some t → (i = j ∨ r.1 ≠ some t) ∧ (t ∈ o'.looksAt ops → i ∈ r.2.map (·.1)) := fun i hi t hit => by
    have := List.all_eq_true.1 hap i (List.mem_range.2 hi)
    simp only [hit, Bool.and_eq_true, Bool.or_eq_true, decide_eq_true_eq, bne_iff_ne, Bool.not_eq_true', List.contains_eq_mem, decide_eq_false_iff_not] at this
    exact ⟨this.1, fun h => this.2.resolve_left fun h' => h' h⟩
  have hdist : ∀ i i', i < T.length → i' < T.length → ∀ t, dstAt ops i = some t → dstAt ops i' = some t → i = i' := fun i i' hi hi' t h1 h2 => by
    obtain ⟨o2, r2, hjo2, hTr2, hrow2⟩ := dst_lt hB hi'
    simp only [rowB, Bool.and_eq_true] at hrow2
    obtain ⟨⟨⟨⟨hd2, -⟩, -⟩, -⟩, hap2⟩ := hrow2
    have := List.all_eq_true.1 hap2 i (List.mem_range.2 hi)
    have hd2 : o2.dst = r2.1 := by simpa using hd2
    simp only [h1, Bool.and_eq_true, Bool.or_eq_true, decide_eq_true_eq, bne_iff_ne] at this
    rcases this.1 with h3 | h3
    · exact h3
    · exact absurd (by simpa [dstAt, hjo2, hd2] using h2) h3
  have hdlt : ∀ i, i < T.length → ∀ t, dstAt ops i = some t → t < sz := fun i hi t h1 => by
    obtain ⟨o2, r2, hjo2, hTr2, hrow2⟩ := dst_lt hB hi
    simp only [rowB, Bool.and_eq_true] at hrow2
    obtain ⟨⟨⟨⟨hd2, ht2⟩, -⟩, -⟩, -⟩ := hrow2
    have hd2 : o2.dst = r2.1 := by simpa using hd2
    have : r2.1 = some t := by simpa [dstAt, hjo2, hd2] using h1
    rw [this] at ht2
    simpa using ht2
  obtain ⟨old, hold, hstep⟩ := withPre_puts (ops := ops) vs r.2 [] [] a0 (fun p hp => ⟨(hpre' p hp).2.1, by
    obtain ⟨o3, r3, -, hTr3, -⟩ := dst_lt hB (hpre' p hp).1
    exact ⟨_, h.fact _ r3 hTr3 (hpre' p hp).2.2⟩⟩) (stepsR_get T 0 j r hst hTr w h.inv)
  rw [Nat.zero_add] at hstep hold
  rw [List.nil_append] at hstep
  have hsame : ∀ t ∈ o'.looksAt ops, a.tmps[t]? = (puts ops vs (r.2.map (·.1)) a0).tmps[t]? := fun t ht => by
    by_cases hex : ∃ i, i < T.length ∧ dstAt ops i = some t
    · obtain ⟨i, hi, hit⟩ := hex
      have hmem := (hap' i hi t hit).2 ht
      obtain ⟨p, hp, hpi⟩ := List.mem_map.1 hmem
      have hli : listed.getD i false = true := hpi ▸ (hpre' p hp).2.2
      rw [h.at_ i hi hli t hit, puts_at vs hit _ _ (fun j' hj' hjt => by
        obtain ⟨q, hq, hqj⟩ := List.mem_map.1 hj'
        exact hdist j' i (hqj ▸ (hpre' q hq).1) hi t hjt hit) hmem (by rw [hsz]; exact hdlt i hi t hit)]
    · rw [h.out t (fun i hi hit => hex ⟨i, hi, hit⟩), puts_out vs _ _ (fun i hi hit => by
        obtain ⟨q, hq, hqj⟩ := List.mem_map.1 hi
        exact hex ⟨i, hqj ▸ (hpre' q hq).1, hit⟩)]
  have hdd := puts_df (ops := ops) vs (r.2.map (·.1)) a0
  have hss := puts_sz (ops := ops) vs (r.2.map (·.1)) a0
  generalize puts ops vs (r.2.map (·.1)) a0 = aj at *
  refine opI_move (K := fun a' w' => R w w' ∧ gF F j (r.2.map fun p => vs p.1) (sv r.1 a') w' ∧ (al.getD j none ≠ none → ∀ k ∈ blks (sv r.1 a'), k < w'.heap.size ∧ (w.heap.size ≤ k ∨ k ∈ old)) ∧ a'.defers = aj.defers) hjo hso hsame (fun b w' hb => hb.2.2.2) (fun v w' hK => ?_) (hstep _ fun a' w' h1 h2 h3 h4 => ⟨h1, h2, h3, h4⟩)
  obtain ⟨hbe, hF, hfr, -⟩ := hK
  rw [hd] at hF hfr
  rw [hd]
  have hsv : ∀ t, r.1 = some t → sv r.1 (aj.put r.1 v) = v := fun t ht => by
    have htl := hdlt j hj t (hdj.trans ht)
    rw [ht]
    simp only [sv, Array.getD_eq_getD_getElem?]
    rw [put_at' (by rw [hss, hsz]; exact htl)]
    rfl
  generalize hv' : sv r.1 (aj.put r.1 v) = v' at hF hfr hsv
  have hne : ∀ i, i ≠ j → (listed.setIfInBounds j true).getD i false = true → listed.getD i false = true := fun i hij hl => by
    rwa [getD_set_ne false (Ne.symm hij)] at hl
  have hpres : ∀ i, i < T.length → listed.getD i false = true → al.getD i none ≠ none → al.getD i none ≠ al.getD j none → al.getD j none ≠ none → ∀ k ∈ blks (vs i), k ∉ blks v' := fun i hi hl hai haij haj k hk hk' => by
    rcases (hfr haj k hk').2 with h5 | h5
    · have := h.lt i hi hl hai k hk; omega
    · rcases hold k h5 with h6 | ⟨p, hp, h6, h7⟩
      · cases h6
      · exact h.sep i p.1 hi (hpre' p hp).1 hl (hpre' p hp).2.2 hai (by rw [h6]; exact haj) (by rw [h6]; exact haij) k hk h7
  refine ⟨fun i => if i = j then v' else vs i, hstI _ _ h.inv hbe, by rw [put_defers']; exact h.df, by rw [put_size']; exact h.sz, fun k hk => ?_, fun i hi hl d hid => ?_, fun i r' hTi hl => ?_, fun i hi hl hai k hk => ?_, fun i i' hi hi' hl hl' hai hai' haa k hk hk' => ?_⟩
  · rw [put_ne' (by rw [← hdj]; exact hk j hj)]; exact h.out k hk
  · by_cases hij : i = j
    · subst hij
      rw [if_pos rfl]
      have hrd : r.1 = some d := hdj.symm.trans hid
      rw [hsv d hrd, hrd]
      exact put_at' (by rw [h.sz, hsz]; exact hdlt i hi d hid)
    · rw [if_neg hij, put_ne' (fun e => hij (hdist i j hi hj d hid (hdj.trans e)))]
      exact h.at_ i hi (hne i hij hl) d hid
  · by_cases hij : i = j
    · subst hij
      obtain rfl : r' = r := Option.some.inj (hTi.symm.trans hTr)
      rw [if_pos rfl, show (r'.2.map fun p => if p.1 = i then v' else vs p.1) = r'.2.map fun p => vs p.1 from List.map_congr_left fun p hp => if_neg fun e => by
        have := (hpre' p hp).2.2
        rw [e, hjd] at this
        cases this]
      exact ⟨_, hR.refl _, hF⟩
    · have hli := hne i hij hl
      have hi : i < T.length := (List.getElem?_eq_some_iff.1 hTi).1
      obtain ⟨o3, r3, hjo3, hTr3, hrow3⟩ := dst_lt hB hi
      obtain rfl : r3 = r' := Option.some.inj (hTr3.symm.trans hTi)
      simp only [rowB, Bool.and_eq_true] at hrow3
      rw [if_neg hij, show (r3.2.map fun p => if p.1 = j then v' else vs p.1) = r3.2.map fun p => vs p.1 from List.map_congr_left fun p hp => if_neg fun e => by
        have h9 := List.all_eq_true.1 hrow3.1.1.2 p hp
        simp only [Bool.and_eq_true, decide_eq_true_eq, beq_iff_eq] at h9
        obtain ⟨oj, hoj, e', he', hb', hon⟩ := Region.waitsFor_spec h9.2
        have := hinv.closed i oj hoj hli e' he' hb'
        rw [hon, e, hjd] at this
        cases this]
      exact (h.fact i r3 hTi hli).stab hR hbe
  · by_cases hij : i = j
    · subst hij; rw [if_pos rfl] at hk; exact (hfr hai k hk).1
    · rw [if_neg hij] at hk
      exact Nat.lt_of_lt_of_le (h.lt i hi (hne i hij hl) hai k hk) (hR.size _ _ hbe)
  · by_cases hij : i = j
    · subst hij
      by_cases hij' : i' = i
      · subst hij'; exact haa rfl
      · rw [if_pos rfl] at hk
        rw [if_neg hij'] at hk'
        exact hpres i' hi' (hne i' hij' hl') hai' (Ne.symm haa) hai k hk' hk
    · rw [if_neg hij] at hk
      by_cases hij' : i' = j
      · subst hij'
        rw [if_pos rfl] at hk'
        exact hpres i hi (hne i hij hl) hai haa hai' k hk hk'
      · rw [if_neg hij'] at hk'
        exact h.sep i i' hi hi' (hne i hij hl) (hne i' hij' hl') hai hai' haa k hk hk'

theorem rely_any {R : World → World → Prop} (hR : Steps R) {sz : Nat} {T : Tab} {I : World → Prop} {F : Fs} {al : List (Option Nat)} {a0 : Act} {Q : Exit → Act → World → Prop} (hB : relyB ops sz T = true) (hsz : a0.tmps.size = sz)
    (hstI : ∀ w w', I w → R w w' → I w')
    (hst : stepsR R P ops I F al a0 0 T) {g : Nat} (hend : ∀ vs a w, RG R ops T I F al a0 vs (finL ops.size T.length) a w → wpAny P .any ops Q g (finL ops.size T.length) a w) :
    ∀ (f : Nat) (U : List Nat) (listed : Array Bool) (a : Act) (w : World), U.Nodup → U.length = f → (∀ i, i ∈ U ↔ i < T.length ∧ listed.getD i false = false) → HeadInv .any ops T.length listed →
      (∃ vs, RG R ops T I F al a0 vs listed a w) → wpAny P .any ops Q (f + g) listed a w := by
  have hle : T.length ≤ ops.size := by simp only [relyB, Bool.and_eq_true, decide_eq_true_eq] at hB; exact hB.1.1.2
  have htb : tailB .any ops T.length = true := by simp only [relyB, Bool.and_eq_true] at hB; exact hB.1.1.1.2
  intro f
  induction f with
  | zero =>
    intro U listed a w _ hU hm inv ⟨vs, h⟩
    have hU : U = [] := List.eq_nil_of_length_eq_zero hU
    subst hU
    have hall : ∀ i, i < T.length → listed.getD i false = true := fun i hi => by
      cases hl : listed.getD i false with
      | true => rfl
      | false => exact absurd ((hm i).2 ⟨hi, hl⟩) (by simp)
    have hfin : listed = finL ops.size T.length := by
      refine Array.ext (by simp [inv.size, finL]) fun i h1 h2 => ?_
      simp only [finL, List.getElem_toArray, List.getElem_map, List.getElem_range]
      by_cases hi : i < T.length
      · have := hall i hi
        simp only [Array.getD_eq_getD_getElem?, Array.getElem?_eq_getElem h1, Option.getD_some] at this
        rw [this]; simp [hi]
      · have := inv.tail i (by omega) (by rw [← inv.size]; exact h1)
        simp only [Array.getD_eq_getD_getElem?, Array.getElem?_eq_getElem h1, Option.getD_some] at this
        rw [this]; simp [hi]
    subst hfin
    rw [Nat.zero_add]
    exact hend vs a w h
  | succ f ih =>
    intro U listed a w hnd hU hm inv ⟨vs, h⟩
    rw [show f + 1 + g = (f + g) + 1 by omega]
    have hex : ∀ i, i < T.length → listed.getD i false = false → ∃ r, r ∈ Region.ready .any ops listed := by
      intro i
      induction i using Nat.strongRecOn with
      | _ i ihi =>
        intro hi hl
        obtain ⟨o, r, hjo, -, hrow⟩ := dst_lt hB hi
        simp only [rowB, Bool.and_eq_true] at hrow
        have haf := Array.all_eq_true_iff_forall_mem.1 hrow.1.2
        by_cases hr : ∀ e ∈ o.after, Region.binds .any e = true → listed.getD e.on false = true
        · exact ⟨i, mem_ready.2 ⟨getD_in (by rw [inv.size]; omega) hl, o, hjo, hr⟩⟩
        · obtain ⟨e, he⟩ := Classical.not_forall.1 hr
          obtain ⟨h1, he⟩ := Classical.not_imp.1 he
          obtain ⟨h2, h3⟩ := Classical.not_imp.1 he
          have h4 := haf e h1
          rw [h2] at h4
          simp only [Bool.not_true, Bool.false_or, decide_eq_true_eq] at h4
          exact ihi e.on h4 (by omega) (by simpa using h3)
    refine ⟨fun h0 => ?_, fun j hj => ?_⟩
    · cases U with
      | nil => simp at hU
      | cons u U =>
        obtain ⟨h1, h2⟩ := (hm u).1 (List.mem_cons_self ..)
        obtain ⟨r, hr⟩ := hex u h1 h2
        rw [h0] at hr
        cases hr
    · have hjn : j < T.length := by
        rcases Nat.lt_or_ge j T.length with h1 | h1
        · exact h1
        · cases U with
          | nil => simp at hU
          | cons u U =>
            obtain ⟨h2, h3⟩ := (hm u).1 (List.mem_cons_self ..)
            exact absurd hj (tailB_waits htb inv h2 (getD_in (by rw [inv.size]; omega) h3) h1)
      have hun := (mem_ready.1 hj).1
      have hjU : j ∈ U := (hm j).2 ⟨hjn, getD_both hun⟩
      refine opI_wpOp (fun a' w' h' => ih (U.erase j) (listed.setIfInBounds j true) a' w' (hnd.erase j) (by rw [List.length_erase_of_mem hjU, hU]; omega) (fun i => ?_) (inv.set hj hjn) h') (rely_step hR hB hsz hstI hst inv h hjn hj)
      rw [hnd.mem_erase_iff, hm i]
      by_cases hij : i = j
      · subst hij
        have : (listed.setIfInBounds i true).getD i false = true := by
          have : i < listed.size := by rw [inv.size]; omega
          simp [this]
        simp [this]
      · rw [getD_set_ne false (Ne.symm hij)]
        simp [hij]

/-- a region that draws: each of its first operations shown by itself, then the forced rest -/
theorem wp_region_relyR {R : World → World → Prop} (hR : Steps R) {id : Nat} {Q : Exit → Act → World → Prop} {a : Act} {w : World} {l : List Oper} (I : World → Prop) (F : Fs) (al : List (Option Nat)) (T : Tab) (sz : Nat) (hm : P.follows .mixedOrders = true) (hB : relyB l.toArray sz T = true) (hsz : a.tmps.size = sz)
    (hI : I w.drew) (hstI : ∀ w w', I w → R w w' → I w')
    (hst : stepsR R P l.toArray I F al a 0 T) (hend : ∀ w', I w' → allV R F al w' 0 T [] [] a fun a' tr => sepL tr → wpList P l.toArray Q (l.drop T.length) a' w') : (Code.region id l.toArray true).wp P Q a w := by
  refine wp_region_any hm ?_
  have hle : T.length ≤ l.toArray.size := by simp only [relyB, Bool.and_eq_true, decide_eq_true_eq] at hB; exact hB.1.1.2
  have hsq : Region.seqB .any l.toArray (l.toArray.size - T.length) T.length (finL l.toArray.size T.length) = true := by simp only [relyB, Bool.and_eq_true] at hB; exact hB.2
  have inv0 : HeadInv .any l.toArray T.length (Array.replicate l.toArray.size false) :=
    ⟨by simp, fun j oj _ hl => (by rw [getD_replicate_false] at hl; cases hl), fun t _ ht => getD_in (by simpa using ht) (getD_replicate_false _ _)⟩
  have H := rely_any hR (P := P) (Q := Q) (g := l.toArray.size - T.length) hB hsz hstI hst (fun vs a' w' h => ?_) T.length (List.range T.length) _ a w.drew List.nodup_range List.length_range
    (fun i => by rw [List.mem_range, getD_replicate_false]; simp) inv0 ⟨fun _ => undef, hI, rfl, rfl, fun _ _ => rfl, fun i _ hl => (by rw [getD_replicate_false] at hl; cases hl), fun i _ _ hl => (by rw [getD_replicate_false] at hl; cases hl), fun i _ hl => (by rw [getD_replicate_false] at hl; cases hl), fun i j _ _ hl => (by rw [getD_replicate_false] at hl; cases hl)⟩
  · rw [show T.length + (l.toArray.size - T.length) = l.toArray.size by omega] at H
    exact H
  · have hfl : ∀ i, i < T.length → (finL l.toArray.size T.length).getD i false = true := fun i hi => by
      have : i < (finL l.toArray.size T.length).size := by simp [finL]; simpa using Nat.lt_of_lt_of_le hi hle
      simp only [Array.getD_eq_getD_getElem?, Array.getElem?_eq_getElem this, Option.getD_some]
      simp [finL, hi]
    have hrow : ∀ j r, T[j]? = some r → j < T.length ∧ dstAt l.toArray j = r.1 ∧ ∀ p ∈ r.2, p.1 < j := fun j r hr => by
      have hj : j < T.length := (List.getElem?_eq_some_iff.1 hr).1
      obtain ⟨o, r', hjo, hTr, hrow⟩ := dst_lt hB hj
      obtain rfl : r' = r := Option.some.inj (hTr.symm.trans hr)
      simp only [rowB, Bool.and_eq_true] at hrow
      obtain ⟨⟨⟨⟨hd, -⟩, hpre⟩, haf⟩, -⟩ := hrow
      have hd : o.dst = r'.1 := by simpa using hd
      refine ⟨hj, by simp only [dstAt, hjo, Option.bind_some, hd], fun p hp => ?_⟩
      have h9 := List.all_eq_true.1 hpre p hp
      simp only [Bool.and_eq_true, decide_eq_true_eq, beq_iff_eq] at h9
      obtain ⟨oj, hoj, e', he', hb', hon⟩ := Region.waitsFor_spec h9.2
      obtain rfl : oj = o := Option.some.inj (hoj.symm.trans hjo)
      have h4 := Array.all_eq_true_iff_forall_mem.1 haf e' he'
      rw [hb', hon] at h4
      simpa using h4
    have hrange : ∀ i, i < T.length → ∃ r, T[i]? = some r := fun i hi => ⟨T[i], List.getElem?_eq_getElem hi⟩
    have hdist : ∀ i i', i < T.length → i' < T.length → ∀ t, dstAt l.toArray i = some t → dstAt l.toArray i' = some t → i = i' := fun i i' hi hi' t h1 h2 => by
      obtain ⟨o2, r2, hjo2, hTr2, hrow2⟩ := dst_lt hB hi'
      simp only [rowB, Bool.and_eq_true] at hrow2
      obtain ⟨⟨⟨⟨hd2, -⟩, -⟩, -⟩, hap2⟩ := hrow2
      have := List.all_eq_true.1 hap2 i (List.mem_range.2 hi)
      have hd2 : o2.dst = r2.1 := by simpa using hd2
      simp only [h1, Bool.and_eq_true, Bool.or_eq_true, decide_eq_true_eq, bne_iff_ne] at this
      rcases this.1 with h3 | h3
      · exact h3
      · refine absurd ?_ h3
        rw [← h2]
        simp only [dstAt, hjo2, Option.bind_some, hd2]
    have hk := allV_puts (ops := l.toArray) vs T 0 [] [] a rfl (fun j r hj => by rw [Nat.zero_add]; exact ⟨(hrow j r hj).2.1, h.fact j r hj (hfl j (hrow j r hj).1), (hrow j r hj).2.2⟩) (hend w' h.inv)
    have ha : puts l.toArray vs (List.range' 0 T.length) a = a' := by
      have h1 : (puts l.toArray vs (List.range' 0 T.length) a).tmps = a'.tmps := by
        refine Array.ext (by rw [puts_sz, h.sz]) fun k hk1 hk2 => ?_
        have : (puts l.toArray vs (List.range' 0 T.length) a).tmps[k]? = a'.tmps[k]? := by
          by_cases hex : ∃ i, i < T.length ∧ dstAt l.toArray i = some k
          · obtain ⟨i, hi, hit⟩ := hex
            rw [h.at_ i hi (hfl i hi) k hit, puts_at vs hit _ _ (fun j' hj' hjt => hdist j' i (by simpa using hj') hi k hjt hit) (by simpa using hi) (by rw [h.sz] at hk2; exact hk2)]
          · rw [h.out k (fun i hi hit => hex ⟨i, hi, hit⟩), puts_out vs _ _ (fun i hi hit => hex ⟨i, by simpa using hi, hit⟩)]
        simpa [Array.getElem?_eq_getElem hk1, Array.getElem?_eq_getElem hk2] using this
      have h2 : (puts l.toArray vs (List.range' 0 T.length) a).defers = a'.defers := by rw [puts_df, h.df]
      cases hA : puts l.toArray vs (List.range' 0 T.length) a
      rw [hA] at h1 h2
      cases a'
      simp only at h1 h2
      rw [h1, h2]
    rw [ha] at hk
    have hs : sepL ([] ++ (List.range' 0 T.length).map fun j => (al.getD j none, blks (vs j))) := by
      rw [List.nil_append]
      unfold sepL
      rw [List.pairwise_map]
      refine List.Pairwise.imp_of_mem (fun {x y} hx hy _ => ?_) (List.pairwise_lt_range' (s := 0) (n := T.length) (step := 1))
      intro h1 h2 h3
      exact h.sep x y (by simpa using hx) (by simpa using hy) (hfl x (by simpa using hx)) (hfl y (by simpa using hy)) h1 h2 h3
    have hdl : (l.drop T.length).length = l.toArray.size - T.length := by simp
    have := wpAny_of_seq (md := .any) (Q' := Q) (l.drop T.length) T.length (finL l.toArray.size T.length) a' w' (fun j => by simp [List.getElem?_drop]) (by rw [hdl]; exact hsq) (hk hs)
    rwa [hdl] at this
theorem wp_region_rely {id : Nat} {Q : Exit → Act → World → Prop} {a : Act} {w : World} {l : List Oper} (I : World → Prop) (F : Fs) (al : List (Option Nat)) (T : Tab) (sz : Nat) (hm : P.follows .mixedOrders = true) (hB : relyB l.toArray sz T = true) (hsz : a.tmps.size = sz)
    (hI : I w.drew) (hstI : ∀ w w', I w → Below w.heap.size w w' → I w')
    (hst : stepsR BelowR P l.toArray I F al a 0 T) (hend : ∀ w', I w' → allV BelowR F al w' 0 T [] [] a fun a' tr => sepL tr → wpList P l.toArray Q (l.drop T.length) a' w') : (Code.region id l.toArray true).wp P Q a w :=
  wp_region_relyR belowR I F al T sz hm hB hsz hI hstI hst hend
theorem sepL.get {tr : List (Option Nat × List Nat)} (h : sepL tr) (i j : Nat) {a b : Nat} {x y : List Nat} (hi : tr[i]? = some (some a, x)) (hj : tr[j]? = some (some b, y)) (hne : a ≠ b) {k : Nat} (hx : k ∈ x) (hy : k ∈ y) : False := by
  have key : ∀ (i j : Nat) (a b : Nat) (x y : List Nat), i < j → tr[i]? = some (some a, x) → tr[j]? = some (some b, y) → a ≠ b → ∀ k ∈ x, k ∉ y := by
    intro i j a b x y hij hi hj hne
    obtain ⟨h1, e1⟩ := List.getElem?_eq_some_iff.1 hi
    obtain ⟨h2, e2⟩ := List.getElem?_eq_some_iff.1 hj
    have := List.pairwise_iff_getElem.1 h i j h1 h2 hij
    rw [e1, e2] at this
    exact this (by simp) (by simp) (by simpa using hne)
  rcases Nat.lt_trichotomy i j with h1 | h1 | h1
  · exact key i j a b x y h1 hi hj hne k hx hy
  · subst h1
    rw [hi] at hj
    simp only [Option.some.injEq, Prod.mk.injEq] at hj
    exact hne hj.1
  · exact key j i b a y x h1 hj hi (Ne.symm hne) k hy hx
theorem mem_blk1 {A : Option Addr} {n c k : Nat} : k ∈ blk1 (.slice A n c) ↔ (Value.slice A n c).ownBlock = some k := by
  simp [blk1]
theorem blks_own {A : Option Addr} {n c k : Nat} (h : k ∈ blks (.slice A n c)) : (Value.slice A n c).ownBlock = some k := mem_blk1.1 h
theorem own_blks {A : Option Addr} {n c k : Nat} (h : (Value.slice A n c).ownBlock = some k) : k ∈ blks (.slice A n c) := mem_blk1.2 h
theorem blks_ptr {a : Addr} {k : Nat} (h : k ∈ blks (.pointer (some a))) : k = a.block := by simpa [blks, blksA, blk1] using h
theorem ptr_blks (a : Addr) : a.block ∈ blks (.pointer (some a)) := by simp [blks, blksA, blk1]
theorem blks_int (x : Int) : blk1 (.int .i64 x) = [] := rfl
theorem blks_bool (x : Bool) : blk1 (.bool x) = [] := rfl
theorem blks_agg_i {x : Int} {k : Nat} {A : Option Addr} {n c : Nat} : k ∈ blks (.agg #[.int .i64 x, .slice A n c]) ↔ k ∈ blks (.slice A n c) := by
  simp [blks, blksA, blks_int, mem_blk1]
theorem blks_agg_b {x : Bool} {k : Nat} {A : Option Addr} {n c : Nat} : k ∈ blks (.agg #[.bool x, .slice A n c]) ↔ k ∈ blks (.slice A n c) := by
  simp [blks, blksA, blks_bool, mem_blk1]
theorem mem_agg {xs : Array Value} {k : Nat} : k ∈ blks (.agg xs) ↔ ∃ v ∈ xs.toList, k ∈ blk1 v := by simp [blks, blksA]
theorem mem_tuple {xs : Array Value} {k : Nat} : k ∈ blks (.tuple xs) ↔ ∃ v ∈ xs.toList, k ∈ blksA v := by simp [blks]
end
end Go.Proofs.YtcikenffeekkeaaGreatDoor
