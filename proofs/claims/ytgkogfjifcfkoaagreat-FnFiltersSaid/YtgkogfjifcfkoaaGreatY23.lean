/- Over any program: a region whose orders are left open, walked in a tree of orders (SchT alone); tables that grow side by side in place. -/
import Derived.Test.YtgkogfjifcfkoaaGreatY06
import Derived.Test.YtgkogfjifcfkoaaGreatY13
namespace Go.Proofs.YtgkogfjifcfkoaaGreat
open Go.RowKit
set_option linter.unusedVariables false
set_option linter.unusedSimpArgs false
/- Over any program: a region whose orders are left open, walked in a tree of orders (the first part of AF, alone). -/
/- Over any program: a region whose orders are left open, walked in a tree of orders: as Sch, but two operations that are ready together and not quiet are taken in both orders. -/
inductive Tr where
  | fin : Tr
  | q : Nat → Tr → Tr
  | r : Nat → Tr → Tr
  | rr : Nat → Nat → Tr → Tr → Tr
def Tr.dep : Tr → Nat
  | .fin => 0
  | .q _ t => t.dep + 1
  | .r _ t => t.dep + 1
  | .rr _ _ s _ => s.dep + 1
section
variable {P : Program} {ops : Array Oper} {md : Region.Mode} {I : World → Prop}
def treeB (md : Region.Mode) (ops : Array Oper) (n : Nat) : Tr → Array Bool → Bool
  | .fin, listed => Region.seqB md ops (ops.size - n) n listed
  | .q i t, listed => decide (i < n) && ((Region.ready md ops listed).contains i && Region.free md ops listed i) && treeB md ops n t (listed.setIfInBounds i true)
  | .r i t, listed => decide (i < n) && decide (Region.ready md ops listed = [i]) && treeB md ops n t (listed.setIfInBounds i true)
  | .rr i j s t, listed => decide (i < n) && decide (j < n) && decide (Region.ready md ops listed = [i, j]) && decide (s.dep = t.dep) && treeB md ops n s (listed.setIfInBounds i true) && treeB md ops n t (listed.setIfInBounds j true)
def schedTB (md : Region.Mode) (ops : Array Oper) (n : Nat) (t : Tr) : Bool :=
  Region.noSelect ops && tailB md ops n && decide (t.dep = n) && treeB md ops n t (Array.replicate ops.size false)
/-- an operation run, I kept, then K -/
def opW (P : Program) (ops : Array Oper) (I : World → Prop) (i : Nat) (K : Act → World → Prop) (a : Act) (w : World) : Prop :=
  match ops[i]? with
  | none => False
  | some o => if Region.wanted o (yielded ops a.tmps) then o.wp P a w (fun a' w' => I w' ∧ K a' w') Qf else K (a.put o.dst undef) w
theorem opW_opI {i : Nat} {K K' : Act → World → Prop} {a : Act} {w : World} (hI : I w) (h : opW P ops I i K a w) (hk : ∀ a' w', I w' → K a' w' → K' a' w') : opI P ops i K' a w := by
  unfold opW at h
  unfold opI
  cases ho : ops[i]? with
  | none => rw [ho] at h; exact h.elim
  | some o =>
    simp only [ho] at h
    split at h
    · rename_i hw
      simp only [hw, if_true]
      exact Oper.wp_mono (fun a' w' h' => hk a' w' h'.1 h'.2) h
    · rename_i hw
      simp only [hw]
      exact hk _ _ hI h
theorem opW_intro {i : Nat} {o : Oper} {K' : Act → World → Prop} {a : Act} {w : World} (hi : ops[i]? = some o)
    (h : ∀ K : Act → World → Prop, (∀ a' w', I w' → K' a' w' → K a' w') → I w → if Region.wanted o (yielded ops a.tmps) then o.wp P a w K Qf else K (a.put o.dst undef) w) (hI : I w) : opW P ops I i K' a w := by
  unfold opW
  simp only [hi]
  have h := h (fun a' w' => I w' ∧ K' a' w') (fun _ _ h1 h2 => ⟨h1, h2⟩) hI
  split at h
  · rename_i hw; rw [if_pos hw]; exact h
  · rename_i hw; rw [if_neg hw]; exact h.2
/-- the walk along the tree -/
def wpT (P : Program) (ops : Array Oper) (I : World → Prop) (L : Act → World → Prop) : Tr → Act → World → Prop
  | .fin, a, w => L a w
  | .q i t, a, w =>
    match ops[i]? with
    | none => False
    | some o => ∃ v, YI P ops I o v a ∧ wpT P ops I L t (a.put o.dst v) w
  | .r i t, a, w => opW P ops I i (wpT P ops I L t) a w
  | .rr i j s t, a, w => opW P ops I i (wpT P ops I L s) a w ∧ opW P ops I j (wpT P ops I L t) a w
theorem wpT_fin {L : Act → World → Prop} {a : Act} {w : World} (h : L a w) : wpT P ops I L .fin a w := h
theorem wpT_q {L : Act → World → Prop} {i : Nat} {t : Tr} {o : Oper} {v : Value} {a : Act} {w : World} (hi : ops[i]? = some o)
    (h : ∀ w', I w' → ∀ K : Value → Prop, K v → quietV P ops o a w' K) (hn : wpT P ops I L t (a.put o.dst v) w) : wpT P ops I L (.q i t) a w := by
  unfold wpT
  simp only [hi]
  exact ⟨v, YI.of_quiet h, hn⟩
theorem wpT_r {L : Act → World → Prop} {i : Nat} {t : Tr} {o : Oper} {a : Act} {w : World} (hi : ops[i]? = some o)
    (h : ∀ K : Act → World → Prop, (∀ a' w', I w' → wpT P ops I L t a' w' → K a' w') → I w → if Region.wanted o (yielded ops a.tmps) then o.wp P a w K Qf else K (a.put o.dst undef) w) (hI : I w) : wpT P ops I L (.r i t) a w := by
  unfold wpT
  exact opW_intro hi h hI
theorem wpT_rr {L : Act → World → Prop} {i j : Nat} {s t : Tr} {o o' : Oper} {a : Act} {w : World} (hi : ops[i]? = some o) (hj : ops[j]? = some o')
    (h : ∀ K : Act → World → Prop, (∀ a' w', I w' → wpT P ops I L s a' w' → K a' w') → I w → if Region.wanted o (yielded ops a.tmps) then o.wp P a w K Qf else K (a.put o.dst undef) w)
    (h' : ∀ K : Act → World → Prop, (∀ a' w', I w' → wpT P ops I L t a' w' → K a' w') → I w → if Region.wanted o' (yielded ops a.tmps) then o'.wp P a w K Qf else K (a.put o'.dst undef) w) (hI : I w) : wpT P ops I L (.rr i j s t) a w := by
  unfold wpT
  exact ⟨opW_intro hi h hI, opW_intro hj h' hI⟩
theorem wpAnyI_tree {n : Nat} {Lq : Act → World → Prop} (hsel : Region.noSelect ops = true) (hb : tailB md ops n = true) :
    ∀ (t : Tr) (listed : Array Bool) (a : Act) (w : World), HeadInv md ops n listed → treeB md ops n t listed = true → I w → wpT P ops I Lq t a w →
      wpAnyI P md ops I n (fun listed' a' w' => Region.seqB md ops (ops.size - n) n listed' = true ∧ Lq a' w') t.dep listed a w
  | .fin, listed, a, w, _, hB, hI, h => ⟨hI, hB, h⟩
  | .q i t, listed, a, w, inv, hB, hI, h => by
    simp only [treeB, Bool.and_eq_true, decide_eq_true_eq] at hB
    obtain ⟨⟨hin, hr, hf⟩, hB2⟩ := hB
    unfold wpT at h
    cases ho : ops[i]? with
    | none => rw [ho] at h; exact h.elim
    | some o =>
      simp only [ho] at h
      obtain ⟨v, hy, hn⟩ := h
      have hr' : i ∈ Region.ready md ops listed := by simpa using hr
      exact wpAnyI_first ho (Region.noSelect_spec hsel) hb hin (fun _ _ _ hL => seqB_ready hL.1) t.dep listed a w inv (Region.free_spec ho hf) hr' hy hI
        (wpAnyI_tree hsel hb t _ _ _ (inv.set hr' hin) hB2 hI hn)
  | .r i t, listed, a, w, inv, hB, hI, h => by
    simp only [treeB, Bool.and_eq_true, decide_eq_true_eq] at hB
    obtain ⟨⟨hin, hB1⟩, hB2⟩ := hB
    unfold wpT at h
    refine ⟨hI, (by rw [hB1]; simp), fun j hj => ?_⟩
    have hr' : i ∈ Region.ready md ops listed := by rw [hB1]; exact List.mem_singleton.2 rfl
    rw [hB1] at hj
    have hji : j = i := by simpa using hj
    subst hji
    exact ⟨hin, opW_opI hI h fun a' w' hI' h' => wpAnyI_tree hsel hb t _ a' w' (inv.set hr' hin) hB2 hI' h'⟩
  | .rr i j s t, listed, a, w, inv, hB, hI, h => by
    simp only [treeB, Bool.and_eq_true, decide_eq_true_eq] at hB
    obtain ⟨⟨⟨⟨⟨hin, hjn⟩, hB1⟩, hd⟩, hB2⟩, hB3⟩ := hB
    unfold wpT at h
    refine ⟨hI, (by rw [hB1]; simp), fun k hk => ?_⟩
    have hri : i ∈ Region.ready md ops listed := by rw [hB1]; simp
    have hrj : j ∈ Region.ready md ops listed := by rw [hB1]; simp
    rw [hB1] at hk
    rcases List.mem_cons.1 hk with rfl | hk
    · exact ⟨hin, opW_opI hI h.1 fun a' w' hI' h' => wpAnyI_tree hsel hb s _ a' w' (inv.set hri hin) hB2 hI' h'⟩
    · have hkj : k = j := by simpa using hk
      subst hkj
      refine ⟨hjn, opW_opI hI h.2 fun a' w' hI' h' => ?_⟩
      have := wpAnyI_tree hsel hb t _ a' w' (inv.set hrj hjn) hB3 hI' h'
      rw [← hd] at this
      exact this
/-- a region that draws, walked along a tree of orders, then the forced operations from n on -/
theorem wp_region_tree {id : Nat} {Q : Exit → Act → World → Prop} {a : Act} {w : World} {l : List Oper} (I : World → Prop) (n : Nat) (t : Tr) (hm : P.follows .mixedOrders = true) (hB : schedTB .any l.toArray n t = true)
    (hI : I w.drew) (h : wpT P l.toArray I (fun a' w' => wpList P l.toArray Q (l.drop n) a' w') t a w.drew) : (Code.region id l.toArray true).wp P Q a w := by
  simp only [schedTB, Bool.and_eq_true, decide_eq_true_eq] at hB
  obtain ⟨⟨⟨hsel, hb⟩, hlen⟩, hs⟩ := hB
  have hn : n ≤ l.length := by
    unfold tailB at hb
    simp only [Bool.or_eq_true, Bool.and_eq_true, decide_eq_true_eq, List.size_toArray] at hb
    rcases hb with hb | ⟨⟨hb, _⟩, _⟩ <;> omega
  have inv0 : HeadInv .any l.toArray n (Array.replicate l.toArray.size false) :=
    ⟨by simp, fun j oj _ hl => (by rw [getD_replicate_false] at hl; cases hl), fun t _ ht => getD_in (by simpa using ht) (getD_replicate_false _ _)⟩
  have H := wpAnyI_tree (md := .any) (P := P) (Lq := fun a' w' => wpList P l.toArray Q (l.drop n) a' w') hsel hb t _ a w.drew inv0 hs hI h
  refine wp_region_any hm ?_
  have hdl : (l.drop n).length = l.toArray.size - n := by simp
  have := wpAny_of_I (Q := Q) (g := l.toArray.size - n) (fun listed a' w' hL => by
    have := wpAny_of_seq (md := .any) (Q' := Q) (l.drop n) n listed a' w' (fun j => by simp [List.getElem?_drop]) (by rw [hdl]; exact hL.1) hL.2
    rwa [hdl] at this) _ _ _ _ H
  rw [hlen, show n + (l.toArray.size - n) = l.toArray.size by simp; omega] at this
  exact this
end
/-- append onto an owned slice, as one operation -/
theorem ap_any_wpM {P : Program} {α : Type} {K : Cod α} (w : World) {o : Oper} {a : Act} {Kk : Act → World → Prop} {Q : Exit → Act → World → Prop} {t e : TypeId} {z : Value} {bytes : Nat}
    (T : Ty P t e z K.size bytes) (s x : Operand)
    (ho : o.op = .call { callee := .builtin .append, args := #[s, x], argTypes := #[t, t] })
    {B : Nat} {v : Value} {xs : List α} (hs : a.eval s = v) (hown : Ow K e B w v xs)
    {A : Option Addr} {m c : Nat} {news : List α} (hx : a.eval x = .slice A m c) (hm : m = news.length) (hr : Rd w A (flat K news))
    (hbytes : (xs.length + news.length) * bytes ≤ 140737488355328) (hbase : B ≤ w.heap.size)
    (h : ∀ v' w', Ow K e B w' v' (xs ++ news) → w.grownBy w' v.ownBlock → Below B w w' → (v'.ownBlock = v.ownBlock ∨ v'.ownBlock = some w.heap.size) → Kk (a.put o.dst v') w') :
    o.wp P a w Kk Q := by
  subst hm
  obtain ⟨i, hi, hz, hsize, hby⟩ := T.info
  have hpos := T.pos
  have hmax : xs.length + news.length ≤ 140737488355328 := Nat.le_trans (Nat.le_mul_of_pos_right _ hpos) hbytes
  obtain ⟨⟨A0, c0, rfl, hc0, hm0⟩, ho'⟩ := hown
  have main : ∃ v' w', (Builtin.append_ #[t, t] o.type #[.slice A0 xs.length c0, .slice A news.length c]).run P w = .ok v' w' ∧ w'.ownsRow B e K.size v' (xs.length + news.length) (flat K xs ++ flat K news) ∧ w.grownBy w' (Value.ownBlock (.slice A0 xs.length c0)) ∧
      (v'.ownBlock = (Value.ownBlock (.slice A0 xs.length c0)) ∨ v'.ownBlock = some w.heap.size) ∧ ∃ A' c', v' = .slice A' (xs.length + news.length) c' ∧ xs.length + news.length ≤ c' ∧ c' ≤ 9223372036854775807 := by
    have shape : ∀ v' w', World.ownsRow w' B e K.size v' (xs.length + news.length) (flat K xs ++ flat K news) → ∃ A' c', v' = .slice A' (xs.length + news.length) c' ∧ xs.length + news.length ≤ c' ∧ c' ≤ 9223372036854775807 := by
      intro v' w' h
      rcases h.2 with ⟨h1, h2⟩ | ⟨g, cap, cur, hv, _, _, hnc, hcm, _⟩
      · exact ⟨none, 0, by rw [h1, h2], by omega, by omega⟩
      · exact ⟨_, cap, hv, hnc, by simp only [maxLen] at hcm; omega⟩
    by_cases hn : news = []
    · subst hn
      refine ⟨.slice A0 xs.length c0, w, ?_, by simpa [flat] using ho', World.grownBy.refl w _, .inl rfl, A0, c0, by simp, by simpa using hc0, hm0⟩
      rcases ho'.2 with ⟨h1, h2⟩ | ⟨g, cap, cur, hv, _, _, hnc, _⟩
      · rw [h1]
        rcases A with _ | A <;> simp [Builtin.append_, run_underlying T.under, sizeOf, typeInfo, hi, Builtin.lenOf, Builtin.firstCells, loadCells, loadCellsFrom]
      · injection hv with hA _ hcc
        subst hA; subst hcc
        rcases A with _ | A <;> simp [Builtin.append_, run_underlying T.under, sizeOf, typeInfo, hi, Builtin.lenOf, Builtin.firstCells, loadCells, loadCellsFrom, hnc, storeCells]
    · rcases hr with hr | ⟨b, off, rfl, _, hcell⟩
      · have := flat_length (K := K) news
        rw [hr, List.length_nil] at this
        have h0 : 0 < news.length := by cases news with | nil => exact absurd rfl hn | cons _ _ => simp
        have := Nat.mul_pos h0 K.pos
        omega
      · obtain ⟨v', w', hrun, h2, h3, _, h5⟩ := run_append_own_at (P := P) w B t o.type e i z K.size bytes T.under hi hz hsize hby T.cells K.pos _ _ _ ho' ⟨b, off, none⟩ news.length c (flat K news) (flat_length news)
          (fun j u hu => by rw [add_lit]; exact hcell j u hu) (flat_one news) (by simp only [maxLen]; omega) hbytes hbase
        exact ⟨v', w', hrun, h2, h3, h5, shape v' w' h2⟩
  obtain ⟨v', w', hrun, h2, h3, h4, A', c', hv', hn', hm'⟩ := main
  unfold Oper.wp execOp
  simp only [ho, resolve, invoke, builtin, Sem.run_bind, Sem.run_pure, Result.andThen_ok, List.map_toArray, List.map_cons, List.map_nil, hs, hx, hrun]
  refine (h v' w' ⟨⟨A', c', by rw [hv', List.length_append], by simpa using hn', hm'⟩, by rw [flat_append, List.length_append]; exact h2⟩ h3 ?_ h4)
  refine (Below.refl _ _).grown h3 hbase fun k hk => (ho'.lt k hk).1
/-- a table whose row of headers the call owns; its rows are read; all its blocks lie in S -/
def OwQ (S : Nat → Prop) (B : Nat) (w : World) (v : Value) (xss : List (List Int)) : Prop :=
  (∀ k, S k → B ≤ k ∧ k < w.heap.size) ∧ ∃ hs : List Hd, Ow cH 27 B w v hs ∧ hs.length = xss.length ∧ (∀ k, v.ownBlock = some k → S k) ∧
    ∀ i (a : i < hs.length) (b : i < xss.length), Sl cI w hs[i].val xss[i] ∧ ∀ k, hs[i].val.ownBlock = some k → S k ∧ v.ownBlock ≠ some k
theorem OwQ.sl2 {S : Nat → Prop} {B : Nat} {w : World} {v : Value} {xss : List (List Int)} (h : OwQ S B w v xss) : Sl2 cI w v xss := by
  obtain ⟨-, hs, h1, h2, -, h3⟩ := h
  exact ⟨hs, h1.sl, h2, fun i a b => (h3 i a b).1⟩
theorem OwQ.opn {S : Nat → Prop} {B : Nat} {w : World} {v : Value} {xss : List (List Int)} (h : OwQ S B w v xss) : ∃ A c, v = .slice A xss.length c := h.sl2.opn
theorem OwQ.below {S : Nat → Prop} {B : Nat} {w w' : World} {v : Value} {xss : List (List Int)} (h : OwQ S B w v xss) (hb : Below w.heap.size w w') : OwQ S B w' v xss := by
  obtain ⟨h0, hs, h1, h2, h3, h4⟩ := h
  exact ⟨fun k hk => ⟨(h0 k hk).1, Nat.lt_of_lt_of_le (h0 k hk).2 hb.size⟩, hs, h1.below hb, h2, h3, fun i a b => ⟨(h4 i a b).1.below hb, (h4 i a b).2⟩⟩
theorem OwQ.grown {S : Nat → Prop} {B : Nat} {w w' : World} {v : Value} {xss : List (List Int)} {row : Option Nat} (h : OwQ S B w v xss) (hg : w.grownBy w' row) (hr : ∀ k, row = some k → ¬ S k) : OwQ S B w' v xss := by
  obtain ⟨h0, hs, h1, h2, h3, h4⟩ := h
  have key : ∀ u : Value, (∀ k, u.ownBlock = some k → S k) → u.ownBlock = none ∨ u.ownBlock ≠ row := fun u hu => by
    cases hq : u.ownBlock with
    | none => exact .inl rfl
    | some k => exact .inr fun e => hr k e.symm (hu k hq)
  exact ⟨fun k hk => ⟨(h0 k hk).1, Nat.lt_of_lt_of_le (h0 k hk).2 hg.size⟩, hs, h1.kept hg (key _ h3), h2, h3, fun i a b => ⟨(h4 i a b).1.grown hg (key _ fun k hk => ((h4 i a b).2 k hk).1), (h4 i a b).2⟩⟩
theorem grown_cell (w : World) (p : Addr) (u : Value) : w.grownBy (w.setCell p u) (some p.block) :=
  ⟨rfl, rfl, rfl, by simp [World.setCell], fun i _ hne => Below.heap_setCell _ _ _ _ (fun e => hne (by rw [e]))⟩
theorem OwQ.set {S : Nat → Prop} {B : Nat} {w : World} {v : Value} {xss : List (List Int)} (h : OwQ S B w v xss) {p : Addr} (hp : p.block < B) (u : Value) : OwQ S B (w.setCell p u) v xss :=
  h.grown (grown_cell w p u) fun k e hk => by
    have := (h.1 k hk).1
    injection e with e
    omega
theorem OwQ.nil (B : Nat) (w : World) : OwQ (fun _ => False) B w (.slice none 0 0) [] := ⟨fun k hk => hk.elim, [], Ow.nil _ _, rfl, (fun k hk => (by cases hk)), fun i a => (by simp at a)⟩
theorem OwQ.push {S : Nat → Prop} {B : Nat} {w : World} {v : Value} {xss : List (List Int)} (h : OwQ S B w v xss) {A : Option Addr} {n c : Nat} {row : List Int} (hu : Sl cI w (.slice A n c) row)
    (hk : ∀ k, (Value.slice A n c).ownBlock = some k → B ≤ k ∧ k < w.heap.size ∧ v.ownBlock ≠ some k) :
    ∃ hs : List Hd, Ow cH 27 B w v hs ∧ hs.length = xss.length ∧ ∀ w' v', Ow cH 27 B w' v' (hs ++ [⟨A, n, c⟩]) → w.grownBy w' v.ownBlock → (v'.ownBlock = v.ownBlock ∨ ∃ j, w.heap.size ≤ j ∧ v'.ownBlock = some j) →
      OwQ (fun k => S k ∨ (Value.slice A n c).ownBlock = some k ∨ v'.ownBlock = some k) B w' v' (xss ++ [row]) := by
  obtain ⟨h0, hs, h1, h2, h3, h4⟩ := h
  refine ⟨hs, h1, h2, fun w' v' ho hg hat => ⟨fun k hkk => ?_, _, ho, by simp [h2], fun k e => .inr (.inr e), fun i a b => ?_⟩⟩
  · have hz := hg.size
    rcases hkk with e | e | e
    · have := h0 k e; omega
    · have := hk k e; omega
    · exact ho.block k e
  · have key : ∀ (u : Value) (ys : List Int), Sl cI w u ys → (∀ k, u.ownBlock = some k → k < w.heap.size ∧ v.ownBlock ≠ some k) →
        Sl cI w' u ys ∧ ∀ k, u.ownBlock = some k → v'.ownBlock ≠ some k := by
      intro u ys hu hk
      refine ⟨hu.grown hg ?_, fun k e e3 => ?_⟩
      · cases hq : u.ownBlock with
        | none => exact .inl rfl
        | some k => exact .inr fun e => (hk k hq).2 e.symm
      · rcases hat with e2 | ⟨j, hj, e2⟩
        · exact (hk k e).2 (e2 ▸ e3)
        · rw [e2] at e3; injection e3 with e3; have := (hk k e).1; omega
    by_cases hi : i < hs.length
    · rw [List.getElem_append_left hi, List.getElem_append_left (by omega)]
      have := key _ _ (h4 i hi (by omega)).1 fun k e => ⟨(h0 k ((h4 i hi (by omega)).2 k e).1).2, ((h4 i hi (by omega)).2 k e).2⟩
      exact ⟨this.1, fun k e => ⟨.inl ((h4 i hi (by omega)).2 k e).1, this.2 k e⟩⟩
    · have e : i = hs.length := by simp at a; omega
      subst e
      have e2 : (xss ++ [row])[hs.length] = row := by
        rw [List.getElem_append_right (by omega)]; simp [h2]
      have e3 : (hs ++ [(⟨A, n, c⟩ : Hd)])[hs.length] = ⟨A, n, c⟩ := by simp
      rw [e2, e3]
      have := key (.slice A n c) _ hu fun k e => ⟨(hk k e).2.1, (hk k e).2.2⟩
      exact ⟨this.1, fun k e => ⟨.inr (.inl e), this.2 k e⟩⟩
/-- two tables apart from each other, in memory of the call's own -/
structure Two (B : Nat) (w : World) (v u : Value) (X Y : List (List Int)) (S T : Nat → Prop) : Prop where
  a : OwQ S B w v X
  b : OwQ T B w u Y
  d : ∀ k, S k → ¬ T k
theorem Two.below {B : Nat} {w w' : World} {v u : Value} {X Y : List (List Int)} {S T : Nat → Prop} (h : Two B w v u X Y S T) (hb : Below w.heap.size w w') : Two B w' v u X Y S T := ⟨h.a.below hb, h.b.below hb, h.d⟩
theorem Two.grown {B : Nat} {w w' : World} {v u : Value} {X Y : List (List Int)} {S T : Nat → Prop} {row : Option Nat} (h : Two B w v u X Y S T) (hg : w.grownBy w' row) (hr : ∀ k, row = some k → ¬ S k ∧ ¬ T k) : Two B w' v u X Y S T :=
  ⟨h.a.grown hg fun k e => (hr k e).1, h.b.grown hg fun k e => (hr k e).2, h.d⟩
theorem Two.set {B : Nat} {w : World} {v u : Value} {X Y : List (List Int)} {S T : Nat → Prop} (h : Two B w v u X Y S T) {p : Addr} (hp : p.block < B) (z : Value) : Two B (w.setCell p z) v u X Y S T := ⟨h.a.set hp z, h.b.set hp z, h.d⟩
theorem Two.swap {B : Nat} {w : World} {v u : Value} {X Y : List (List Int)} {S T : Nat → Prop} (h : Two B w v u X Y S T) : Two B w u v Y X T S := ⟨h.b, h.a, fun k h1 h2 => h.d k h2 h1⟩
/-- a row that is to be put to a table -/
structure Pd (B : Nat) (w : World) (S T : Nat → Prop) (g n : Nat) (r : List Int) : Prop where
  s : Sl cI w (.slice (some ⟨g, 0, none⟩) n n) r
  b : B ≤ g
  l : g < w.heap.size
  ns : ¬ S g
  nt : ¬ T g
theorem Pd.below {B : Nat} {w w' : World} {S T : Nat → Prop} {g n : Nat} {r : List Int} (h : Pd B w S T g n r) (hb : Below w.heap.size w w') : Pd B w' S T g n r := ⟨h.s.below hb, h.b, Nat.lt_of_lt_of_le h.l hb.size, h.ns, h.nt⟩
theorem Pd.swap {B : Nat} {w : World} {S T : Nat → Prop} {g n : Nat} {r : List Int} (h : Pd B w S T g n r) : Pd B w T S g n r := ⟨h.s, h.b, h.l, h.nt, h.ns⟩
theorem Two.pushA {B : Nat} {w : World} {v u : Value} {X Y : List (List Int)} {S T : Nat → Prop} (h : Two B w v u X Y S T) {g n : Nat} {r : List Int} (p : Pd B w S T g n r) :
    ∃ hs : List Hd, Ow cH 27 B w v hs ∧ hs.length = X.length ∧ (∀ k, v.ownBlock = some k → B ≤ k ∧ k < w.heap.size) ∧ ∀ w' v', Ow cH 27 B w' v' (hs ++ [⟨some ⟨g, 0, none⟩, n, n⟩]) → w.grownBy w' v.ownBlock → (v'.ownBlock = v.ownBlock ∨ v'.ownBlock = some w.heap.size) →
      ∃ S' : Nat → Prop, Two B w' v' u (X ++ [r]) Y S' T ∧ ∀ g' n' r', Pd B w S T g' n' r' → g' ≠ g → Pd B w' S' T g' n' r' := by
  have hv : ∀ k, v.ownBlock = some k → S k := by
    obtain ⟨-, hs, -, -, h3, -⟩ := h.a
    exact h3
  obtain ⟨hs, h1, h2, h3⟩ := h.a.push p.s (fun k e => by
    have e' : g = k := by injection e
    subst e'
    exact ⟨p.b, p.l, fun e2 => p.ns (hv _ e2)⟩)
  refine ⟨hs, h1, h2, fun k e => h.a.1 k (hv k e), fun w' v' ho hg hat => ⟨_, ⟨h3 w' v' ho hg (hat.imp id fun e => ⟨_, Nat.le_refl _, e⟩), h.b.grown hg fun k e hk => h.d k (hv k e) hk, fun k hk hT => ?_⟩, fun g' n' r' q hne => ?_⟩⟩
  · rcases hk with e | e | e
    · exact h.d k e hT
    · have e' : g = k := by injection e
      exact p.nt (e' ▸ hT)
    · rcases hat with e2 | e2
      · exact h.d k (hv k (e2 ▸ e)) hT
      · rw [e2] at e; injection e with e
        have := (h.b.1 k hT).2
        omega
  · refine ⟨q.s.grown hg ?_, q.b, Nat.lt_of_lt_of_le q.l hg.size, fun hS => ?_, q.nt⟩
    · exact .inr fun e => q.ns (hv _ e.symm)
    · rcases hS with e | e | e
      · exact q.ns e
      · have e' : g = g' := by injection e
        exact hne e'.symm
      · rcases hat with e2 | e2
        · exact q.ns (hv _ (e2 ▸ e))
        · rw [e2] at e; injection e with e
          have := q.l
          omega
/-- a third table beside two -/
structure Three (B : Nat) (w : World) (v u i : Value) (X Y I : List (List Int)) (S T R : Nat → Prop) : Prop where
  t : Two B w v u X Y S T
  i : OwQ R B w i I
  d : ∀ k, R k → ¬ S k ∧ ¬ T k
theorem Three.below {B : Nat} {w w' : World} {v u i : Value} {X Y I : List (List Int)} {S T R : Nat → Prop} (h : Three B w v u i X Y I S T R) (hb : Below w.heap.size w w') : Three B w' v u i X Y I S T R := ⟨h.t.below hb, h.i.below hb, h.d⟩
theorem Three.set {B : Nat} {w : World} {v u i : Value} {X Y I : List (List Int)} {S T R : Nat → Prop} (h : Three B w v u i X Y I S T R) {p : Addr} (hp : p.block < B) (z : Value) : Three B (w.setCell p z) v u i X Y I S T R := ⟨h.t.set hp z, h.i.set hp z, h.d⟩
theorem Three.pushI {B : Nat} {w : World} {v u i : Value} {X Y I : List (List Int)} {S T R : Nat → Prop} (h : Three B w v u i X Y I S T R) {g n : Nat} {r : List Int}
    (hs : Sl cI w (.slice (some ⟨g, 0, none⟩) n n) r) (hb : B ≤ g) (hl : g < w.heap.size) (n1 : ¬ S g) (n2 : ¬ T g) (n3 : ¬ R g) :
    ∃ hs : List Hd, Ow cH 27 B w i hs ∧ hs.length = I.length ∧ (∀ k, i.ownBlock = some k → B ≤ k) ∧ ∀ w' i', Ow cH 27 B w' i' (hs ++ [⟨some ⟨g, 0, none⟩, n, n⟩]) → w.grownBy w' i.ownBlock → (i'.ownBlock = i.ownBlock ∨ ∃ j, w.heap.size ≤ j ∧ i'.ownBlock = some j) →
      ∃ R' : Nat → Prop, Three B w' v u i' X Y (I ++ [r]) S T R' := by
  have hv : ∀ k, i.ownBlock = some k → R k := by
    obtain ⟨-, hs, -, -, h3, -⟩ := h.i
    exact h3
  obtain ⟨hs, h1, h2, h3⟩ := h.i.push hs (fun k e => by
    have e' : g = k := by injection e
    subst e'
    exact ⟨hb, hl, fun e2 => n3 (hv _ e2)⟩)
  refine ⟨hs, h1, h2, fun k e => (h.i.1 k (hv k e)).1, fun w' v' ho hg hat => ⟨_, h.t.grown hg fun k e => h.d k (hv k e), h3 w' v' ho hg hat, fun k hk => ?_⟩⟩
  rcases hk with e | e | e
  · exact h.d k e
  · have e' : g = k := by injection e
    exact ⟨fun hS => n1 (e' ▸ hS), fun hT => n2 (e' ▸ hT)⟩
  · rcases hat with e2 | ⟨j, hj, e2⟩
    · exact h.d k (hv k (e2 ▸ e))
    · rw [e2] at e; injection e with e
      exact ⟨fun hS => by have := (h.t.a.1 k hS).2; omega, fun hT => by have := (h.t.b.1 k hT).2; omega⟩
end Go.Proofs.YtgkogfjifcfkoaaGreat
