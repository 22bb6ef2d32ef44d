/- Over any program: a region whose orders are left open, walked in one order: operations that yield the same value in all worlds that meet a condition are taken where they stand, the others in their forced order. -/
import Derived.StillTail
import Derived.RowKit
namespace Go.Proofs.YtgkogfjifcfkoaaGreat
open Go.RowKit
section
variable {P : Program} {ops : Array Oper} {md : Region.Mode} {I : World → Prop} {q : List Nat}
/-- the post that no way out meets -/
def Qf : Exit → Act → World → Prop := fun _ _ _ => False
/-- operation i is run, and does not panic -/
def opI (P : Program) (ops : Array Oper) (i : Nat) (K : Act → World → Prop) (a : Act) (w : World) : Prop :=
  match ops[i]? with
  | none => K a w
  | some o => if Region.wanted o (yielded ops a.tmps) then o.wp P a w K Qf else K (a.put o.dst undef) w
/-- what an operation yields, given to K, the world left as it was -/
def stillV (P : Program) (o : Oper) (a : Act) (w : World) (K : Value → Prop) : Prop :=
  match (execOp a.eval o).run P w with
  | .ok (.value v) w' => w' = w ∧ K v
  | .ok .skip w' => w' = w ∧ K undef
  | .ok (.enter f args) w' => w' = w ∧ ∃ v, Calls P f args w (fun e w'' => e = .returned v ∧ w'' = w) ∧ K v
  | _ => False
def quietV (P : Program) (ops : Array Oper) (o : Oper) (a : Act) (w : World) (K : Value → Prop) : Prop :=
  if Region.wanted o (yielded ops a.tmps) then stillV P o a w K else K undef
/-- in all worlds that meet I the operation yields v -/
def YI (P : Program) (ops : Array Oper) (I : World → Prop) (o : Oper) (v : Value) (a : Act) : Prop := ∀ w, I w → YieldsAt P ops w o v a
theorem YI.of_quiet {o : Oper} {v : Value} {a : Act} (h : ∀ w, I w → ∀ K : Value → Prop, K v → quietV P ops o a w K) : YI P ops I o v a := by
  intro w hI
  have := h w hI (fun u => u = v) rfl
  unfold quietV at this
  by_cases hw : Region.wanted o (yielded ops a.tmps) = true
  · rw [if_pos hw] at this
    unfold stillV at this
    generalize hr : (execOp a.eval o).run P w = r at this
    cases r with
    | ok n w' =>
      cases n <;> simp only at this
      case value u => obtain ⟨rfl, rfl⟩ := this; exact .inl ⟨hw, .inl hr⟩
      case skip => obtain ⟨rfl, h2⟩ := this; exact .inl ⟨hw, .inr (.inl ⟨hr, h2.symm⟩)⟩
      case enter f args => obtain ⟨rfl, u, hc, rfl⟩ := this; exact .inl ⟨hw, .inr (.inr ⟨f, args, hr, hc⟩)⟩
    | halt x w' => simp only at this
  · rw [if_neg hw] at this
    exact .inr ⟨by simpa using hw, this.symm⟩
theorem opI_mono {i : Nat} {a : Act} {w : World} {K K' : Act → World → Prop} (h : ∀ a w, K a w → K' a w) (hh : opI P ops i K a w) : opI P ops i K' a w := by
  unfold opI at *
  split
  · exact h _ _ (by simpa [*] using hh)
  · rename_i o ho
    simp only [ho] at hh
    split
    · rename_i hw; simp only [hw, if_true] at hh; exact Oper.wp_mono h hh
    · rename_i hw; simp only [hw] at hh; exact h _ _ hh
theorem YI.opI {i : Nat} {o : Oper} {v : Value} {a : Act} (hi : ops[i]? = some o) (hy : YI P ops I o v a) {K : Act → World → Prop} {w : World} (hw : I w) (h : K (a.put o.dst v) w) : opI P ops i K a w := by
  unfold Go.Proofs.YtgkogfjifcfkoaaGreat.opI
  simp only [hi]
  rcases hy w hw with ⟨hw, hv | ⟨hv, rfl⟩ | ⟨f, args, hv, hc⟩⟩ | ⟨hw, rfl⟩
  · simp only [hw, if_true, Oper.wp, hv, Oper.upon]; exact h
  · simp only [hw, if_true, Oper.wp, hv, Oper.upon]; exact h
  · simp only [hw, if_true, Oper.wp, hv, Oper.upon]; exact hc.mono fun e w'' ⟨he, hw⟩ => by subst he; subst hw; exact h
  · simp only [hw, Bool.false_eq_true, if_false]; exact h
theorem opI_put {j : Nat} {oi oj : Oper} {v : Value} (hj : ops[j]? = some oj) (hap : oi.apart ops oj = true)
    (hsi : ∀ cs b, oi.op ≠ .select cs b) (hsj : ∀ cs b, oj.op ≠ .select cs b) {K : Act → World → Prop} {a : Act} {w : World}
    (hy : YI P ops I oi v a) (h : opI P ops j K (a.put oi.dst v) w) :
    opI P ops j (fun a' w' => YI P ops I oi v a' ∧ K (a'.put oi.dst v) w') a w := by
  obtain ⟨h1, h2, h3⟩ := Oper.apart_spec hap
  have keep : ∀ (a : Act), YI P ops I oi v a → ∀ u, YI P ops I oi v (a.put oj.dst u) := fun a hy u w hw =>
    (hy w hw).of_same (execOp_put oi hsi a oj.dst u h3) (wanted_put oi a oj.dst u h3)
  have keepD : ∀ d, YI P ops I oi v { a with defers := d :: a.defers } := fun d w hw => (hy w hw).of_same rfl rfl
  unfold opI at *
  simp only [hj] at *
  rw [wanted_put oj a oi.dst v h1] at h
  split
  · rename_i hw
    simp only [hw, if_true] at h
    unfold Oper.wp at *
    rw [execOp_put oj hsj a oi.dst v h1] at h
    generalize (execOp a.eval oj).run P w = r at *
    cases r with
    | ok n w' =>
      cases n <;> simp only [Oper.upon] at h ⊢
      case value u => exact ⟨keep a hy u, by rw [← Act.put_comm a v u h2]; exact h⟩
      case skip => exact ⟨keep a hy _, by rw [← Act.put_comm a v undef h2]; exact h⟩
      case defer d =>
        refine ⟨keep _ (keepD d) _, ?_⟩
        rw [← Act.put_comm _ v undef h2, ← Act.put_defers]
        exact h
      case enter f args =>
        refine Calls.mono h fun e w'' he => ?_
        cases e with
        | returned u => exact ⟨keep a hy u, by rw [← Act.put_comm a v u h2]; exact he⟩
        | panicked c => exact he
        | outgrown => exact he
      case row row args => exact Rows.mono h fun u w'' he => ⟨keep a hy u, by rw [← Act.put_comm a v u h2]; exact he⟩
    | halt x w' =>
      cases x <;> simp only [Oper.upon] at h ⊢
      case panic u => exact h
  · rename_i hw
    simp only [hw] at h
    exact ⟨keep a hy _, by rw [← Act.put_comm a v undef h2]; exact h⟩
theorem opI_wpOp {i : Nat} {K K' : Act → World → Prop} {Q : Exit → Act → World → Prop} {a : Act} {w : World} (hk : ∀ a w, K a w → K' a w) (h : opI P ops i K a w) : wpOp P ops Q i K' a w := by
  unfold opI at h
  unfold wpOp
  split
  · rename_i ho; simp only [ho] at h; exact hk _ _ h
  · rename_i o ho
    simp only [ho] at h
    split
    · rename_i hw
      simp only [hw, if_true] at h
      refine .inl ?_
      unfold Oper.wp at *
      generalize (execOp a.eval o).run P w = r at *
      cases r with
      | ok n w' =>
        cases n <;> simp only [Oper.upon] at h ⊢
        case value u => exact hk _ _ h
        case skip => exact hk _ _ h
        case defer d => exact hk _ _ h
        case enter f args =>
          refine Calls.mono h fun e w'' he => ?_
          cases e with
          | returned u => exact hk _ _ he
          | panicked c => exact he.elim
          | outgrown => obtain ⟨a, w, ha⟩ := he; exact ha.elim
        case row row args => exact Rows.mono h fun u w'' he => hk _ _ he
      | halt x w' =>
        cases x <;> simp only [Oper.upon] at h ⊢
        case panic u => exact h.elim
    · rename_i hw
      simp only [hw] at h
      exact hk _ _ h
/-- all orders of the next f operations, I kept, then L -/
def wpAnyI (P : Program) (md : Region.Mode) (ops : Array Oper) (I : World → Prop) (n : Nat) (L : Array Bool → Act → World → Prop) : Nat → Array Bool → Act → World → Prop
  | 0, listed, a, w => I w ∧ L listed a w
  | f + 1, listed, a, w => I w ∧ Region.ready md ops listed ≠ [] ∧ ∀ i ∈ Region.ready md ops listed, i < n ∧ opI P ops i (wpAnyI P md ops I n L f (listed.setIfInBounds i true)) a w
theorem wpAnyI.inv {n f : Nat} {L : Array Bool → Act → World → Prop} {listed : Array Bool} {a : Act} {w : World} (h : wpAnyI P md ops I n L f listed a w) : I w := by
  cases f <;> exact h.1
theorem wpAny_of_I {n g : Nat} {L : Array Bool → Act → World → Prop} {Q : Exit → Act → World → Prop} (hL : ∀ listed a w, L listed a w → wpAny P md ops Q g listed a w) :
    ∀ (f : Nat) (listed : Array Bool) (a : Act) (w : World), wpAnyI P md ops I n L f listed a w → wpAny P md ops Q (f + g) listed a w
  | 0, listed, a, w, h => by rw [Nat.zero_add]; exact hL _ _ _ h.2
  | f + 1, listed, a, w, h => by
    rw [show f + 1 + g = (f + g) + 1 by omega]
    exact ⟨fun h0 => absurd h0 h.2.1, fun i hi => opI_wpOp (fun a' w' h' => wpAny_of_I hL f _ a' w' h') (h.2.2 i hi).2⟩
/-- behind the head comes one forced operation after another, or nothing -/
def tailB (md : Region.Mode) (ops : Array Oper) (n : Nat) : Bool := decide (n = ops.size) || (decide (n < ops.size) && Region.sinkB md ops n && Region.chainB md ops n)
theorem tailB_waits {n i t : Nat} {listed : Array Bool} (hb : tailB md ops n = true) (inv : HeadInv md ops n listed) (hi : i < n) (hun : listed.getD i true = false) (ht : n ≤ t) : t ∉ Region.ready md ops listed := by
  unfold tailB at hb
  simp only [Bool.or_eq_true, Bool.and_eq_true, decide_eq_true_eq] at hb
  rcases hb with hb | ⟨⟨h1, h2⟩, h3⟩
  · intro hr
    obtain ⟨_, o, ho, _⟩ := mem_ready.1 hr
    have := (Array.getElem?_eq_some_iff.1 ho).1
    omega
  · exact tail_waits h2 h3 h1 inv _ i rfl hi hun t ht
theorem wpAnyI_first {n i : Nat} {oi : Oper} {v : Value} {L : Array Bool → Act → World → Prop} (hi : ops[i]? = some oi) (hsel : ∀ (j : Nat) (o : Oper) cs b, ops[j]? = some o → o.op ≠ .select cs b)
    (hb : tailB md ops n = true) (hin : i < n) (hdone : ∀ listed a w, L listed a w → ∀ j ∈ Region.ready md ops listed, n ≤ j) :
    ∀ (f : Nat) (listed : Array Bool) (a : Act) (w : World), HeadInv md ops n listed →
      (∀ j oj, ops[j]? = some oj → j ≠ i → listed.getD j true = false → (∀ e ∈ oj.after, Region.binds md e = true → e.on ≠ i) → oi.apart ops oj = true) →
      i ∈ Region.ready md ops listed → YI P ops I oi v a → I w →
      wpAnyI P md ops I n L f (listed.setIfInBounds i true) (a.put oi.dst v) w → wpAnyI P md ops I n L (f + 1) listed a w := by
  intro f
  induction f with
  | zero =>
    intro listed a w inv _ hr hy hI H
    have hun := (mem_ready.1 hr).1
    refine ⟨hI, fun h => (by rw [h] at hr; cases hr), fun j hj => ?_⟩
    have hjn : j < n := by
      rcases Nat.lt_or_ge j n with h | h
      · exact h
      · exact absurd hj (tailB_waits hb inv hin hun h)
    refine ⟨hjn, ?_⟩
    by_cases hji : j = i
    · subst hji; exact hy.opI hi hI H
    · have := hdone _ _ _ H.2 j (ready_mono hj hji)
      omega
  | succ f ih =>
    intro listed a w inv hfree hr hy hI H
    have hun := (mem_ready.1 hr).1
    refine ⟨hI, fun h => (by rw [h] at hr; cases hr), fun j hj => ?_⟩
    have hjn : j < n := by
      rcases Nat.lt_or_ge j n with h | h
      · exact h
      · exact absurd hj (tailB_waits hb inv hin hun h)
    refine ⟨hjn, ?_⟩
    by_cases hji : j = i
    · subst hji; exact hy.opI hi hI H
    · have h1 := (H.2.2 j (ready_mono hj hji)).2
      obtain ⟨hjun, oj, hoj, hall⟩ := mem_ready.1 hj
      have hnot : ∀ e ∈ oj.after, Region.binds md e = true → e.on ≠ i := fun e he hb heq => by
        have h1 := hall e he hb
        rw [heq, getD_both hun] at h1
        cases h1
      have h2 := opI_put hoj (hfree j oj hoj hji hjun hnot) (fun cs b => hsel i oi cs b hi) (fun cs b => hsel j oj cs b hoj) hy h1
      have hfree' : ∀ k ok, ops[k]? = some ok → k ≠ i → (listed.setIfInBounds j true).getD k true = false →
          (∀ e ∈ ok.after, Region.binds md e = true → e.on ≠ i) → oi.apart ops ok = true := fun k ok hk hki hun hno => by
        refine hfree k ok hk hki ?_ hno
        by_cases hjk : j = k
        · subst hjk; exact hjun
        · rw [getD_set_ne true hjk] at hun; exact hun
      refine opI_mono (fun a' w' h3 => ih (listed.setIfInBounds j true) a' w' (inv.set hj hjn) hfree' (ready_mono hr (Ne.symm hji)) h3.1 h3.2.inv ?_) h2
      rw [Array.setIfInBounds_comm _ _ hji]
      exact h3.2
/-- the order σ is one of the region's; the operations of q may be taken where they stand, each other one is forced -/
def schedFrom (md : Region.Mode) (ops : Array Oper) (n : Nat) (q : List Nat) : List Nat → Array Bool → Bool
  | [], listed => Region.seqB md ops (ops.size - n) n listed
  | i :: σ, listed => decide (i < n) && (if q.contains i then (Region.ready md ops listed).contains i && Region.free md ops listed i else decide (Region.ready md ops listed = [i])) && schedFrom md ops n q σ (listed.setIfInBounds i true)
def schedB (md : Region.Mode) (ops : Array Oper) (n : Nat) (q σ : List Nat) : Bool :=
  Region.noSelect ops && tailB md ops n && decide (σ.length = n) && schedFrom md ops n q σ (Array.replicate ops.size false)
/-- the walk in the order σ -/
def wpSched (P : Program) (ops : Array Oper) (I : World → Prop) (q : List Nat) (L : Act → World → Prop) : List Nat → Act → World → Prop
  | [], a, w => L a w
  | i :: σ, a, w =>
    match ops[i]? with
    | none => False
    | some o =>
      if q.contains i then ∃ v, YI P ops I o v a ∧ wpSched P ops I q L σ (a.put o.dst v) w
      else if Region.wanted o (yielded ops a.tmps) then o.wp P a w (fun a' w' => I w' ∧ wpSched P ops I q L σ a' w') Qf else wpSched P ops I q L σ (a.put o.dst undef) w
theorem wpSched_nil {L : Act → World → Prop} {a : Act} {w : World} (h : L a w) : wpSched P ops I q L [] a w := h
theorem wpSched_q {L : Act → World → Prop} {i : Nat} {σ : List Nat} {o : Oper} {v : Value} {a : Act} {w : World} (hi : ops[i]? = some o) (hq : q.contains i = true)
    (h : ∀ w', I w' → ∀ K : Value → Prop, K v → quietV P ops o a w' K) (hn : wpSched P ops I q L σ (a.put o.dst v) w) : wpSched P ops I q L (i :: σ) a w := by
  unfold wpSched
  simp only [hi, hq, if_true]
  exact ⟨v, YI.of_quiet h, hn⟩
theorem wpSched_r {L : Act → World → Prop} {i : Nat} {σ : List Nat} {o : Oper} {a : Act} {w : World} (hi : ops[i]? = some o) (hq : q.contains i = false)
    (h : ∀ K : Act → World → Prop, (∀ a' w', I w' → wpSched P ops I q L σ a' w' → K a' w') → I w → if Region.wanted o (yielded ops a.tmps) then o.wp P a w K Qf else K (a.put o.dst undef) w) (hI : I w) : wpSched P ops I q L (i :: σ) a w := by
  unfold wpSched
  simp only [hi, hq, Bool.false_eq_true, if_false]
  have h := h (fun a' w' => I w' ∧ wpSched P ops I q L σ a' w') (fun _ _ h1 h2 => ⟨h1, h2⟩) hI
  split at h
  · rename_i hw; rw [if_pos hw]; exact h
  · rename_i hw; rw [if_neg hw]; exact h.2
theorem wpAnyI_sched {n : Nat} {Lq : Act → World → Prop} (hsel : Region.noSelect ops = true) (hb : tailB md ops n = true) :
    ∀ (σ : List Nat) (listed : Array Bool) (a : Act) (w : World), HeadInv md ops n listed → schedFrom md ops n q σ listed = true → I w → wpSched P ops I q Lq σ a w →
      wpAnyI P md ops I n (fun listed' a' w' => Region.seqB md ops (ops.size - n) n listed' = true ∧ Lq a' w') σ.length listed a w
  | [], listed, a, w, _, hB, hI, h => ⟨hI, hB, h⟩
  | i :: σ, listed, a, w, inv, hB, hI, h => by
    simp only [schedFrom, Bool.and_eq_true, decide_eq_true_eq] at hB
    obtain ⟨⟨hin, hB1⟩, hB2⟩ := hB
    unfold wpSched at h
    cases ho : ops[i]? with
    | none => rw [ho] at h; exact h.elim
    | some o =>
      simp only [ho] at h
      cases hq : q.contains i with
      | true =>
        simp only [hq, if_true, Bool.and_eq_true] at h hB1
        obtain ⟨v, hy, hn⟩ := h
        obtain ⟨hr, hf⟩ := hB1
        have hr' : i ∈ Region.ready md ops listed := by simpa using hr
        exact wpAnyI_first ho (Region.noSelect_spec hsel) hb hin (fun _ _ _ hL => seqB_ready hL.1) σ.length listed a w inv (Region.free_spec ho hf) hr' hy hI
          (wpAnyI_sched hsel hb σ _ _ _ (inv.set hr' hin) hB2 hI hn)
      | false =>
        simp only [hq, Bool.false_eq_true, if_false, decide_eq_true_eq] at h hB1
        have hr' : i ∈ Region.ready md ops listed := by rw [hB1]; exact List.mem_singleton.2 rfl
        refine ⟨hI, (by rw [hB1]; simp), fun j hj => ?_⟩
        rw [hB1] at hj
        have hji : j = i := by simpa using hj
        subst hji
        refine ⟨hin, ?_⟩
        unfold opI
        simp only [ho]
        split at h
        · rename_i hw
          rw [if_pos hw]
          exact Oper.wp_mono (fun a' w' h' => wpAnyI_sched hsel hb σ _ a' w' (inv.set hr' hin) hB2 h'.1 h'.2) h
        · rename_i hw
          rw [if_neg hw]
          exact wpAnyI_sched hsel hb σ _ _ w (inv.set hr' hin) hB2 hI h
/-- a region that draws, walked in the order σ, then the forced operations from n on -/
theorem wp_region_sched {id : Nat} {Q : Exit → Act → World → Prop} {a : Act} {w : World} {l : List Oper} (I : World → Prop) (n : Nat) (q σ : List Nat) (hm : P.follows .mixedOrders = true) (hB : schedB .any l.toArray n q σ = true)
    (hI : I w.drew) (h : wpSched P l.toArray I q (fun a' w' => wpList P l.toArray Q (l.drop n) a' w') σ a w.drew) : (Code.region id l.toArray true).wp P Q a w := by
  simp only [schedB, Bool.and_eq_true, decide_eq_true_eq] at hB
  obtain ⟨⟨⟨hsel, hb⟩, hlen⟩, hs⟩ := hB
  have hn : n ≤ l.length := by
    unfold tailB at hb
    simp only [Bool.or_eq_true, Bool.and_eq_true, decide_eq_true_eq, List.size_toArray] at hb
    rcases hb with hb | ⟨⟨hb, _⟩, _⟩ <;> omega
  have inv0 : HeadInv .any l.toArray n (Array.replicate l.toArray.size false) :=
    ⟨by simp, fun j oj _ hl => (by rw [getD_replicate_false] at hl; cases hl), fun t _ ht => getD_in (by simpa using ht) (getD_replicate_false _ _)⟩
  have H := wpAnyI_sched (md := .any) (P := P) (Lq := fun a' w' => wpList P l.toArray Q (l.drop n) a' w') hsel hb σ _ a w.drew inv0 hs hI h
  refine wp_region_any hm ?_
  have hdl : (l.drop n).length = l.toArray.size - n := by simp
  have := wpAny_of_I (Q := Q) (g := l.toArray.size - n) (fun listed a' w' hL => by
    have := wpAny_of_seq (md := .any) (Q' := Q) (l.drop n) n listed a' w' (fun j => by simp [List.getElem?_drop]) (by rw [hdl]; exact hL.1) hL.2
    rwa [hdl] at this) _ _ _ _ H
  rw [hlen, show n + (l.toArray.size - n) = l.toArray.size by simp; omega] at this
  exact this
end
end Go.Proofs.YtgkogfjifcfkoaaGreat
