/- Over any program: a region whose orders are left open, walked in a tree of orders: as Sch, but two operations that are ready together and not quiet are taken in both orders. -/
import Derived.Test.YtgdmfihnbbgcoaaGreatDoorSch
namespace Go.Proofs.YtgdmfihnbbgcoaaGreatDoor
open Go.RowKit
inductive Tr where
  | fin : Tr
  | q : Nat → Tr → Tr
  | r : Nat → Tr → Tr
  | rr : Nat → Nat → Tr → Tr → Tr
def Tr.dep : Tr → Nat
  | .fin => 0
  | .q _ t => t.dep + 1
  | .r _ t => t.dep + 1
  | .rr _ _ s _ => s.dep + 1
section
variable {P : Program} {ops : Array Oper} {md : Region.Mode} {I : World → Prop}
def treeB (md : Region.Mode) (ops : Array Oper) (n : Nat) : Tr → Array Bool → Bool
  | .fin, listed => Region.seqB md ops (ops.size - n) n listed
  | .q i t, listed => decide (i < n) && ((Region.ready md ops listed).contains i && Region.free md ops listed i) && treeB md ops n t (listed.setIfInBounds i true)
  | .r i t, listed => decide (i < n) && decide (Region.ready md ops listed = [i]) && treeB md ops n t (listed.setIfInBounds i true)
  | .rr i j s t, listed => decide (i < n) && decide (j < n) && decide (Region.ready md ops listed = [i, j]) && decide (s.dep = t.dep) && treeB md ops n s (listed.setIfInBounds i true) && treeB md ops n t (listed.setIfInBounds j true)
def schedTB (md : Region.Mode) (ops : Array Oper) (n : Nat) (t : Tr) : Bool :=
  Region.noSelect ops && tailB md ops n && decide (t.dep = n) && treeB md ops n t (Array.replicate ops.size false)
/-- an operation run, I kept, then K -/
def opW (P : Program) (ops : Array Oper) (I : World → Prop) (i : Nat) (K : Act → World → Prop) (a : Act) (w : World) : Prop :=
  match ops[i]? with
  | none => False
  | some o => if Region.wanted o (yielded ops a.tmps) then o.wp P a w (fun a' w' => I w' ∧ K a' w') Qf else K (a.put o.dst undef) w
theorem opW_opI {i : Nat} {K K' : Act → World → Prop} {a : Act} {w : World} (hI : I w) (h : opW P ops I i K a w) (hk : ∀ a' w', I w' → K a' w' → K' a' w') : opI P ops i K' a w := by
  unfold opW at h
  unfold opI
  cases ho : ops[i]? with
  | none => rw [ho] at h; exact h.elim
  | some o =>
    simp only [ho] at h
    split at h
    · rename_i hw
      simp only [hw, if_true]
      exact Oper.wp_mono (fun a' w' h' => hk a' w' h'.1 h'.2) h
    · rename_i hw
      simp only [hw]
      exact hk _ _ hI h
theorem opW_intro {i : Nat} {o : Oper} {K' : Act → World → Prop} {a : Act} {w : World} (hi : ops[i]? = some o)
    (h : ∀ K : Act → World → Prop, (∀ a' w', I w' → K' a' w' → K a' w') → I w → if Region.wanted o (yielded ops a.tmps) then o.wp P a w K Qf else K (a.put o.dst undef) w) (hI : I w) : opW P ops I i K' a w := by
  unfold opW
  simp only [hi]
  have h := h (fun a' w' => I w' ∧ K' a' w') (fun _ _ h1 h2 => ⟨h1, h2⟩) hI
  split at h
  · rename_i hw; rw [if_pos hw]; exact h
  · rename_i hw; rw [if_neg hw]; exact h.2
/-- the walk along the tree -/
def wpT (P : Program) (ops : Array Oper) (I : World → Prop) (L : Act → World → Prop) : Tr → Act → World → Prop
  | .fin, a, w => L a w
  | .q i t, a, w =>
    match ops[i]? with
    | none => False
    | some o => ∃ v, YI P ops I o v a ∧ wpT P ops I L t (a.put o.dst v) w
  | .r i t, a, w => opW P ops I i (wpT P ops I L t) a w
  | .rr i j s t, a, w => opW P ops I i (wpT P ops I L s) a w ∧ opW P ops I j (wpT P ops I L t) a w
theorem wpT_fin {L : Act → World → Prop} {a : Act} {w : World} (h : L a w) : wpT P ops I L .fin a w := h
theorem wpT_q {L : Act → World → Prop} {i : Nat} {t : Tr} {o : Oper} {v : Value} {a : Act} {w : World} (hi : ops[i]? = some o)
    (h : ∀ w', I w' → ∀ K : Value → Prop, K v → quietV P ops o a w' K) (hn : wpT P ops I L t (a.put o.dst v) w) : wpT P ops I L (.q i t) a w := by
  unfold wpT
  simp only [hi]
  exact ⟨v, YI.of_quiet h, hn⟩
theorem wpT_r {L : Act → World → Prop} {i : Nat} {t : Tr} {o : Oper} {a : Act} {w : World} (hi : ops[i]? = some o)
    (h : ∀ K : Act → World → Prop, (∀ a' w', I w' → wpT P ops I L t a' w' → K a' w') → I w → if Region.wanted o (yielded ops a.tmps) then o.wp P a w K Qf else K (a.put o.dst undef) w) (hI : I w) : wpT P ops I L (.r i t) a w := by
  unfold wpT
  exact opW_intro hi h hI
theorem wpT_rr {L : Act → World → Prop} {i j : Nat} {s t : Tr} {o o' : Oper} {a : Act} {w : World} (hi : ops[i]? = some o) (hj : ops[j]? = some o')
    (h : ∀ K : Act → World → Prop, (∀ a' w', I w' → wpT P ops I L s a' w' → K a' w') → I w → if Region.wanted o (yielded ops a.tmps) then o.wp P a w K Qf else K (a.put o.dst undef) w)
    (h' : ∀ K : Act → World → Prop, (∀ a' w', I w' → wpT P ops I L t a' w' → K a' w') → I w → if Region.wanted o' (yielded ops a.tmps) then o'.wp P a w K Qf else K (a.put o'.dst undef) w) (hI : I w) : wpT P ops I L (.rr i j s t) a w := by
  unfold wpT
  exact ⟨opW_intro hi h hI, opW_intro hj h' hI⟩
theorem wpAnyI_tree {n : Nat} {Lq : Act → World → Prop} (hsel : Region.noSelect ops = true) (hb : tailB md ops n = true) :
    ∀ (t : Tr) (listed : Array Bool) (a : Act) (w : World), HeadInv md ops n listed → treeB md ops n t listed = true → I w → wpT P ops I Lq t a w →
      wpAnyI P md ops I n (fun listed' a' w' => Region.seqB md ops (ops.size - n) n listed' = true ∧ Lq a' w') t.dep listed a w
  | .fin, listed, a, w, _, hB, hI, h => ⟨hI, hB, h⟩
  | .q i t, listed, a, w, inv, hB, hI, h => by
    simp only [treeB, Bool.and_eq_true, decide_eq_true_eq] at hB
    obtain ⟨⟨hin, hr, hf⟩, hB2⟩ := hB
    unfold wpT at h
    cases ho : ops[i]? with
    | none => rw [ho] at h; exact h.elim
    | some o =>
      simp only [ho] at h
      obtain ⟨v, hy, hn⟩ := h
      have hr' : i ∈ Region.ready md ops listed := by simpa using hr
      exact wpAnyI_first ho (Region.noSelect_spec hsel) hb hin (fun _ _ _ hL => seqB_ready hL.1) t.dep listed a w inv (Region.free_spec ho hf) hr' hy hI
        (wpAnyI_tree hsel hb t _ _ _ (inv.set hr' hin) hB2 hI hn)
  | .r i t, listed, a, w, inv, hB, hI, h => by
    simp only [treeB, Bool.and_eq_true, decide_eq_true_eq] at hB
    obtain ⟨⟨hin, hB1⟩, hB2⟩ := hB
    unfold wpT at h
    refine ⟨hI, (by rw [hB1]; simp), fun j hj => ?_⟩
    have hr' : i ∈ Region.ready md ops listed := by rw [hB1]; exact List.mem_singleton.2 rfl
    rw [hB1] at hj
    have hji : j = i := by simpa using hj
    subst hji
    exact ⟨hin, opW_opI hI h fun a' w' hI' h' => wpAnyI_tree hsel hb t _ a' w' (inv.set hr' hin) hB2 hI' h'⟩
  | .rr i j s t, listed, a, w, inv, hB, hI, h => by
    simp only [treeB, Bool.and_eq_true, decide_eq_true_eq] at hB
    obtain ⟨⟨⟨⟨⟨hin, hjn⟩, hB1⟩, hd⟩, hB2⟩, hB3⟩ := hB
    unfold wpT at h
    refine ⟨hI, (by rw [hB1]; simp), fun k hk => ?_⟩
    have hri : i ∈ Region.ready md ops listed := by rw [hB1]; simp
    have hrj : j ∈ Region.ready md ops listed := by rw [hB1]; simp
    rw [hB1] at hk
    rcases List.mem_cons.1 hk with rfl | hk
    · exact ⟨hin, opW_opI hI h.1 fun a' w' hI' h' => wpAnyI_tree hsel hb s _ a' w' (inv.set hri hin) hB2 hI' h'⟩
    · have hkj : k = j := by simpa using hk
      subst hkj
      refine ⟨hjn, opW_opI hI h.2 fun a' w' hI' h' => ?_⟩
      have := wpAnyI_tree hsel hb t _ a' w' (inv.set hrj hjn) hB3 hI' h'
      rw [← hd] at this
      exact this
/-- a region that draws, walked along a tree of orders, then the forced operations from n on -/
theorem wp_region_tree {id : Nat} {Q : Exit → Act → World → Prop} {a : Act} {w : World} {l : List Oper} (I : World → Prop) (n : Nat) (t : Tr) (hm : P.follows .mixedOrders = true) (hB : schedTB .any l.toArray n t = true)
    (hI : I w.drew) (h : wpT P l.toArray I (fun a' w' => wpList P l.toArray Q (l.drop n) a' w') t a w.drew) : (Code.region id l.toArray true).wp P Q a w := by
  simp only [schedTB, Bool.and_eq_true, decide_eq_true_eq] at hB
  obtain ⟨⟨⟨hsel, hb⟩, hlen⟩, hs⟩ := hB
  have hn : n ≤ l.length := by
    unfold tailB at hb
    simp only [Bool.or_eq_true, Bool.and_eq_true, decide_eq_true_eq, List.size_toArray] at hb
    rcases hb with hb | ⟨⟨hb, _⟩, _⟩ <;> omega
  have inv0 : HeadInv .any l.toArray n (Array.replicate l.toArray.size false) :=
    ⟨by simp, fun j oj _ hl => (by rw [getD_replicate_false] at hl; cases hl), fun t _ ht => getD_in (by simpa using ht) (getD_replicate_false _ _)⟩
  have H := wpAnyI_tree (md := .any) (P := P) (Lq := fun a' w' => wpList P l.toArray Q (l.drop n) a' w') hsel hb t _ a w.drew inv0 hs hI h
  refine wp_region_any hm ?_
  have hdl : (l.drop n).length = l.toArray.size - n := by simp
  have := wpAny_of_I (Q := Q) (g := l.toArray.size - n) (fun listed a' w' hL => by
    have := wpAny_of_seq (md := .any) (Q' := Q) (l.drop n) n listed a' w' (fun j => by simp [List.getElem?_drop]) (by rw [hdl]; exact hL.1) hL.2
    rwa [hdl] at this) _ _ _ _ H
  rw [hlen, show n + (l.toArray.size - n) = l.toArray.size by simp; omega] at this
  exact this
end
end Go.Proofs.YtgdmfihnbbgcoaaGreatDoor
