/- Joined of several texts: SchT, 14M, 14O. -/
import Derived.Test.YtnolbgdbboiehaaGreatDoorSch
import Derived.Test.YtnolbgdbboiehaaGreatDoorAL
import Derived.Test.YtnolbgdbboiehaaGreatDoorRel
namespace Go.Proofs.YtnolbgdbboiehaaGreatDoor
open Go.RowKit
set_option linter.unusedVariables false
set_option linter.unusedSimpArgs false
/- Over any program: a region whose orders are left open, walked in a tree of orders: as Sch, but two operations that are ready together and not quiet are taken in both orders. -/
inductive Tr where
  | fin : Tr
  | q : Nat → Tr → Tr
  | r : Nat → Tr → Tr
  | rr : Nat → Nat → Tr → Tr → Tr
def Tr.dep : Tr → Nat
  | .fin => 0
  | .q _ t => t.dep + 1
  | .r _ t => t.dep + 1
  | .rr _ _ s _ => s.dep + 1
section
variable {P : Program} {ops : Array Oper} {md : Region.Mode} {I : World → Prop}
def treeB (md : Region.Mode) (ops : Array Oper) (n : Nat) : Tr → Array Bool → Bool
  | .fin, listed => Region.seqB md ops (ops.size - n) n listed
  | .q i t, listed => decide (i < n) && ((Region.ready md ops listed).contains i && Region.free md ops listed i) && treeB md ops n t (listed.setIfInBounds i true)
  | .r i t, listed => decide (i < n) && decide (Region.ready md ops listed = [i]) && treeB md ops n t (listed.setIfInBounds i true)
  | .rr i j s t, listed => decide (i < n) && decide (j < n) && decide (Region.ready md ops listed = [i, j]) && decide (s.dep = t.dep) && treeB md ops n s (listed.setIfInBounds i true) && treeB md ops n t (listed.setIfInBounds j true)
def schedTB (md : Region.Mode) (ops : Array Oper) (n : Nat) (t : Tr) : Bool :=
  Region.noSelect ops && tailB md ops n && decide (t.dep = n) && treeB md ops n t (Array.replicate ops.size false)
/-- an operation run, I kept, then K -/
def opW (P : Program) (ops : Array Oper) (I : World → Prop) (i : Nat) (K : Act → World → Prop) (a : Act) (w : World) : Prop :=
  match ops[i]? with
  | none => False
  | some o => if Region.wanted o (yielded ops a.tmps) then o.wp P a w (fun a' w' => I w' ∧ K a' w') Qf else K (a.put o.dst undef) w
theorem opW_opI {i : Nat} {K K' : Act → World → Prop} {a : Act} {w : World} (hI : I w) (h : opW P ops I i K a w) (hk : ∀ a' w', I w' → K a' w' → K' a' w') : opI P ops i K' a w := by
  unfold opW at h
  unfold opI
  cases ho : ops[i]? with
  | none => rw [ho] at h; exact h.elim
  | some o =>
    simp only [ho] at h
    split at h
    · rename_i hw
      simp only [hw, if_true]
      exact Oper.wp_mono (fun a' w' h' => hk a' w' h'.1 h'.2) h
    · rename_i hw
      simp only [hw]
      exact hk _ _ hI h
theorem opW_intro {i : Nat} {o : Oper} {K' : Act → World → Prop} {a : Act} {w : World} (hi : ops[i]? = some o)
    (h : ∀ K : Act → World → Prop, (∀ a' w', I w' → K' a' w' → K a' w') → I w → if Region.wanted o (yielded ops a.tmps) then o.wp P a w K Qf else K (a.put o.dst undef) w) (hI : I w) : opW P ops I i K' a w := by
  unfold opW
  simp only [hi]
  have h := h (fun a' w' => I w' ∧ K' a' w') (fun _ _ h1 h2 => ⟨h1, h2⟩) hI
  split at h
  · rename_i hw; rw [if_pos hw]; exact h
  · rename_i hw; rw [if_neg hw]; exact h.2
/-- the walk along the tree -/
def wpT (P : Program) (ops : Array Oper) (I : World → Prop) (L : Act → World → Prop) : Tr → Act → World → Prop
  | .fin, a, w => L a w
  | .q i t, a, w =>
    match ops[i]? with
    | none => False
    | some o => ∃ v, YI P ops I o v a ∧ wpT P ops I L t (a.put o.dst v) w
  | .r i t, a, w => opW P ops I i (wpT P ops I L t) a w
  | .rr i j s t, a, w => opW P ops I i (wpT P ops I L s) a w ∧ opW P ops I j (wpT P ops I L t) a w
theorem wpT_fin {L : Act → World → Prop} {a : Act} {w : World} (h : L a w) : wpT P ops I L .fin a w := h
theorem wpT_q {L : Act → World → Prop} {i : Nat} {t : Tr} {o : Oper} {v : Value} {a : Act} {w : World} (hi : ops[i]? = some o)
    (h : ∀ w', I w' → ∀ K : Value → Prop, K v → quietV P ops o a w' K) (hn : wpT P ops I L t (a.put o.dst v) w) : wpT P ops I L (.q i t) a w := by
  unfold wpT
  simp only [hi]
  exact ⟨v, YI.of_quiet h, hn⟩
theorem wpT_r {L : Act → World → Prop} {i : Nat} {t : Tr} {o : Oper} {a : Act} {w : World} (hi : ops[i]? = some o)
    (h : ∀ K : Act → World → Prop, (∀ a' w', I w' → wpT P ops I L t a' w' → K a' w') → I w → if Region.wanted o (yielded ops a.tmps) then o.wp P a w K Qf else K (a.put o.dst undef) w) (hI : I w) : wpT P ops I L (.r i t) a w := by
  unfold wpT
  exact opW_intro hi h hI
theorem wpT_rr {L : Act → World → Prop} {i j : Nat} {s t : Tr} {o o' : Oper} {a : Act} {w : World} (hi : ops[i]? = some o) (hj : ops[j]? = some o')
    (h : ∀ K : Act → World → Prop, (∀ a' w', I w' → wpT P ops I L s a' w' → K a' w') → I w → if Region.wanted o (yielded ops a.tmps) then o.wp P a w K Qf else K (a.put o.dst undef) w)
    (h' : ∀ K : Act → World → Prop, (∀ a' w', I w' → wpT P ops I L t a' w' → K a' w') → I w → if Region.wanted o' (yielded ops a.tmps) then o'.wp P a w K Qf else K (a.put o'.dst undef) w) (hI : I w) : wpT P ops I L (.rr i j s t) a w := by
  unfold wpT
  exact ⟨opW_intro hi h hI, opW_intro hj h' hI⟩
theorem wpAnyI_tree {n : Nat} {Lq : Act → World → Prop} (hsel : Region.noSelect ops = true) (hb : tailB md ops n = true) :
    ∀ (t : Tr) (listed : Array Bool) (a : Act) (w : World), HeadInv md ops n listed → treeB md ops n t listed = true → I w → wpT P ops I Lq t a w →
      wpAnyI P md ops I n (fun listed' a' w' => Region.seqB md ops (ops.size - n) n listed' = true ∧ Lq a' w') t.dep listed a w
  | .fin, listed, a, w, _, hB, hI, h => ⟨hI, hB, h⟩
  | .q i t, listed, a, w, inv, hB, hI, h => by
    simp only [treeB, Bool.and_eq_true, decide_eq_true_eq] at hB
    obtain ⟨⟨hin, hr, hf⟩, hB2⟩ := hB
    unfold wpT at h
    cases ho : ops[i]? with
    | none => rw [ho] at h; exact h.elim
    | some o =>
      simp only [ho] at h
      obtain ⟨v, hy, hn⟩ := h
      have hr' : i ∈ Region.ready md ops listed := by simpa using hr
      exact wpAnyI_first ho (Region.noSelect_spec hsel) hb hin (fun _ _ _ hL => seqB_ready hL.1) t.dep listed a w inv (Region.free_spec ho hf) hr' hy hI
        (wpAnyI_tree hsel hb t _ _ _ (inv.set hr' hin) hB2 hI hn)
  | .r i t, listed, a, w, inv, hB, hI, h => by
    simp only [treeB, Bool.and_eq_true, decide_eq_true_eq] at hB
    obtain ⟨⟨hin, hB1⟩, hB2⟩ := hB
    unfold wpT at h
    refine ⟨hI, (by rw [hB1]; simp), fun j hj => ?_⟩
    have hr' : i ∈ Region.ready md ops listed := by rw [hB1]; exact List.mem_singleton.2 rfl
    rw [hB1] at hj
    have hji : j = i := by simpa using hj
    subst hji
    exact ⟨hin, opW_opI hI h fun a' w' hI' h' => wpAnyI_tree hsel hb t _ a' w' (inv.set hr' hin) hB2 hI' h'⟩
  | .rr i j s t, listed, a, w, inv, hB, hI, h => by
    simp only [treeB, Bool.and_eq_true, decide_eq_true_eq] at hB
    obtain ⟨⟨⟨⟨⟨hin, hjn⟩, hB1⟩, hd⟩, hB2⟩, hB3⟩ := hB
    unfold wpT at h
    refine ⟨hI, (by rw [hB1]; simp), fun k hk => ?_⟩
    have hri : i ∈ Region.ready md ops listed := by rw [hB1]; simp
    have hrj : j ∈ Region.ready md ops listed := by rw [hB1]; simp
    rw [hB1] at hk
    rcases List.mem_cons.1 hk with rfl | hk
    · exact ⟨hin, opW_opI hI h.1 fun a' w' hI' h' => wpAnyI_tree hsel hb s _ a' w' (inv.set hri hin) hB2 hI' h'⟩
    · have hkj : k = j := by simpa using hk
      subst hkj
      refine ⟨hjn, opW_opI hI h.2 fun a' w' hI' h' => ?_⟩
      have := wpAnyI_tree hsel hb t _ a' w' (inv.set hrj hjn) hB3 hI' h'
      rw [← hd] at this
      exact this
/-- a region that draws, walked along a tree of orders, then the forced operations from n on -/
theorem wp_region_tree {id : Nat} {Q : Exit → Act → World → Prop} {a : Act} {w : World} {l : List Oper} (I : World → Prop) (n : Nat) (t : Tr) (hm : P.follows .mixedOrders = true) (hB : schedTB .any l.toArray n t = true)
    (hI : I w.drew) (h : wpT P l.toArray I (fun a' w' => wpList P l.toArray Q (l.drop n) a' w') t a w.drew) : (Code.region id l.toArray true).wp P Q a w := by
  simp only [schedTB, Bool.and_eq_true, decide_eq_true_eq] at hB
  obtain ⟨⟨⟨hsel, hb⟩, hlen⟩, hs⟩ := hB
  have hn : n ≤ l.length := by
    unfold tailB at hb
    simp only [Bool.or_eq_true, Bool.and_eq_true, decide_eq_true_eq, List.size_toArray] at hb
    rcases hb with hb | ⟨⟨hb, _⟩, _⟩ <;> omega
  have inv0 : HeadInv .any l.toArray n (Array.replicate l.toArray.size false) :=
    ⟨by simp, fun j oj _ hl => (by rw [getD_replicate_false] at hl; cases hl), fun t _ ht => getD_in (by simpa using ht) (getD_replicate_false _ _)⟩
  have H := wpAnyI_tree (md := .any) (P := P) (Lq := fun a' w' => wpList P l.toArray Q (l.drop n) a' w') hsel hb t _ a w.drew inv0 hs hI h
  refine wp_region_any hm ?_
  have hdl : (l.drop n).length = l.toArray.size - n := by simp
  have := wpAny_of_I (Q := Q) (g := l.toArray.size - n) (fun listed a' w' hL => by
    have := wpAny_of_seq (md := .any) (Q' := Q) (l.drop n) n listed a' w' (fun j => by simp [List.getElem?_drop]) (by rw [hdl]; exact hL.1) hL.2
    rwa [hdl] at this) _ _ _ _ H
  rw [hlen, show n + (l.toArray.size - n) = l.toArray.size by simp; omega] at this
  exact this
end
/- l14All of the reference: all frames between the least and the greatest one. Regions 6 and 18 written by gen14M.py. -/
theorem Sl.rd {α : Type} {K : Cod α} {w : World} {A : Option Addr} {n c : Nat} {xs : List α} (h : Sl K w (.slice A n c) xs) : Rd w A (flat K xs) := by
  obtain ⟨A', c', hv, hc, hm, hr⟩ := h
  injection hv with e1 e2 e3
  subst e1
  exact hr
/-- append onto an owned slice, as one operation -/
theorem ap_any_wp {P : Program} {α : Type} {K : Cod α} (w : World) {o : Oper} {a : Act} {Kk : Act → World → Prop} {Q : Exit → Act → World → Prop} {t e : TypeId} {z : Value} {bytes : Nat}
    (T : Ty P t e z K.size bytes) (s x : Operand)
    (ho : o.op = .call { callee := .builtin .append, args := #[s, x], argTypes := #[t, t] })
    {B : Nat} {v : Value} {xs : List α} (hs : a.eval s = v) (hown : Ow K e B w v xs)
    {A : Option Addr} {m c : Nat} {news : List α} (hx : a.eval x = .slice A m c) (hm : m = news.length) (hr : Rd w A (flat K news))
    (hbytes : (xs.length + news.length) * bytes ≤ 140737488355328) (hbase : B ≤ w.heap.size)
    (h : ∀ v' w', Ow K e B w' v' (xs ++ news) → w.grownBy w' v.ownBlock → Below B w w' → (v'.ownBlock = v.ownBlock ∨ v'.ownBlock = some w.heap.size) → Kk (a.put o.dst v') w') :
    o.wp P a w Kk Q := by
  subst hm
  obtain ⟨i, hi, hz, hsize, hby⟩ := T.info
  have hpos := T.pos
  have hmax : xs.length + news.length ≤ 140737488355328 := Nat.le_trans (Nat.le_mul_of_pos_right _ hpos) hbytes
  obtain ⟨⟨A0, c0, rfl, hc0, hm0⟩, ho'⟩ := hown
  have main : ∃ v' w', (Builtin.append_ #[t, t] o.type #[.slice A0 xs.length c0, .slice A news.length c]).run P w = .ok v' w' ∧ w'.ownsRow B e K.size v' (xs.length + news.length) (flat K xs ++ flat K news) ∧ w.grownBy w' (Value.ownBlock (.slice A0 xs.length c0)) ∧
      (v'.ownBlock = (Value.ownBlock (.slice A0 xs.length c0)) ∨ v'.ownBlock = some w.heap.size) ∧ ∃ A' c', v' = .slice A' (xs.length + news.length) c' ∧ xs.length + news.length ≤ c' ∧ c' ≤ 9223372036854775807 := by
    have shape : ∀ v' w', World.ownsRow w' B e K.size v' (xs.length + news.length) (flat K xs ++ flat K news) → ∃ A' c', v' = .slice A' (xs.length + news.length) c' ∧ xs.length + news.length ≤ c' ∧ c' ≤ 9223372036854775807 := by
      intro v' w' h
      rcases h.2 with ⟨h1, h2⟩ | ⟨g, cap, cur, hv, _, _, hnc, hcm, _⟩
      · exact ⟨none, 0, by rw [h1, h2], by omega, by omega⟩
      · exact ⟨_, cap, hv, hnc, by simp only [maxLen] at hcm; omega⟩
    by_cases hn : news = []
    · subst hn
      refine ⟨.slice A0 xs.length c0, w, ?_, by simpa [flat] using ho', World.grownBy.refl w _, .inl rfl, A0, c0, by simp, by simpa using hc0, hm0⟩
      rcases ho'.2 with ⟨h1, h2⟩ | ⟨g, cap, cur, hv, _, _, hnc, _⟩
      · rw [h1]
        rcases A with _ | A <;> simp [Builtin.append_, run_underlying T.under, sizeOf, typeInfo, hi, Builtin.lenOf, Builtin.firstCells, loadCells, loadCellsFrom]
      · injection hv with hA _ hcc
        subst hA; subst hcc
        rcases A with _ | A <;> simp [Builtin.append_, run_underlying T.under, sizeOf, typeInfo, hi, Builtin.lenOf, Builtin.firstCells, loadCells, loadCellsFrom, hnc, storeCells]
    · rcases hr with hr | ⟨b, off, rfl, _, hcell⟩
      · have := flat_length (K := K) news
        rw [hr, List.length_nil] at this
        have h0 : 0 < news.length := by cases news with | nil => exact absurd rfl hn | cons _ _ => simp
        have := Nat.mul_pos h0 K.pos
        omega
      · obtain ⟨v', w', hrun, h2, h3, _, h5⟩ := run_append_own_at (P := P) w B t o.type e i z K.size bytes T.under hi hz hsize hby T.cells K.pos _ _ _ ho' ⟨b, off, none⟩ news.length c (flat K news) (flat_length news)
          (fun j u hu => by rw [add_lit]; exact hcell j u hu) (flat_one news) (by simp only [maxLen]; omega) hbytes hbase
        exact ⟨v', w', hrun, h2, h3, h5, shape v' w' h2⟩
  obtain ⟨v', w', hrun, h2, h3, h4, A', c', hv', hn', hm'⟩ := main
  unfold Oper.wp execOp
  simp only [ho, resolve, invoke, builtin, Sem.run_bind, Sem.run_pure, Result.andThen_ok, List.map_toArray, List.map_cons, List.map_nil, hs, hx, hrun]
  refine (h v' w' ⟨⟨A', c', by rw [hv', List.length_append], by simpa using hn', hm'⟩, by rw [flat_append, List.length_append]; exact h2⟩ h3 ?_ h4)
  refine (Below.refl _ _).grown h3 hbase fun k hk => (ho'.lt k hk).1
set_option maxRecDepth 100000 in
set_option maxHeartbeats 4000000 in
theorem spec_l14All (ns us : List Nat) (f : Fm) (A0 A1 A2 A3 : Option Addr) (c0 c1 c2 c3 : Nat) (Ab Ai Ao : Option Addr) (nb cb ni ci no co : Nat) (w : World)
    (h : SpR w ns us f A0 A1 c0 c1 (.slice A2 ns.length c2) (.slice A3 (acn ns us f) c3) (.slice Ab nb cb) (.slice Ai ni ci) (.slice Ao no co)) (h1 : MdN ns us) (hl : (enc f).length ≤ 1000) (h7 : chc ns us f ≤ 7) :
    Calls Tryz.prog 38 #[.agg #[.int .i64 ns.length, .slice A0 ns.length c0, .slice A1 6 c1, .slice A2 ns.length c2, .slice A3 (acn ns us f) c3, .slice Ab nb cb, .slice Ai ni ci, .slice Ao no co]] w fun e w' => ∃ u, e = .returned u ∧ ObF w.heap.size w'.heap.size w' u (fsl (lst ns us f) (gre ns us f) (acn ns us f)) ∧ Below w.heap.size w w' := by
  have hb0 := below_alloc' w (.cells #[.int .i64 ns.length, .slice A0 ns.length c0, .slice A1 6 c1, .slice A2 ns.length c2, .slice A3 (acn ns us f) c3, .slice Ab nb cb, .slice Ai ni ci, .slice Ao no co] 66)
  have hk0 := Blk.new w 66 #[.int .i64 ns.length, .slice A0 ns.length c0, .slice A1 6 c1, .slice A2 ns.length c2, .slice A3 (acn ns us f) c3, .slice Ab nb cb, .slice Ai ni ci, .slice Ao no co]
  have HB := Lib.hid hb0
  have HK0 := Lib.hid hk0
  have HLo := Lib.hid (fun W (hW : Below w.heap.size w W) => spec_l14Least ns us (acl ns us f) [] (acn ns us f) A0 A1 A2 A3 c0 c1 c2 c3 Ab Ai Ao nb cb ni ci no co W (h.below hW).md h1 (h.below hW).cl (acl_length ns us f) (acl_lt ns us f) (Nat.le_trans (acn_le ns us f) h1.r.1))
  have HHi := Lib.hid (fun W (hW : Below w.heap.size w W) => spec_l14Greatest ns us (afw ns us f) f (acn ns us f) ns.length A0 A1 A2 A3 c0 c1 c2 c3 Ab Ai Ao nb cb ni ci no co false false W (h.below hW) h1 hl rfl (afw_length ns us f) (Nat.le_trans (acn_le ns us f) h1.r.1) (fun i => afw_le8 ns us f h1.r.1 i))
  have hn8 : acn ns us f ≤ 8 := Nat.le_trans (acn_le ns us f) h1.r.1
  have HQ : Hid (qrl (acl ns us f) ns (acn ns us f) ns.length = lst ns us f) := Lib.hid rfl
  have HR := Lib.hid (gre_gp ns us f)
  rw [HQ.out] at HLo
  rw [HR.out] at HHi
  have E3 := Lib.hid (show (li (lst ns us f)).length = acn ns us f by rw [li_length, lst_length])
  have E4 := Lib.hid (show (li (gre ns us f)).length = acn ns us f by rw [li_length, gre_length])
  have HLL := Lib.hid (lst_length ns us f)
  have HGL := Lib.hid (gre_length ns us f)
  have HLT := Lib.hid (lst_lt ns us f)
  have HGT := Lib.hid (gre_lt ns us f)
  have h256 : ∀ {l : List Nat}, (∀ x ∈ l, x < 2 ^ acn ns us f) → ∀ i, l.getD i 0 < 256 := fun h i => Nat.lt_of_lt_of_le (getD_lt h i) (two_pow_256 hn8)
  have HL256 := Lib.hid (h256 HLT.out)
  have HG256 := Lib.hid (h256 HGT.out)
  have HCl : Hid (∀ i, i ≤ acn ns us f → (cds (lst ns us f) (gre ns us f) i).length ≤ 128) := Lib.hid fun i hi => by
    rw [cds_length _ _ HG256.out]
    exact Nat.pow_le_pow_right (n := 2) (j := 7) (by omega) (Nat.le_trans (chTo_mono _ _ hi) h7)
  have HCx := Lib.hid (cds_len (lst ns us f) (gre ns us f))
  have HFs : Hid (fsl (lst ns us f) (gre ns us f) (acn ns us f) = (cds (lst ns us f) (gre ns us f) (acn ns us f)).map fun c => ((acn ns us f : Int), li c)) := Lib.hid rfl
  have HC0 : Hid (cds (lst ns us f) (gre ns us f) 0 = [[]]) := Lib.hid rfl
  have HCS : Hid (∀ i, cds (lst ns us f) (gre ns us f) (i + 1) = (cds (lst ns us f) (gre ns us f) i).flatMap fun c => (sbs (andnot ((gre ns us f).getD i 0) ((lst ns us f).getD i 0))).map fun s => c ++ [(lst ns us f).getD i 0 ||| s]) := Lib.hid fun i => rfl
  clear hb0 hk0 h h1 hl h256 HQ HR
  generalize fsl (lst ns us f) (gre ns us f) (acn ns us f) = FS at *
  generalize hcd : cds (lst ns us f) (gre ns us f) = cd at *
  clear hcd
  generalize lst ns us f = lo at *
  generalize gre ns us f = hi at *
  generalize acn ns us f = n at *
  go_enter Tryz.func38, Tryz.ntmps38
  go_upto_region 1 with fail
  generalize World.alloc w _ = W at *
  have k0 := HK0.out.cell
  have l0 := HK0.out.lt
  have d0 : W.cell? ⟨w.heap.size, 0, none⟩ = some (.int .i64 (ns.length : Int)) := k0 0
  have d1 : W.cell? ⟨w.heap.size, 1, none⟩ = some (.slice A0 ns.length c0) := k0 1
  have d2 : W.cell? ⟨w.heap.size, 2, none⟩ = some (.slice A1 6 c1) := k0 2
  have d3 : W.cell? ⟨w.heap.size, 3, none⟩ = some (.slice A2 ns.length c2) := k0 3
  have d4 : W.cell? ⟨w.heap.size, 4, none⟩ = some (.slice A3 n c3) := k0 4
  have d5 : W.cell? ⟨w.heap.size, 5, none⟩ = some (.slice Ab nb cb) := k0 5
  have d6 : W.cell? ⟨w.heap.size, 6, none⟩ = some (.slice Ai ni ci) := k0 6
  have d7 : W.cell? ⟨w.heap.size, 7, none⟩ = some (.slice Ao no co) := k0 7
  clear k0
  refine wp_region_sched (Below W.heap.size W) 6 [0, 2, 4, 5] [0, 2, 1, 3, 4, 5] (by kernel_rfl) (by kernel_rfl) (Below.refl _ _).drew ?_
  repeat
    apply wpSched_q rfl rfl
    case h =>
      intro w' hI K hK
      have d0' := (hI.cell (p := ⟨w.heap.size, 0, none⟩) l0).trans d0
      have d1' := (hI.cell (p := ⟨w.heap.size, 1, none⟩) l0).trans d1
      have d2' := (hI.cell (p := ⟨w.heap.size, 2, none⟩) l0).trans d2
      have d3' := (hI.cell (p := ⟨w.heap.size, 3, none⟩) l0).trans d3
      have d4' := (hI.cell (p := ⟨w.heap.size, 4, none⟩) l0).trans d4
      have d5' := (hI.cell (p := ⟨w.heap.size, 5, none⟩) l0).trans d5
      have d6' := (hI.cell (p := ⟨w.heap.size, 6, none⟩) l0).trans d6
      have d7' := (hI.cell (p := ⟨w.heap.size, 7, none⟩) l0).trans d7
      simp only [quietV, stillV]
      go_simp
      exact hK
    go_simp
  refine wpSched_r rfl rfl ?_ (Below.refl _ _).drew
  intro K hK _
  go_simp
  refine (HLo.out _ (bthen HB.out (Below.refl _ _).drew)).mono ?_
  rintro e w2 ⟨u1, rfl, ho1, hb⟩
  have hb2 : Below W.heap.size W w2 := (Below.refl _ _).drew.trans hb
  obtain ⟨BL, dL, rfl⟩ := ho1.opn
  rw [E3.out] at ho1 ⊢
  have O1 := Lib.hid ho1
  refine hK _ _ hb2 ?_
  clear hK K hb ho1
  refine wpSched_r rfl rfl ?_ hb2
  intro K hK _
  go_simp
  refine (HHi.out _ (bthen HB.out hb2)).mono ?_
  rintro e w3 ⟨u2, rfl, ho2, hb⟩
  have hb3 : Below W.heap.size W w3 := hb2.trans (hb.mono hb2.size)
  obtain ⟨BG, dG, rfl⟩ := ho2.opn
  rw [E4.out] at ho2 ⊢
  have HSG := Lib.hid (ho2.sl)
  have HSL := Lib.hid ((O1.out.below hb).sl)
  refine hK _ _ hb3 ?_
  clear hK K hb ho2
  repeat
    apply wpSched_q rfl rfl
    case h =>
      intro w' hI K hK
      simp only [quietV, stillV]
      go_simp
      exact hK
    go_simp
  refine wpSched_nil ?_
  try simp only [List.drop_succ_cons, List.drop_zero, List.drop_nil]
  have HBW := Lib.hid (bthen HB.out hb3)
  clear hb3 hb2 d0 d1 d2 d3 d4 d5 d6 d7 l0 O1 HLo HHi
  go_upto_region 2 with fail
  have hba := below_alloc' w3 (.cells #[] 2)
  have hka := Blk.new w3 2 #[]
  have hO0 : Ow cH 24 w3.heap.size ((w3.alloc (.cells #[] 2)).alloc (.cells #[.slice (some ⟨w3.heap.size, 0, none⟩) 0 0] 24)) (.slice (some ⟨w3.heap.size + 1, 0, none⟩) 1 1) [(⟨some ⟨w3.heap.size, 0, none⟩, 0, 0⟩ : Hd)] := Ow.lit' (K := cH) [(⟨some ⟨w3.heap.size, 0, none⟩, 0, 0⟩ : Hd)] (by simp) rfl rfl (by omega)
  have HR0 : Hid (OwR 24 w3.heap.size ((w3.alloc (.cells #[] 2)).alloc (.cells #[.slice (some ⟨w3.heap.size, 0, none⟩) 0 0] 24)) (.slice (some ⟨w3.heap.size + 1, 0, none⟩) 1 1) ((cd 0).map li)) := Lib.hid (by
    rw [HC0.out]
    refine ⟨_, hO0, rfl, fun i a b => ?_⟩
    obtain rfl : i = 0 := by simp at a; omega
    refine ⟨Sl.empty _ 0 (by omega), fun k hk => ?_⟩
    have hk' : w3.heap.size = k := Option.some.inj hk
    subst hk'
    exact ⟨by simp; omega, fun e => by have h' : w3.heap.size + 1 = w3.heap.size := Option.some.inj e; omega⟩)
  have HBa := Lib.hid (bthen hba (below_alloc' (w3.alloc (.cells #[] 2)) (.cells #[.slice (some ⟨w3.heap.size, 0, none⟩) 0 0] 24)))
  clear hO0 hba hka
  go_wp2
  generalize World.alloc (w3.alloc _) _ = W1 at *
  go_loopw [5, 6, 7, 8, 9, 10, 11, 12] (fun cv ix _ _ _ _ _ _ wr => ∃ x : Nat, x ≤ n ∧ ix = .int .i64 x ∧ OwR 24 w3.heap.size wr cv ((cd x).map li) ∧ Below w3.heap.size w3 wr) (fun _ ix _ _ _ _ _ _ _ => n - (intOf ix).toNat)
  case atStart => exact ⟨0, Nat.zero_le _, rfl, HR0.out, HBa.out⟩
  case round =>
    obtain ⟨x, hx, rfl, ho, hb⟩ := hrel
    have HO := Lib.hid ho
    have HB := Lib.hid hb
    by_cases hlt : x < n
    · obtain ⟨Ac, cc', hcv⟩ := ho.sl2.opn
      have hcl : ((cd x).map li).length = (cd x).length := List.length_map ..
      rw [hcl] at hcv
      subst hcv
      obtain ⟨bg, og, eg, hbg, hcg⟩ := (HSG.out.below hb).atI (k := x) (by rw [li_length, HGL.out]; exact hlt)
      obtain ⟨bl, ol, el, hbl, hcl0⟩ := (HSL.out.below hb).atI (k := x) (by rw [li_length, HLL.out]; exact hlt)
      subst eg
      subst el
      rw [li_get] at hcg hcl0
      have q1 := HL256.out x
      have q2 := HG256.out x
      have HCSx := Lib.hid (HCS.out x)
      have HClx := Lib.hid (HCl.out (x + 1) (by omega))
      have HCly := Lib.hid (HCl.out x (by omega))
      have HCxx := Lib.hid (HCx.out x)
      generalize lo.getD x 0 = m1 at *
      generalize hi.getD x 0 = m2 at *
      have E := i64_andNot_nat m2 m1 (by omega) (by omega)
      have hz : andnot m2 m1 < 256 := andnot_lt (k := 8) q2
      have HSb := Lib.hid (fun W => spec_l01Subs (andnot m2 m1) W hz)
      have HSlen := Lib.hid (sbs_len hz)
      have HSw : Hid (∀ s ∈ sbs (andnot m2 m1), s < 256) := Lib.hid fun s hs => by
        have e := eq_of_beq (List.all_eq_true.1 (sbs_within _ hz) s hs)
        exact Nat.lt_of_le_of_lt (by rw [← e]; exact Nat.and_le_right) hz
      generalize andnot m2 m1 = z at *
      generalize sbs z = sb at *
      have HCN := Lib.hid (fun k => take_flat_le (cd x) (fun c => sb.map fun s => c ++ [m1 ||| s]) k)
      have HCT := Lib.hid (fun k h => take_flat_succ (cd x) (fun c => sb.map fun s => c ++ [m1 ||| s]) k h)
      clear ho hb
      generalize wr = wo at *
      go_upto_region 7 with fail
      refine wp_region_rely (Below wo.heap.size wo) [fun _ v _ => v = .slice (some ⟨bg, og, none⟩) n dG,
        fun _ v _ => v = .int .i64 x,
        fun _ v _ => v = .pointer (some ⟨bg, og + x, none⟩),
        fun _ v _ => v = .int .i64 m2,
        fun _ v _ => v = .slice (some ⟨bl, ol, none⟩) n dL,
        fun _ v _ => v = .int .i64 x,
        fun _ v _ => v = .pointer (some ⟨bl, ol + x, none⟩),
        fun _ v _ => v = .int .i64 m1,
        fun _ v _ => v = .int .i64 z,
        fun _ v X => ∃ A c, v = .slice A sb.length c ∧ Ow cI 2 wo.heap.size X (.slice A sb.length c) (li sb),
        fun _ v X => ∃ g, v = .slice (some ⟨g, 0, none⟩) 0 0 ∧ Ow cH 24 wo.heap.size X (.slice (some ⟨g, 0, none⟩) 0 0) [],
        fun q v _ => ∀ u, q = [u] → v = u,
        fun q v _ => ∀ u, q = [u] → v = u]
        [none, none, none, none, none, none, none, none, none, some 9, some 10, none, none]
        [(some 27, []), (some 28, []), (some 29, [(0, some 27), (1, some 28)]), (some 30, [(2, some 29)]), (some 31, []), (some 32, []), (some 33, [(4, some 31), (5, some 32)]), (some 34, [(6, some 33)]), (some 35, [(3, some 30), (7, some 34)]), (some 36, [(8, some 35)]), (some 37, []), (some 7, [(9, some 36)]), (some 8, [(10, some 37)])] 100
        (by kernel_rfl) (by kernel_rfl) rfl ((Below.refl _ _).drew) (fun X Y h hb => h.trans (hb.mono h.size)) ?st ?en
      case st =>
        refine stepsR_cons ?_ (stepsR_cons ?_ (stepsR_cons ?_ (stepsR_cons ?_ (stepsR_cons ?_ (stepsR_cons ?_ (stepsR_cons ?_ (stepsR_cons ?_ (stepsR_cons ?_ (stepsR_cons ?_ (stepsR_cons ?_ (stepsR_cons ?_ (stepsR_cons ?_ stepsR_nil))))))))))))
        · intro X hX
          refine stepR_of rfl ?_
          intro K hK
          go_simp
          exact hK _ _ (Below.refl _ _) rfl (fun h => absurd rfl h) rfl
        · intro X hX
          refine stepR_of rfl ?_
          intro K hK
          go_simp
          exact hK _ _ (Below.refl _ _) rfl (fun h => absurd rfl h) rfl
        · intro X hX v0 f0 v1 f1
          obtain ⟨q0, X0, hX0, rfl⟩ := f0
          obtain ⟨q1, X1, hX1, rfl⟩ := f1
          refine stepR_of rfl ?_
          intro K hK
          go_simp
          exact hK _ _ (Below.refl _ _) rfl (fun h => absurd rfl h) rfl
        · intro X hX v0 f0
          obtain ⟨q0, X0, hX0, rfl⟩ := f0
          have hcg' := (hX.cell (p := ⟨bg, og + x, none⟩) hbg).trans hcg
          refine stepR_of rfl ?_
          intro K hK
          go_simp
          exact hK _ _ (Below.refl _ _) rfl (fun h => absurd rfl h) rfl
        · intro X hX
          refine stepR_of rfl ?_
          intro K hK
          go_simp
          exact hK _ _ (Below.refl _ _) rfl (fun h => absurd rfl h) rfl
        · intro X hX
          refine stepR_of rfl ?_
          intro K hK
          go_simp
          exact hK _ _ (Below.refl _ _) rfl (fun h => absurd rfl h) rfl
        · intro X hX v0 f0 v1 f1
          obtain ⟨q0, X0, hX0, rfl⟩ := f0
          obtain ⟨q1, X1, hX1, rfl⟩ := f1
          refine stepR_of rfl ?_
          intro K hK
          go_simp
          exact hK _ _ (Below.refl _ _) rfl (fun h => absurd rfl h) rfl
        · intro X hX v0 f0
          obtain ⟨q0, X0, hX0, rfl⟩ := f0
          have hcl0' := (hX.cell (p := ⟨bl, ol + x, none⟩) hbl).trans hcl0
          refine stepR_of rfl ?_
          intro K hK
          go_simp
          exact hK _ _ (Below.refl _ _) rfl (fun h => absurd rfl h) rfl
        · intro X hX v0 f0 v1 f1
          obtain ⟨q0, X0, hX0, rfl⟩ := f0
          obtain ⟨q1, X1, hX1, rfl⟩ := f1
          refine stepR_of rfl ?_
          intro K hK
          go_simp
          exact hK _ _ (Below.refl _ _) rfl (fun h => absurd rfl h) rfl
        · intro X hX v0 f0
          obtain ⟨q0, X0, hX0, rfl⟩ := f0
          refine stepR_of rfl ?_
          intro K hK
          go_simp
          refine (HSb.out X).mono ?_
          rintro e X5 ⟨u1, rfl, ho, hb⟩
          obtain ⟨A, c, rfl⟩ := ho.opn
          rw [li_length] at ho ⊢
          exact hK _ _ hb ⟨A, c, rfl, ho.mono hX.size⟩ (fun _ k hk => ⟨(ho.block k (blks_own hk)).2, .inl (ho.block k (blks_own hk)).1⟩) rfl
        · intro X hX
          refine stepR_of rfl ?_
          intro K hK
          go_simp
          exact hK _ _ (below_alloc' X _) ⟨X.heap.size, rfl, (Ow.lit (K := cH) (w := X) [] rfl rfl (Nat.le_refl _)).mono hX.size⟩ (fun _ k hk => by have := Option.some.inj (blks_own hk); subst this; exact ⟨by simp, .inl (Nat.le_refl _)⟩) rfl
        · intro X hX v0 f0
          obtain ⟨q0, X0, hX0, A, c, rfl, ho⟩ := f0
          refine stepR_of rfl ?_
          intro K hK
          go_simp
          refine hK _ _ (Below.refl _ _) (fun u h => ?_) (fun h => absurd rfl h) rfl
          simp only [List.nil_append, List.cons_append, List.cons.injEq, and_true] at h
          exact h
        · intro X hX v0 f0
          obtain ⟨q0, X0, hX0, g, rfl, ho⟩ := f0
          refine stepR_of rfl ?_
          intro K hK
          go_simp
          refine hK _ _ (Below.refl _ _) (fun u h => ?_) (fun h => absurd rfl h) rfl
          simp only [List.nil_append, List.cons_append, List.cons.injEq, and_true] at h
          exact h
      case en =>
        intro X hX v0 f0 v1 f1 v2 f2 v3 f3 v4 f4 v5 f5 v6 f6 v7 f7 v8 f8 v9 f9 v10 f10 v11 f11 v12 f12 hsep
        obtain ⟨X9, hX9, As, cs5, rfl, ho9⟩ := f9
        obtain ⟨X10, hX10, gN, rfl, ho10⟩ := f10
        obtain ⟨X11, hX11, h11⟩ := f11
        obtain rfl := h11 _ rfl
        obtain ⟨X12, hX12, h12⟩ := f12
        obtain rfl := h12 _ rfl
        have HS5 := Lib.hid (ho9.below hX9).sl
        have HN5 : Hid (OwR 24 wo.heap.size X (.slice (some ⟨gN, 0, none⟩) 0 0) []) := Lib.hid ⟨[], ho10.below hX10, rfl, fun i a => by simp at a⟩
        have HBX := Lib.hid hX
        clear hsep ho9 ho10 hX hX9 hX10 h11 h12 hX11 hX12
        clear f0 f1 f2 f3 f4 f5 f6 f7 f8 hcg
        generalize X = Y at *
        have hM0 : Ow cI 2 Y.heap.size (Y.alloc (.cells #[] 2)) (.slice (some ⟨Y.heap.size, 0, none⟩) 0 0) [] := Ow.lit [] rfl rfl (Nat.le_refl _)
        have HM0 := Lib.hid hM0
        have HBY := Lib.hid (below_alloc' Y (.cells #[] 2))
        clear hM0
        simp only [List.length_cons, List.length_nil, List.drop_succ_cons, List.drop_zero, List.drop_nil]
        go_wp2_with fail
        go_loopw [9, 10] (fun mv ix wr => ∃ k : Nat, k ≤ sb.length ∧ ix = .int .i64 k ∧ Ow cI 2 Y.heap.size wr mv (li ((sb.take k).map fun s => m1 ||| s)) ∧ Below Y.heap.size Y wr) (fun _ ix _ => sb.length - (intOf ix).toNat)
        case atStart => exact ⟨0, Nat.zero_le _, rfl, HM0.out, HBY.out⟩
        case round =>
          obtain ⟨k, hk, rfl, ho, hb⟩ := hrel
          have HM := Lib.hid ho
          have HBm := Lib.hid hb
          have hsz := hb.size
          have hsl256 := HSlen.out
          by_cases hltk : k < sb.length
          · have hbo := bthen HBX.out hb
            have hclw := (hbo.cell (p := ⟨bl, ol + x, none⟩) hbl).trans hcl0
            have hblw := Nat.lt_of_lt_of_le hbl hbo.size
            obtain ⟨bs, os5, e6, hbs, hcs⟩ := li_at4 (HS5.out.below hb) hltk
            subst e6
            rw [show sb[k] = sb.getD k 0 by simp [List.getD_eq_getElem?_getD, hltk]] at hcs
            have hs256 : sb.getD k 0 < 256 := HSw.out _ (by rw [List.getD_eq_getElem?_getD, List.getElem?_eq_getElem hltk]; exact List.getElem_mem hltk)
            have HTk : Hid ((sb.take (k + 1)).map (fun s => m1 ||| s) = (sb.take k).map (fun s => m1 ||| s) ++ [m1 ||| sb.getD k 0]) := Lib.hid (by rw [take_snoc _ hltk, List.map_append]; rfl)
            have HPl : Hid ((li ((sb.take k).map fun s => m1 ||| s)).length = k) := Lib.hid (by rw [li_length, List.length_map, List.length_take]; omega)
            obtain ⟨Aq, cq, rfl⟩ := ho.opn
            generalize ((sb.take k).map fun s => m1 ||| s) = pts at *
            generalize sb.getD k 0 = s at *
            have or1 := i64_or_nat m1 s (by omega) (by omega)
            generalize hms : m1 ||| s = ms at *
            clear ho hb hbo hms
            go_upto_region 12 with fail
            refine wp_region_sched (Below wr.heap.size wr) 11 [0, 1, 2, 3, 4, 5, 6, 7, 8, 9] (List.range 11) (by kernel_rfl) (by kernel_rfl) (Below.refl _ _).drew ?_
            simp only [show List.range 11 = [0, 1, 2, 3, 4, 5, 6, 7, 8, 9, 10] from rfl]
            repeat
              apply wpSched_q rfl rfl
              case h =>
                intro w' hI K hK
                have hclw' := (hI.cell (p := ⟨bl, ol + x, none⟩) hblw).trans hclw
                have hcs' := (hI.cell (p := ⟨bs, os5 + k, none⟩) hbs).trans hcs
                simp only [quietV, stillV]
                go_simp
                exact hK
              go_simp
            refine wpSched_r rfl rfl ?_ (Below.refl _ _).drew
            intro K hK hI
            go_simp
            refine hK _ _ (hI.alloc hI.size _) ?_
            clear hK K
            refine wpSched_nil ?_
            try simp only [List.drop_succ_cons, List.drop_zero, List.drop_nil]
            change wpList _ _ _ _ _ (World.alloc wr.drew (.cells #[.int .i64 (ms : Nat)] 2))
            have HM5 : Hid (Ow cI 2 Y.heap.size wr.drew (.slice Aq (li pts).length cq) (li pts)) := Lib.hid (HM.out.below (Below.refl _ _).drew)
            refine ap_one (K := cI) _ ty_int64 rfl _ _ rfl (B := Y.heap.size) (xs := li pts) rfl HM5.out (ms : Int) rfl rfl (by rw [HPl.out]; omega) hsz ?_
            intro v1 w6 ho1 hg1 hb1 hat1
            have HM6 : Hid (Ow cI 2 Y.heap.size w6 v1 (li ((sb.take (k + 1)).map fun s => m1 ||| s))) := Lib.hid (by rw [HTk.out, li_app]; exact ho1)
            have HB6 := Lib.hid ((bthen HBm.out hI).trans hb1)
            clear ho1 hg1 hb1 hat1 hI hclw hcs
            go_wp2
            go_roundw
            case rel => exact ⟨k + 1, by omega, by go_num, HM6.out, HB6.out⟩
            case measure => simp [intOf]; omega
          · obtain rfl : k = sb.length := by omega
            rw [List.take_length] at ho
            have hml : (li (sb.map fun s => m1 ||| s)).length = sb.length := by rw [li_length, List.length_map]
            obtain ⟨Am, cm, rfl⟩ := ho.opn
            rw [hml] at ho ⊢
            have HMs := Lib.hid ho.sl
            have HN6 := Lib.hid (HN5.out.below hb)
            have HSp : Hid (∀ g, (Value.slice Am sb.length cm).ownBlock = some g → g < wr.heap.size ∧ (Value.slice (some ⟨gN, 0, none⟩) 0 0).ownBlock ≠ some g) := Lib.hid fun g hg => ⟨(ho.block g hg).2, fun e => by
              have a1 := (ho.block g hg).1
              have a2 := (HN5.out.base g e).2
              omega⟩
            have HB6 := Lib.hid (bthen HBX.out hb)
            have hcy := HCly.out
            clear ho hb HM HBm hml hsz
            generalize wr = wz at *
            go_wp2
            go_loopw [8, 11, 12] (fun nv ix _ wr => ∃ k : Nat, k ≤ (cd x).length ∧ ix = .int .i64 k ∧ OwR 24 wo.heap.size wr nv ((((cd x).take k).flatMap fun c => sb.map fun s => c ++ [m1 ||| s]).map li) ∧ Sl cI wr (.slice Am sb.length cm) (li (sb.map fun s => m1 ||| s)) ∧ (∀ g, (Value.slice Am sb.length cm).ownBlock = some g → g < wr.heap.size ∧ nv.ownBlock ≠ some g) ∧ Below wo.heap.size wo wr) (fun _ ix _ _ => (cd x).length - (intOf ix).toNat)
            case atStart => exact ⟨0, Nat.zero_le _, rfl, HN6.out, HMs.out, HSp.out, HB6.out⟩
            case round =>
              obtain ⟨k, hk, rfl, ho, hs, hap, hb⟩ := hrel
              have HO2 := Lib.hid ho
              have HS2 := Lib.hid hs
              have HA2 := Lib.hid hap
              have HB2 := Lib.hid hb
              by_cases hltk : k < (cd x).length
              · obtain ⟨bc, oc, A1', n1, cc1, e1, hbc, hcc, hsc⟩ := (HO.out.sl2).at_ (k := k) (by rw [hcl]; exact hltk)
                subst e1
                rw [List.getElem_map] at hsc
                have hcx : ((cd x)[k]'hltk).length = x := HCxx.out _ (List.getElem_mem hltk)
                obtain ⟨A1'', c1'', e2⟩ := hsc.opn
                rw [li_length, hcx] at e2
                injection e2 with e2 e3 e4
                subst e2
                have e3' := e3.symm
                subst e3'
                have e4' := e4.symm
                subst e4'
                have HTk := Lib.hid (HCT.out k hltk)
                have HNk := Lib.hid (HCN.out k)
                have HSc := Lib.hid hsc
                generalize (cd x)[k]'hltk = cdk at *
                have HCk := Lib.hid hcx
                clear hcx
                generalize hpre : (((cd x).take k).flatMap fun c => sb.map fun s => c ++ [m1 ||| s]) = pre at *
                clear ho hs hap hb hsc hpre
                generalize wr = wq at *
                go_wp2
                go_loopw [8, 12] (fun nv ix wr => ∃ j : Nat, j ≤ sb.length ∧ ix = .int .i64 j ∧ OwR 24 wo.heap.size wr nv ((pre ++ (sb.take j).map fun s => cdk ++ [m1 ||| s]).map li) ∧ Sl cI wr (.slice Am sb.length cm) (li (sb.map fun s => m1 ||| s)) ∧ (∀ g, (Value.slice Am sb.length cm).ownBlock = some g → g < wr.heap.size ∧ nv.ownBlock ≠ some g) ∧ Below wo.heap.size wo wr) (fun _ ix _ => sb.length - (intOf ix).toNat)
                case atStart => exact ⟨0, Nat.zero_le _, rfl, by simpa using HO2.out, HS2.out, HA2.out, HB2.out⟩
                case round =>
                  obtain ⟨j, hj, rfl, ho, hs, hap, hb⟩ := hrel
                  have HO6 := Lib.hid ho
                  have HS6 := Lib.hid hs
                  have HA6 := Lib.hid hap
                  have HBr := Lib.hid hb
                  have hsz := hb.size
                  by_cases hltj : j < sb.length
                  · obtain ⟨bs, os5, e6, hbs, hcs⟩ := li_at4 hs (k := j) (by rw [List.length_map]; exact hltj)
                    subst e6
                    rw [List.getElem_map] at hcs
                    rw [show sb[j] = sb.getD j 0 by simp [List.getD_eq_getElem?_getD, hltj]] at hcs
                    have HTj : Hid (pre ++ (sb.take (j + 1)).map (fun s => cdk ++ [m1 ||| s]) = (pre ++ (sb.take j).map fun s => cdk ++ [m1 ||| s]) ++ [cdk ++ [m1 ||| sb.getD j 0]]) := Lib.hid (by rw [take_snoc _ hltj, List.map_append, List.append_assoc]; rfl)
                    have HPl : Hid ((pre ++ (sb.take j).map fun s => cdk ++ [m1 ||| s]).length ≤ 1000) := Lib.hid (by
                      rw [List.length_append, List.length_map, List.length_take]
                      have h1 := HNk.out
                      have h2 := HClx.out
                      rw [HCSx.out] at h2
                      omega)
                    have hccw := (hb.cell (p := ⟨bc, oc + k, none⟩) hbc).trans hcc
                    have hbcw := Nat.lt_of_lt_of_le hbc hb.size
                    have HOw : Hid (∀ X, Below wr.heap.size wr X → Calls Tryz.prog 57 #[.slice A1' x c1''] X fun e w' => ∃ u, e = .returned u ∧ Ow cI 2 X.heap.size w' u (li cdk) ∧ Below X.heap.size X w') := Lib.hid fun X hX => spec_l01Own _ _ X (HSc.out.below (bthen hb hX)) (by rw [li_length, HCk.out]; omega)
                    generalize (pre ++ (sb.take j).map fun s => cdk ++ [m1 ||| s]) = pts at *
                    generalize sb.getD j 0 = s at *
                    generalize hms : m1 ||| s = ms at *
                    clear ho hs hap hb hms
                    go_upto_region 20 with fail
                    refine wp_region_tree (Below wr.heap.size wr) 13 (.q 0 (.q 1 (.q 2 (.q 3 (.q 4 (.q 6 (.q 7 (.q 8 (.q 9 (.rr 5 10 (.r 10 (.r 11 (.r 12 .fin))) (.r 5 (.r 11 (.r 12 .fin))))))))))))) (by kernel_rfl) (by kernel_rfl) (Below.refl _ _).drew ?_
                    repeat
                      apply wpT_q rfl
                      case h =>
                        intro w' hI K hK
                        have hccw' := (hI.cell (p := ⟨bc, oc + k, none⟩) hbcw).trans hccw
                        have hcs' := (hI.cell (p := ⟨bs, os5 + j, none⟩) hbs).trans hcs
                        simp only [quietV, stillV]
                        go_simp
                        exact hK
                      go_simp
                    refine wpT_rr rfl rfl ?_ ?_ (Below.refl _ _).drew
                    · intro K hK hI
                      go_simp
                      refine (HOw.out _ hI).mono ?_
                      rintro e X5 ⟨u1, rfl, ho5, hb5⟩
                      obtain ⟨A9, c9, rfl⟩ := ho5.opn
                      rw [li_length, HCk.out] at ho5 ⊢
                      have hI5 := hI.trans (hb5.mono hI.size)
                      refine hK _ _ hI5 ?_
                      clear hK K
                      refine wpT_r rfl ?_ hI5
                      intro K hK _
                      go_simp
                      have hIZ := hI5.alloc hI5.size (.cells #[.int .i64 (ms : Nat)] 2)
                      have hoZ : Ow cI 2 wr.heap.size (X5.alloc (.cells #[.int .i64 (ms : Nat)] 2)) (.slice (some ⟨X5.heap.size, 0, none⟩) 1 1) [(ms : Int)] := Ow.lit [(ms : Int)] rfl rfl hI5.size
                      have huZ : Ow cI 2 wr.heap.size (X5.alloc (.cells #[.int .i64 (ms : Nat)] 2)) (.slice A9 x c9) (li cdk) := (ho5.mono hI.size).alloc _
                      refine hK _ _ hIZ ?_
                      clear hK K hI hb5 ho5 hI5
                      generalize X5.alloc _ = Z at *
                      have hl0 : (li cdk).length = x := by rw [li_length, HCk.out]
                      refine wpT_r rfl ?_ hIZ
                      intro K hK _
                      rw [if_pos (show Region.wanted _ _ = true from rfl)]
                      refine ap_any_wp (K := cI) Z ty_int64 _ _ rfl (B := wr.heap.size) rfl huZ (news := [(ms : Int)]) rfl rfl hoZ.sl.rd (by rw [hl0, List.length_singleton]; omega) hIZ.size ?_
                      intro v1 w6 ho1 hg1 hb1 hat1
                      have hI2 : Below wr.heap.size wr w6 := hIZ.trans hb1
                      refine hK _ _ hI2 ?_
                      clear hK K hat1 hg1 hb1
                      obtain ⟨A8, c8, rfl⟩ := ho1.opn
                      have hl9 : (li cdk ++ [(ms : Int)]).length = x + 1 := by rw [List.length_append, hl0]; rfl
                      rw [hl9] at ho1 ⊢
                      refine wpT_r rfl ?_ hI2
                      intro K hK _
                      go_simp
                      refine hK _ _ (hI2.alloc hI2.size _) ?_
                      clear hK K
                      refine wpT_fin ?_
                      try simp only [List.drop_succ_cons, List.drop_zero, List.drop_nil]
                      have hz9 : wr.heap.size ≤ w6.heap.size := hI2.size
                      obtain ⟨hs7, h71, h72, h73⟩ := (HO6.out.below hI2).push ho1.sl (fun k hk => ⟨(ho1.block k hk).2, fun e => by
                        have a1 := (HO6.out.base k e).2
                        have a2 := (ho1.block k hk).1
                        omega⟩)
                      refine ap_one (K := cH) _ ty_rows14 rfl _ _ rfl (B := wo.heap.size) (xs := hs7) rfl h71 (⟨A8, x + 1, c8⟩ : Hd) rfl rfl (by rw [h72, List.length_map]; have := HPl.out; omega) (Nat.le_trans hsz hz9) ?_
                      intro v2 w7 ho2 hg2 hb2 hat2
                      have HR7 : Hid (OwR 24 wo.heap.size w7 v2 ((pre ++ (sb.take (j + 1)).map fun s => cdk ++ [m1 ||| s]).map li)) := Lib.hid (by
                        have hR7 := h73 w7 v2 _ (World.grownBy_alloc _ _ none) (by simp) ho2 hg2 hat2
                        rw [HTj.out, List.map_append]
                        rw [show [cdk ++ [ms]].map li = [li cdk ++ [(ms : Int)]] by simp [li]]
                        exact hR7)
                      have hgA := grown_alloc _ hg2
                      have HS7 := Lib.hid ((HS6.out.below hI2).grown hgA (.inr fun e => (HA6.out _ rfl).2 e.symm))
                      have HA7 : Hid (∀ g, (Value.slice (some ⟨bs, os5, none⟩) sb.length cm).ownBlock = some g → g < w7.heap.size ∧ v2.ownBlock ≠ some g) := Lib.hid fun g hg => ⟨by have := (HA6.out g hg).1; have := hgA.size; omega, fun e => by
                        rcases hat2 with e2 | e2
                        · exact (HA6.out g hg).2 (e2 ▸ e)
                        · rw [e2] at e
                          injection e with e
                          have := (HA6.out g hg).1
                          omega⟩
                      have HB7 := Lib.hid ((bthen HBr.out hI2).trans hb2)
                      clear ho1 hIZ hI2 h71 h72 h73 ho2 hg2 hb2 hat2 hgA hcs hccw hoZ huZ
                      go_wp2
                      go_roundw
                      case rel => exact ⟨j + 1, by omega, by go_num, HR7.out, HS7.out, HA7.out, HB7.out⟩
                      case measure => simp [intOf]; omega
                    · intro K hK hI
                      go_simp
                      have hIA := hI.alloc hI.size (.cells #[.int .i64 (ms : Nat)] 2)
                      refine hK _ _ hIA ?_
                      clear hK K
                      refine wpT_r rfl ?_ hIA
                      intro K hK _
                      go_simp
                      refine (HOw.out _ hIA).mono ?_
                      rintro e Z ⟨u1, rfl, ho5, hb5⟩
                      obtain ⟨A9, c9, rfl⟩ := ho5.opn
                      rw [li_length, HCk.out] at ho5 ⊢
                      have hIZ := hIA.trans (hb5.mono hIA.size)
                      have hoZ : Ow cI 2 wr.heap.size Z (.slice (some ⟨wr.heap.size, 0, none⟩) 1 1) [(ms : Int)] := (Ow.lit (K := cI) (w := wr.drew) (e := 2) (B := wr.heap.size) (cs := #[.int .i64 (ms : Nat)]) (n := 1) [(ms : Int)] rfl rfl (Nat.le_refl _)).below hb5
                      have huZ : Ow cI 2 wr.heap.size Z (.slice A9 x c9) (li cdk) := ho5.mono hIA.size
                      refine hK _ _ hIZ ?_
                      clear hK K hI hb5 ho5 hIA
                      have hl0 : (li cdk).length = x := by rw [li_length, HCk.out]
                      refine wpT_r rfl ?_ hIZ
                      intro K hK _
                      rw [if_pos (show Region.wanted _ _ = true from rfl)]
                      refine ap_any_wp (K := cI) Z ty_int64 _ _ rfl (B := wr.heap.size) rfl huZ (news := [(ms : Int)]) rfl rfl hoZ.sl.rd (by rw [hl0, List.length_singleton]; omega) hIZ.size ?_
                      intro v1 w6 ho1 hg1 hb1 hat1
                      have hI2 : Below wr.heap.size wr w6 := hIZ.trans hb1
                      refine hK _ _ hI2 ?_
                      clear hK K hat1 hg1 hb1
                      obtain ⟨A8, c8, rfl⟩ := ho1.opn
                      have hl9 : (li cdk ++ [(ms : Int)]).length = x + 1 := by rw [List.length_append, hl0]; rfl
                      rw [hl9] at ho1 ⊢
                      refine wpT_r rfl ?_ hI2
                      intro K hK _
                      go_simp
                      refine hK _ _ (hI2.alloc hI2.size _) ?_
                      clear hK K
                      refine wpT_fin ?_
                      try simp only [List.drop_succ_cons, List.drop_zero, List.drop_nil]
                      have hz9 : wr.heap.size ≤ w6.heap.size := hI2.size
                      obtain ⟨hs7, h71, h72, h73⟩ := (HO6.out.below hI2).push ho1.sl (fun k hk => ⟨(ho1.block k hk).2, fun e => by
                        have a1 := (HO6.out.base k e).2
                        have a2 := (ho1.block k hk).1
                        omega⟩)
                      refine ap_one (K := cH) _ ty_rows14 rfl _ _ rfl (B := wo.heap.size) (xs := hs7) rfl h71 (⟨A8, x + 1, c8⟩ : Hd) rfl rfl (by rw [h72, List.length_map]; have := HPl.out; omega) (Nat.le_trans hsz hz9) ?_
                      intro v2 w7 ho2 hg2 hb2 hat2
                      have HR7 : Hid (OwR 24 wo.heap.size w7 v2 ((pre ++ (sb.take (j + 1)).map fun s => cdk ++ [m1 ||| s]).map li)) := Lib.hid (by
                        have hR7 := h73 w7 v2 _ (World.grownBy_alloc _ _ none) (by simp) ho2 hg2 hat2
                        rw [HTj.out, List.map_append]
                        rw [show [cdk ++ [ms]].map li = [li cdk ++ [(ms : Int)]] by simp [li]]
                        exact hR7)
                      have hgA := grown_alloc _ hg2
                      have HS7 := Lib.hid ((HS6.out.below hI2).grown hgA (.inr fun e => (HA6.out _ rfl).2 e.symm))
                      have HA7 : Hid (∀ g, (Value.slice (some ⟨bs, os5, none⟩) sb.length cm).ownBlock = some g → g < w7.heap.size ∧ v2.ownBlock ≠ some g) := Lib.hid fun g hg => ⟨by have := (HA6.out g hg).1; have := hgA.size; omega, fun e => by
                        rcases hat2 with e2 | e2
                        · exact (HA6.out g hg).2 (e2 ▸ e)
                        · rw [e2] at e
                          injection e with e
                          have := (HA6.out g hg).1
                          omega⟩
                      have HB7 := Lib.hid ((bthen HBr.out hI2).trans hb2)
                      clear ho1 hIZ hI2 h71 h72 h73 ho2 hg2 hb2 hat2 hgA hcs hccw hoZ huZ
                      go_wp2
                      go_roundw
                      case rel => exact ⟨j + 1, by omega, by go_num, HR7.out, HS7.out, HA7.out, HB7.out⟩
                      case measure => simp [intOf]; omega
                  · obtain rfl : j = sb.length := by omega
                    have HNx : Hid (OwR 24 wo.heap.size wr u8 ((((cd x).take (k + 1)).flatMap fun c => sb.map fun s => c ++ [m1 ||| s]).map li)) := Lib.hid (by
                      rw [HTk.out]
                      rw [List.take_length] at ho
                      exact ho)
                    clear ho hs hap hb
                    go_wp2
                    go_roundw
                    case rel => exact ⟨k + 1, by omega, by go_num, HNx.out, HS6.out, HA6.out, HBr.out⟩
                    case measure => simp [intOf]; omega
              · obtain rfl : k = (cd x).length := by omega
                have HNx : Hid (OwR 24 w3.heap.size wr u8 ((cd (x + 1)).map li)) := Lib.hid (by
                  rw [HCSx.out]
                  rw [List.take_length] at ho
                  exact ho.mono HB.out.size)
                have HBN : Hid (Below w3.heap.size w3 wr) := Lib.hid (HB.out.trans (hb.mono HB.out.size))
                clear ho hs hap hb
                go_wp2
                go_roundw
                case rel => exact ⟨x + 1, by omega, by go_num, HNx.out, HBN.out⟩
                case measure => simp [intOf]; omega
    · obtain rfl : x = n := by omega
      obtain ⟨Ac, cc', hcv⟩ := ho.sl2.opn
      have hcl : ((cd x).map li).length = (cd x).length := List.length_map ..
      rw [hcl] at hcv
      subst hcv
      have hC128 := HCl.out x (Nat.le_refl _)
      have HCxx := Lib.hid (HCx.out x)
      have HBz : Hid (Below w.heap.size w wr) := Lib.hid (bthen HBW.out hb)
      clear ho hb
      generalize wr = wz at *
      have hF0 : Ow cF 26 wz.heap.size (wz.alloc (.cells #[] 26)) (.slice (some ⟨wz.heap.size, 0, none⟩) 0 0) [] := Ow.lit [] rfl rfl (Nat.le_refl _)
      have HF0 : Hid (ObF wz.heap.size (wz.alloc (.cells #[] 26)).heap.size (wz.alloc (.cells #[] 26)) (.slice (some ⟨wz.heap.size, 0, none⟩) 0 0) []) := Lib.hid ⟨[], hF0.ob, rfl, fun i p => by simp at p⟩
      have HBq := Lib.hid (below_alloc' wz (.cells #[] 26))
      clear hF0
      go_wp2
      go_loopw [13, 14] (fun ov ix wr => ∃ k : Nat, k ≤ (cd x).length ∧ ix = .int .i64 k ∧ ObF wz.heap.size wr.heap.size wr ov (((cd x).take k).map fun c => ((x : Int), li c)) ∧ Below wz.heap.size wz wr) (fun _ ix _ => (cd x).length - (intOf ix).toNat)
      case atStart => exact ⟨0, Nat.zero_le _, rfl, HF0.out, HBq.out⟩
      case round =>
        obtain ⟨k, hk, rfl, hf, hb⟩ := hrel
        have HFr := Lib.hid hf
        have HBk := Lib.hid hb
        have hsz := hb.size
        by_cases hltk : k < (cd x).length
        · obtain ⟨bc, oc, A1', n1, cc1, e1, hbc, hcc, hsc⟩ := (HO.out.sl2).at_ (k := k) (by rw [hcl]; exact hltk)
          subst e1
          rw [List.getElem_map] at hsc
          have hcx : ((cd x)[k]'hltk).length = x := HCxx.out _ (List.getElem_mem hltk)
          have HTk : Hid (((cd x).take (k + 1)).map (fun c => ((x : Int), li c)) = (((cd x).take k).map fun c => ((x : Int), li c)) ++ [((x : Int), li ((cd x)[k]'hltk))]) := Lib.hid (by rw [List.take_succ_eq_append_getElem hltk, List.map_append]; rfl)
          have HLk : Hid ((((cd x).take k).map fun c => ((x : Int), li c)).length = k) := Lib.hid (by rw [List.length_map, List.length_take]; omega)
          have hcc' := (hb.cell (p := ⟨bc, oc + k, none⟩) hbc).trans hcc
          have hbc' := Nat.lt_of_lt_of_le hbc hb.size
          have HSc := Lib.hid (hsc.below hb)
          generalize (cd x)[k]'hltk = cdk at *
          have HCk := Lib.hid hcx
          have HLc : Hid ((li cdk).length = x) := Lib.hid (by rw [li_length]; exact hcx)
          have HMk := Lib.hid (fun W v (hv : Sl cI W v (li cdk)) => spec_l05Make v (li cdk) W hv (by rw [HLc.out]; omega))
          rw [HLc.out] at HMk
          generalize (((cd x).take k).map fun c => ((x : Int), li c)) = fs at *
          clear hf hb hsc hcx hcc
          go_wp2_with fail
          refine (HMk.out _ _ HSc.out).mono ?_
          rintro e w7 ⟨u6, rfl, ho7, hb7⟩
          obtain ⟨A8, c8, rfl⟩ := ho7.opn
          rw [HLc.out] at ho7 ⊢
          obtain ⟨hs8, h81, h82, h83⟩ := HFr.out.push hb7 ho7 hsz (x : Int)
          have H81 := Lib.hid h81
          have H82 := Lib.hid (h82.trans HLk.out)
          have H83 := Lib.hid h83
          have HBB := Lib.hid hb7
          have hsz7 := Nat.le_trans hsz hb7.size
          clear ho7 h81 h82 h83 hb7 hcc'
          go_wp2_with (at_builtin; refine stopHere ?_)
          refine goHere ?_
          refine ap_one (K := cF) _ ty_frame rfl _ _ rfl (xs := hs8) rfl H81.out ((x : Int), (⟨A8, x, c8⟩ : Hd)) rfl rfl (by rw [H82.out]; omega) hsz7 ?_
          intro v2 w8 ho2 hg2 hb2 hat2
          have HF8 : Hid (ObF wz.heap.size w8.heap.size w8 v2 (((cd x).take (k + 1)).map fun c => ((x : Int), li c))) := Lib.hid (by
            rw [HTk.out]
            exact H83.out w8 v2 _ (World.grownBy_alloc _ _ none) (by simp) ho2 hg2 hat2)
          have HB8 := Lib.hid ((bthen HBk.out HBB.out).trans hb2)
          clear ho2 hg2 hb2 hat2
          go_wp2
          go_roundw
          case rel => exact ⟨k + 1, by omega, by go_num, HF8.out, HB8.out⟩
          case measure => simp [intOf]; omega
        · obtain rfl : k = (cd x).length := by omega
          rw [List.take_length] at hf
          obtain ⟨Af, cf, rfl⟩ := hf.opn
          have hfl : ((cd x).map fun c => ((x : Int), li c)).length = (cd x).length := List.length_map ..
          rw [hfl] at hf ⊢
          have HFF : Hid (ObF w.heap.size wr.heap.size wr (.slice Af (cd x).length cf) FS) := Lib.hid (by rw [HFs.out]; exact hf.mono HBz.out.size)
          have HBE : Hid (Below w.heap.size w wr) := Lib.hid (bthen HBz.out hb)
          clear hf hb
          go_wp2
          go_ret
          exact ⟨_, rfl, HFF.out, HBE.out⟩
/- AllFiltrations of the program and of the reference. -/
/-- the answer -/
def afL (ns us : List Nat) (f : Fm) : List (Int × List Int) := if chc ns us f ≤ 7 then fsl (lst ns us f) (gre ns us f) (acn ns us f) else []
def afC (ns us : List Nat) (f : Fm) : Int := if chc ns us f ≤ 7 then 0 else 3
theorem impl_allFiltrations_big (ns us : List Nat) (f : Fm) (F : Nat) (A0 A1 A : Option Addr) (c0 c1 cc : Nat) (sf bx dm : Value) (w : World) (h : Fil w F ns us f A0 A1 A c0 c1 cc sf bx dm) (h1 : MdN ns us) (hl : (enc f).length ≤ 1000) (h7 : ¬ chc ns us f ≤ 7) :
    Calls Tryz.prog 35 #[.pointer (some ⟨F, 0, none⟩)] w fun e w' => e = .returned (.tuple #[.slice none 0 0, .bool false]) ∧ Below w.heap.size w w' := by
  have HCh := Lib.hid (impl_choice ns us f F A0 A1 A c0 c1 cc sf bx dm w h h1 hl)
  clear h h1 hl
  generalize chc ns us f = kc at *
  have hk2 : (7 : Int) < (kc : Int) := by omega
  go_enter Tryz.func35, Tryz.ntmps35
  go_wp2_with fail
  refine HCh.out.mono ?_
  rintro e w1 ⟨rfl, hb⟩
  have HB1 := Lib.hid hb
  clear hb HCh
  go_wp2
  go_ret2
  exact ⟨rfl, HB1.out⟩
set_option maxRecDepth 100000 in
theorem impl_AllFiltrations_ok (ns us : List Nat) (f : Fm) (A0 A1 : Option Addr) (c0 c1 : Nat) (v : Value) (w : World) (hm : Mdl w (.slice A0 ns.length c0) (.slice A1 6 c1) ns us) (h1 : MdN ns us) (h : Sl cN w v (enc f)) (hok : f.ok = true) (hl : (enc f).length ≤ 40) (hmk : mdOk ns.length (li ns) (li us) = true) (hfk : isF (enc f) = true) :
    Calls Tryz.prog 7 #[.agg #[.int .i64 ns.length, .slice A0 ns.length c0, .slice A1 6 c1], v] w fun e w' => ∃ u, e = .returned (.tuple #[u, .int .i64 (afC ns us f)]) ∧ ObF w.heap.size w'.heap.size w' u (afL ns us f) ∧ Below w.heap.size w w' := by
  have hb0 := below_alloc' w (.cells #[.int .i64 ns.length, .slice A0 ns.length c0, .slice A1 6 c1] 28)
  have hk0 := Blk.new w 28 #[.int .i64 ns.length, .slice A0 ns.length c0, .slice A1 6 c1]
  have HB := Lib.hid hb0
  have HK0 := Lib.hid hk0
  have HM := Lib.hid hm
  have HF := Lib.hid h
  have H1 := Lib.hid h1
  have E1 := Lib.hid (li_length ns)
  have E2 := Lib.hid (show (li us).length = 6 by rw [li_length, h1.l])
  have HX : Hid (fcode ns.length (li ns) (li us) (enc f) = 0) := Lib.hid (by unfold fcode; rw [hmk, hfk]; rfl)
  have HC := Lib.hid (fun W (hW : Below w.heap.size w W) => HX.out ▸ impl_modelCode ns.length _ _ v (li ns) (li us) (enc f) W (hm.a.below hW) (hm.u.below hW) (h.below hW) (by rw [E1.out]; have := h1.r.1; omega) (by rw [E2.out]; omega) (by omega))
  have HN := Lib.hid (fun W (hW : Below w.heap.size w W) => impl_newFilter ns us f A0 A1 c0 c1 v W (hm.below hW) h1 (h.below hW) hok hl)
  have HBig := Lib.hid (fun (h7 : ¬ chc ns us f ≤ 7) F A cc bx dm W (hF : Fil W F ns us f A0 A1 A c0 c1 cc v bx dm) => impl_allFiltrations_big ns us f F A0 A1 A c0 c1 cc v bx dm W hF h1 (by omega) h7)
  have HAll := Lib.hid (fun (h7 : chc ns us f ≤ 7) F A cc bx dm W (hF : Fil W F ns us f A0 A1 A c0 c1 cc v bx dm) => impl_allFiltrations ns us f F A0 A1 A c0 c1 cc v bx dm W hF h1 (by omega) h7)
  have HL : Hid (afL ns us f = if chc ns us f ≤ 7 then fsl (lst ns us f) (gre ns us f) (acn ns us f) else []) := Lib.hid rfl
  have HCo : Hid (afC ns us f = if chc ns us f ≤ 7 then 0 else 3) := Lib.hid rfl
  clear hb0 hk0 hm h hmk hfk h1 hl
  go_enter Tryz.func7, Tryz.ntmps7
  go_upto_region 1 with fail
  generalize World.alloc w _ = W at *
  have k0 := HK0.out.cell
  have l0 := HK0.out.lt
  go_wp2_with fail
  refine (HC.out _ HB.out).mono ?_
  rintro e w1 ⟨rfl, hb⟩
  have HB1 := Lib.hid (bthen HB.out hb)
  have HK2 := Lib.hid (HK0.out.below hb l0)
  clear hb k0 l0
  have k0 := HK2.out.cell
  have l0 := HK2.out.lt
  go_wp2_with fail
  refine (HN.out _ HB1.out).mono ?_
  rintro e w2 ⟨F, A, cc, bx, dm, rfl, hF, hbl, ho, hbx, hdm, hb⟩
  have HB2 := Lib.hid (bthen HB1.out hb)
  have HFil : Hid (Fil w2 F ns us f A0 A1 A c0 c1 cc v bx dm) := Lib.hid ⟨hbl, HM.out.below (bthen HB1.out hb), ho.sl, hbx, hdm⟩
  clear ho hb hbl hbx hdm k0 l0
  by_cases hk : chc ns us f ≤ 7
  · have HN1 : Hid (afL ns us f = fsl (lst ns us f) (gre ns us f) (acn ns us f)) := Lib.hid (by rw [HL.out, if_pos hk])
    have HN2 : Hid (afC ns us f = 0) := Lib.hid (by rw [HCo.out, if_pos hk])
    have HA2 := Lib.hid (HAll.out hk F A cc bx dm _ HFil.out)
    clear HBig HAll
    go_wp2_with fail
    refine HA2.out.mono ?_
    rintro e w3 ⟨u, rfl, ho, hb⟩
    obtain ⟨A3, c3, rfl⟩ := ho.opn
    have HO3 := Lib.hid (ho.mono HB2.out.size)
    have HB3 := Lib.hid (bthen HB2.out hb)
    clear ho hb HFil
    generalize (fsl (lst ns us f) (gre ns us f) (acn ns us f)) = FS at *
    go_wp2
    go_ret2
    exact ⟨_, by rw [HN2.out]; rfl, by rw [HN1.out]; exact HO3.out, HB3.out⟩
  · have HN1 : Hid (afL ns us f = []) := Lib.hid (by rw [HL.out, if_neg hk])
    have HN2 : Hid (afC ns us f = 3) := Lib.hid (by rw [HCo.out, if_neg hk])
    have HA2 := Lib.hid (HBig.out hk F A cc bx dm _ HFil.out)
    clear HBig HAll
    go_wp2_with fail
    refine HA2.out.mono ?_
    rintro e w3 ⟨rfl, hb⟩
    have HB3 := Lib.hid (bthen HB2.out hb)
    clear hb HFil
    go_wp2
    go_ret2
    exact ⟨_, by rw [HN2.out]; rfl, by rw [HN1.out]; exact ObF.nil _ _ _, HB3.out⟩
set_option maxRecDepth 100000 in
theorem impl_AllFiltrations_bad (n : Int) (va vu vf : Value) (xs vs : List Int) (zs : List Nd) (w : World) (ha : Sl cI w va xs) (hu : Sl cI w vu vs) (hf : Sl cN w vf zs) (hl : xs.length ≤ 1048576) (hl' : vs.length ≤ 1048576) (hl2 : zs.length ≤ 1048576) (hc : mdOk n xs vs = false ∨ (mdOk n xs vs = true ∧ isF zs = false)) :
    Calls Tryz.prog 7 #[.agg #[.int .i64 n, va, vu], vf] w fun e w' => e = .returned (.tuple #[.slice none 0 0, .int .i64 1]) ∧ Below w.heap.size w w' := by
  obtain ⟨A0, c0, rfl⟩ := ha.opn
  obtain ⟨A1, c1, rfl⟩ := hu.opn
  have hb0 := below_alloc' w (.cells #[.int .i64 n, .slice A0 xs.length c0, .slice A1 vs.length c1] 28)
  have hk0 := Blk.new w 28 #[.int .i64 n, .slice A0 xs.length c0, .slice A1 vs.length c1]
  have HB := Lib.hid hb0
  have HK0 := Lib.hid hk0
  have HX : Hid (fcode n xs vs zs = 1) := Lib.hid (by unfold fcode; rcases hc with hc | ⟨hc, hz⟩ <;> simp [hc, *])
  have HC := Lib.hid (fun W (hW : Below w.heap.size w W) => HX.out ▸ impl_modelCode n _ _ vf xs vs zs W (ha.below hW) (hu.below hW) (hf.below hW) hl hl' hl2)
  clear ha hu hf hb0 hk0 hc
  go_enter Tryz.func7, Tryz.ntmps7
  go_upto_region 1 with fail
  generalize World.alloc w _ = W at *
  have k0 := HK0.out.cell
  have l0 := HK0.out.lt
  go_wp2_with fail
  refine (HC.out _ HB.out).mono ?_
  rintro e w1 ⟨rfl, hb⟩
  have HB1 := Lib.hid (bthen HB.out hb)
  clear hb k0
  go_wp2
  go_ret2
  exact ⟨rfl, HB1.out⟩
set_option maxRecDepth 100000 in
theorem spec_AllFiltrations_ok (ns us : List Nat) (f : Fm) (A0 A1 : Option Addr) (c0 c1 : Nat) (v : Value) (w : World) (hm : Mdl w (.slice A0 ns.length c0) (.slice A1 6 c1) ns us) (h1 : MdN ns us) (h : Sl cN w v (enc f)) (hok : f.ok = true) (hl : (enc f).length ≤ 40) (hmk : mdOk ns.length (li ns) (li us) = true) (hfk : isF (enc f) = true) :
    Calls Tryz.prog 8 #[.agg #[.int .i64 ns.length, .slice A0 ns.length c0, .slice A1 6 c1], v] w fun e w' => ∃ u, e = .returned (.tuple #[u, .int .i64 (afC ns us f)]) ∧ ObF w.heap.size w'.heap.size w' u (afL ns us f) ∧ Below w.heap.size w w' := by
  have hb0 := below_alloc' w (.cells #[.int .i64 ns.length, .slice A0 ns.length c0, .slice A1 6 c1] 28)
  have hk0 := Blk.new w 28 #[.int .i64 ns.length, .slice A0 ns.length c0, .slice A1 6 c1]
  have HB := Lib.hid hb0
  have HK0 := Lib.hid hk0
  have HM := Lib.hid hm
  have HF := Lib.hid h
  have H1 := Lib.hid h1
  have HC := Lib.hid (fun W (hW : Below w.heap.size w W) => spec_l14Code_ok ns us f A0 A1 c0 c1 v W (hm.below hW) h1 (h.below hW) hok hl hmk hfk)
  have HCh := Lib.hid (fun A2 A3 c2 c3 Ab Ai Ao nb cb ni ci no co W (hS : SpR W ns us f A0 A1 c0 c1 (.slice A2 ns.length c2) (.slice A3 (acn ns us f) c3) (.slice Ab nb cb) (.slice Ai ni ci) (.slice Ao no co)) => spec_l14Room ns us f A0 A1 A2 A3 c0 c1 c2 c3 Ab Ai Ao nb cb ni ci no co W hS h1 (by omega))
  have HAl := Lib.hid (fun (h7 : chc ns us f ≤ 7) A2 A3 c2 c3 Ab Ai Ao nb cb ni ci no co W (hS : SpR W ns us f A0 A1 c0 c1 (.slice A2 ns.length c2) (.slice A3 (acn ns us f) c3) (.slice Ab nb cb) (.slice Ai ni ci) (.slice Ao no co)) => spec_l14All ns us f A0 A1 A2 A3 c0 c1 c2 c3 Ab Ai Ao nb cb ni ci no co W hS h1 (by omega) h7)
  have HL7 : Hid (afL ns us f = if chc ns us f ≤ 7 then fsl (lst ns us f) (gre ns us f) (acn ns us f) else []) := Lib.hid rfl
  have HCo : Hid (afC ns us f = if chc ns us f ≤ 7 then 0 else 3) := Lib.hid rfl
  have HL := Lib.hid hl
  clear hb0 hk0 hm h hmk hfk h1 hl
  go_enter Tryz.func8, Tryz.ntmps8
  go_upto_region 1 with fail
  generalize World.alloc w _ = W at *
  have k0 := HK0.out.cell
  have l0 := HK0.out.lt
  go_wp2_with fail
  refine (HC.out _ HB.out).mono ?_
  rintro e w1 ⟨s, rfl, ⟨A2, c2, A3, c3, Ab, nb, cb, Ai, ni, ci, Ao, no, co, rfl, ho, hsp⟩, hb⟩
  have HB1 := Lib.hid (bthen HB.out hb)
  have hba := below_alloc' w1 (.cells #[.int .i64 ns.length, .slice A0 ns.length c0, .slice A1 6 c1, .slice A2 ns.length c2, .slice A3 (acn ns us f) c3, .slice Ab nb cb, .slice Ai ni ci, .slice Ao no co] 66)
  have HSP := Lib.hid (hsp.below hba)
  have HB2 := Lib.hid (bthen HB1.out hba)
  have HK2 := Lib.hid (Blk.new w1 66 #[.int .i64 ns.length, .slice A0 ns.length c0, .slice A1 6 c1, .slice A2 ns.length c2, .slice A3 (acn ns us f) c3, .slice Ab nb cb, .slice Ai ni ci, .slice Ao no co])
  clear ho hsp hb k0 l0 hba
  go_upto_region 4 with fail
  generalize World.alloc w1 _ = w2 at *
  have k0 := HK2.out.cell
  have l0 := HK2.out.lt
  go_wp2_with fail
  refine (HCh.out _ _ _ _ _ _ _ _ _ _ _ _ _ _ HSP.out).mono ?_
  rintro e w3 ⟨rfl, hb⟩
  have HB3 := Lib.hid (bthen HB2.out hb)
  have HSP3 := Lib.hid (HSP.out.below hb)
  have HK3 := Lib.hid (HK2.out.below hb HK2.out.lt)
  clear hb k0 l0
  by_cases hk : chc ns us f ≤ 7
  · have HN1 : Hid (afL ns us f = fsl (lst ns us f) (gre ns us f) (acn ns us f)) := Lib.hid (by rw [HL7.out, if_pos hk])
    have HN2 : Hid (afC ns us f = 0) := Lib.hid (by rw [HCo.out, if_pos hk])
    have HA2 := Lib.hid (HAl.out hk _ _ _ _ _ _ _ _ _ _ _ _ _ _ HSP3.out)
    have hk2 : ¬ (7 : Int) < ((chc ns us f : Nat) : Int) := by omega
    have k0 := HK3.out.cell
    have l0 := HK3.out.lt
    generalize chc ns us f = kc at *
    clear HAl HCh
    go_wp2_with fail
    refine HA2.out.mono ?_
    rintro e w4 ⟨u, rfl, ho, hb⟩
    obtain ⟨A4, c4, rfl⟩ := ho.opn
    have HO4 := Lib.hid (ho.mono HB3.out.size)
    have HB4 := Lib.hid (bthen HB3.out hb)
    clear ho hb k0 l0
    generalize (fsl (lst ns us f) (gre ns us f) (acn ns us f)) = FS at *
    go_wp2
    go_ret2
    exact ⟨_, by rw [HN2.out]; rfl, by rw [HN1.out]; exact HO4.out, HB4.out⟩
  · have HN1 : Hid (afL ns us f = []) := Lib.hid (by rw [HL7.out, if_neg hk])
    have HN2 : Hid (afC ns us f = 3) := Lib.hid (by rw [HCo.out, if_neg hk])
    have hk2 : (7 : Int) < ((chc ns us f : Nat) : Int) := by omega
    generalize chc ns us f = kc at *
    clear HAl HCh
    go_wp2
    go_ret2
    exact ⟨_, by rw [HN2.out]; rfl, by rw [HN1.out]; exact ObF.nil _ _ _, HB3.out⟩
set_option maxRecDepth 100000 in
theorem spec_AllFiltrations_bad (n : Int) (va vu vf : Value) (xs vs : List Int) (zs : List Nd) (w : World) (ha : Sl cI w va xs) (hu : Sl cI w vu vs) (hf : Sl cN w vf zs) (hl : xs.length ≤ 1048576) (hl' : vs.length ≤ 1048576) (hl2 : zs.length ≤ 1048576) (hc : mdOk n xs vs = false ∨ (mdOk n xs vs = true ∧ isF zs = false)) :
    Calls Tryz.prog 8 #[.agg #[.int .i64 n, va, vu], vf] w fun e w' => e = .returned (.tuple #[.slice none 0 0, .int .i64 1]) ∧ Below w.heap.size w w' := by
  obtain ⟨A0, c0, rfl⟩ := ha.opn
  obtain ⟨A1, c1, rfl⟩ := hu.opn
  have hb0 := below_alloc' w (.cells #[.int .i64 n, .slice A0 xs.length c0, .slice A1 vs.length c1] 28)
  have hk0 := Blk.new w 28 #[.int .i64 n, .slice A0 xs.length c0, .slice A1 vs.length c1]
  have HB := Lib.hid hb0
  have HK0 := Lib.hid hk0
  have HC := Lib.hid (fun W (hW : Below w.heap.size w W) => spec_l14Code_bad n _ _ vf xs vs zs W (ha.below hW) (hu.below hW) (hf.below hW) hl hl' hl2 hc)
  clear ha hu hf hb0 hk0 hc
  go_enter Tryz.func8, Tryz.ntmps8
  go_upto_region 1 with fail
  generalize World.alloc w _ = W at *
  have k0 := HK0.out.cell
  have l0 := HK0.out.lt
  go_wp2_with fail
  refine (HC.out _ HB.out).mono ?_
  rintro e w1 ⟨rfl, hb⟩
  have HB1 := Lib.hid (bthen HB.out hb)
  clear hb k0
  go_wp2
  go_ret2
  exact ⟨rfl, HB1.out.alloc (by have := HB1.out.size; omega) _⟩
end Go.Proofs.YtnolbgdbboiehaaGreatDoor
