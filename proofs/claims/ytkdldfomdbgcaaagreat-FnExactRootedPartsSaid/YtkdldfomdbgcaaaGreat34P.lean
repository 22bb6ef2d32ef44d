/- Contracts of the least renumbering, of the program: leastRelation, permutations and their closures. -/
import Derived.Test.YtkdldfomdbgcaaaGreat34D
namespace Go.Proofs.YtkdldfomdbgcaaaGreat
open Go.RowKit
set_option linter.unusedVariables false
set_option linter.unusedSimpArgs false
theorem KpS.transG {S T : Nat → Prop} {a b c : World} (h : KpS S a b) (k : KpS T b c) (hS : ∀ i, i < a.heap.size → T i → S i) : KpS S a c :=
  ⟨k.os.trans h.os, k.tape.trans h.tape, k.output.trans h.output, Nat.le_trans h.size k.size, fun i hi hn => (k.block i (Nat.lt_of_lt_of_le hi h.size) (fun e => hn (hS i hi e))).trans (h.block i hi hn)⟩
/-- the boxes that the search for the least renumbering lays -/
structure GC where
  n : Nat
  bn : Nat
  bf : Nat
  bo : Nat
  bg : Nat
  ba : Nat
  bb : Nat
  va : Value
  ns : List Nat
/-- the search's state: the order so far, the best relation so far -/
structure GS (C : GC) (W : World) (vo : Value) (o : List Nat) (vb : Value) (b : List Nat) : Prop where
  kn : Blk W C.bn 2 #[.int .i64 (C.n : Int)]
  kf : Blk W C.bf 90 #[.func (.func 81) #[] #[.pointer (some ⟨C.ba, 0, none⟩), .pointer (some ⟨C.bb, 0, none⟩)]]
  ko : Blk W C.bo 22 #[vo]
  kg : Blk W C.bg 109 #[.func (.func 119) #[] #[.pointer (some ⟨C.bo, 0, none⟩), .pointer (some ⟨C.bn, 0, none⟩), .pointer (some ⟨C.bf, 0, none⟩), .pointer (some ⟨C.bg, 0, none⟩)]]
  ka : Blk W C.ba 22 #[C.va]
  kb : Blk W C.bb 22 #[vb]
  so : Ow cI 2 0 W vo (li o)
  sa : Sl cI W C.va (li C.ns)
  sb : Ow cI 2 C.ba W vb (li b)
  ao : ∀ k, vo.ownBlock = some k → k ≠ C.bn ∧ k ≠ C.bf ∧ k ≠ C.bo ∧ k ≠ C.bg ∧ k ≠ C.ba ∧ k ≠ C.bb ∧ C.va.ownBlock ≠ some k ∧ vb.ownBlock ≠ some k
  aa : C.va.ownBlock ≠ some C.bo ∧ C.va.ownBlock ≠ some C.bb
  ab : vb.ownBlock ≠ some C.bo ∧ vb.ownBlock ≠ some C.bb
  ne : C.bo ≠ C.bn ∧ C.bo ≠ C.bf ∧ C.bo ≠ C.bg ∧ C.bo ≠ C.ba ∧ C.bo ≠ C.bb
  ne2 : C.bb ≠ C.bn ∧ C.bb ≠ C.bf ∧ C.bb ≠ C.bg ∧ C.bb ≠ C.ba
theorem Sl.lt {α : Type} {K : Cod α} {w : World} {v : Value} {xs : List α} (h : Sl K w v xs) (hx : xs ≠ []) : ∀ k, v.ownBlock = some k → k < w.heap.size := by
  obtain ⟨A, c, rfl, _, _, hr⟩ := h
  intro k hk
  rcases hr with hr | ⟨b, o, rfl, hb, _⟩
  · have := flat_length (K := K) xs
    rw [hr, List.length_nil] at this
    have h0 : 0 < xs.length := by cases xs with | nil => exact absurd rfl hx | cons _ _ => simp
    have := Nat.mul_pos h0 K.pos
    omega
  · have e : b = k := Option.some.inj hk
    omega
/-- the blocks that the search writes to -/
def GC.S (C : GC) (vo : Value) : Nat → Prop := fun k => k = C.bo ∨ k = C.bb ∨ vo.ownBlock = some k
theorem GS.below {C : GC} {W W' : World} {vo vb : Value} {o b : List Nat} (h : GS C W vo o vb b) (hb : Below W.heap.size W W') : GS C W' vo o vb b :=
  ⟨h.kn.below hb h.kn.lt, h.kf.below hb h.kf.lt, h.ko.below hb h.ko.lt, h.kg.below hb h.kg.lt, h.ka.below hb h.ka.lt, h.kb.below hb h.kb.lt, h.so.below hb, h.sa.below hb, h.sb.below hb, h.ao, h.aa, h.ab, h.ne, h.ne2⟩
/-- a store of another best relation -/
theorem GS.best {C : GC} {W : World} {vo vb vb' : Value} {o b b' : List Nat} (h : GS C W vo o vb b) (hs : Ow cI 2 C.ba W vb' (li b')) (h1 : vb'.ownBlock ≠ some C.bo ∧ vb'.ownBlock ≠ some C.bb) (h2 : ∀ k, vo.ownBlock = some k → vb'.ownBlock ≠ some k) :
    GS C (W.setCell ⟨C.bb, 0, none⟩ vb') vo o vb' b' := by
  obtain ⟨n1, n2, n3, n4⟩ := h.ne2
  have hk : KpS (fun k => k = C.bb) W (W.setCell ⟨C.bb, 0, none⟩ vb') := (KpS.refl (fun k => k = C.bb) W).set (p := ⟨C.bb, 0, none⟩) rfl _
  refine ⟨h.kn.far n1.symm _, h.kf.far n2.symm _, h.ko.far h.ne.2.2.2.2 _, h.kg.far n3.symm _, h.ka.far n4.symm _, ?_, h.so.kps hk fun k e => (h.ao k e).2.2.2.2.2.1, h.sa.kps hk fun k e e2 => h.aa.2 (by rw [e, e2]), hs.kps hk fun k e e2 => h1.2 (by rw [e, e2]), fun k e => ?_, h.aa, h1, h.ne, h.ne2⟩
  · exact h.kb.set_ 0 vb'
  · obtain ⟨a1, a2, a3, a4, a5, a6, a7, a8⟩ := h.ao k e
    exact ⟨a1, a2, a3, a4, a5, a6, a7, h2 k e⟩
/-- one number more behind the order -/
theorem GS.app {C : GC} {W W1 W2 : World} {vo vb v1 : Value} {o b o' : List Nat} (h : GS C W vo o vb b) (hb : Below W.heap.size W W1) (hW1 : W1.heap.size = W.heap.size + 1) (hg : W1.grownBy W2 vo.ownBlock) (hO : Ow cI 2 0 W2 v1 (li o')) (hat : v1.ownBlock = vo.ownBlock ∨ v1.ownBlock = some (W.heap.size + 1)) (hne : C.ns ≠ []) (hbn : b ≠ []) :
    GS C (W2.setCell ⟨C.bo, 0, none⟩ v1) v1 o' vb b := by
  have h1 := h.below hb
  obtain ⟨n1, n2, n3, n4, n5⟩ := h.ne
  have q : ∀ g, g < W.heap.size → ∀ k, v1.ownBlock = some k → (vo.ownBlock = some k → k ≠ g) → k ≠ g := fun g hg k e hh => by
    rcases hat with e2 | e2
    · exact hh (e2 ▸ e)
    · rw [e2] at e; injection e with e; omega
  have hk : KpS (fun k => vo.ownBlock = some k) W1 W2 := (KpS.refl _ _).grown hg fun k e => e
  have hk2 : KpS (fun k => k = C.bo) W2 (W2.setCell ⟨C.bo, 0, none⟩ v1) := (KpS.refl (fun k => k = C.bo) W2).set (p := ⟨C.bo, 0, none⟩) rfl _
  have z1 := h.kn.lt; have z2 := h.kf.lt; have z3 := h.ko.lt; have z4 := h.kg.lt; have z5 := h.ka.lt; have z6 := h.kb.lt
  have za := h.sa.lt (by intro e; exact hne (by simpa [li] using e))
  have zb := fun k e => (h.sb.block k e).2
  refine ⟨(h1.kn.kps hk (fun e => (h.ao _ e).1 rfl)).far n1.symm _, (h1.kf.kps hk (fun e => (h.ao _ e).2.1 rfl)).far n2.symm _, ?_, (h1.kg.kps hk (fun e => (h.ao _ e).2.2.2.1 rfl)).far n3.symm _, (h1.ka.kps hk (fun e => (h.ao _ e).2.2.2.2.1 rfl)).far n4.symm _, (h1.kb.kps hk (fun e => (h.ao _ e).2.2.2.2.2.1 rfl)).far n5.symm _, ?_, ?_, ?_, fun k e => ?_, h.aa, h.ab, h.ne, h.ne2⟩
  · exact (h1.ko.kps hk (fun e => (h.ao _ e).2.2.1 rfl)).set_ 0 v1
  · exact hO.kps hk2 fun k e => q C.bo z3 k e fun e2 => (h.ao k e2).2.2.1
  · exact (h1.sa.kps hk fun k e e2 => (h.ao k e2).2.2.2.2.2.2.1 e).kps hk2 fun k e e2 => h.aa.1 (by rw [e, e2])
  · exact (h1.sb.kps hk fun k e e2 => (h.ao k e2).2.2.2.2.2.2.2 e).kps hk2 fun k e e2 => h.ab.1 (by rw [e, e2])
  · refine ⟨q _ z1 k e fun e2 => (h.ao k e2).1, q _ z2 k e fun e2 => (h.ao k e2).2.1, q _ z3 k e fun e2 => (h.ao k e2).2.2.1, q _ z4 k e fun e2 => (h.ao k e2).2.2.2.1, q _ z5 k e fun e2 => (h.ao k e2).2.2.2.2.1, q _ z6 k e fun e2 => (h.ao k e2).2.2.2.2.2.1, fun e3 => ?_, fun e3 => ?_⟩
    · exact q k (za k e3) k e (fun e2 => absurd e3 (h.ao k e2).2.2.2.2.2.2.1) rfl
    · exact q k (zb k e3) k e (fun e2 => absurd e3 (h.ao k e2).2.2.2.2.2.2.2) rfl
theorem GS.kpApp {C : GC} {W W1 W2 : World} {vo v1 : Value} (hb : Below W.heap.size W W1) (hg : W1.grownBy W2 vo.ownBlock) : KpS (C.S vo) W (W2.setCell ⟨C.bo, 0, none⟩ v1) :=
  ((KpS.of hb).grown hg fun k e => .inr (.inr e)).set (.inl rfl) _
/-- the last number of the order dropped -/
theorem GS.cut {C : GC} {W : World} {vb : Value} {o b : List Nat} {i g c m : Nat} (h : GS C W (.slice (some ⟨g, 0, none⟩) m c) (o ++ [i]) vb b) :
    GS C (W.setCell ⟨C.bo, 0, none⟩ (.slice (some ⟨g, 0, none⟩) o.length c)) (.slice (some ⟨g, 0, none⟩) o.length c) o vb b := by
  obtain ⟨n1, n2, n3, n4, n5⟩ := h.ne
  have hk2 : KpS (fun k => k = C.bo) W (W.setCell ⟨C.bo, 0, none⟩ (.slice (some ⟨g, 0, none⟩) o.length c)) := (KpS.refl (fun k => k = C.bo) W).set (p := ⟨C.bo, 0, none⟩) rfl _
  have hso := h.so
  have e : li (o ++ [i]) = li o ++ [(i : Int)] := by simp [li]
  rw [e] at hso
  have hso := hso.pop
  rw [li_length] at hso
  refine ⟨h.kn.far n1.symm _, h.kf.far n2.symm _, h.ko.set_ 0 _, h.kg.far n3.symm _, h.ka.far n4.symm _, h.kb.far n5.symm _, hso.kps hk2 fun k e => (h.ao k e).2.2.1, h.sa.kps hk2 fun k e e2 => h.aa.1 (by rw [e, e2]), h.sb.kps hk2 fun k e e2 => h.ab.1 (by rw [e, e2]), h.ao, h.aa, h.ab, h.ne, h.ne2⟩
set_option maxRecDepth 100000 in
set_option maxHeartbeats 1000000 in
theorem impl_leastRelation_1 (C : GC) (W : World) (vo vb : Value) (o b : List Nat) (h : GS C W vo o vb b) (hr : RelN C.ns) (ho : Ord C.ns.length o) (hl : o.length = C.ns.length) (hbl : b.length = C.ns.length) :
    Calls Tryz.prog 81 #[vo, .pointer (some ⟨C.ba, 0, none⟩), .pointer (some ⟨C.bb, 0, none⟩)] W fun e W' => e = .returned (.tuple #[]) ∧ ∃ vb', GS C W' vo o vb' (lstep C.ns b o) ∧ KpS (C.S vo) W W' := by
  have H := Lib.hid h
  have H8 := Lib.hid hr.1
  have HR := Lib.hid (fun X (hX : GS C X vo o vb b) => impl_reordered C.ns o C.va vo X hX.sa hX.so.sl hr ho hl)
  have RL := Lib.hid (ren_length C.ns o)
  have HC := Lib.hid (fun X u (hu : Sl cI X u (li (ren C.ns o))) (hX : GS C X vo o vb b) => slices_Compare_int64 (ren C.ns o) b u vb X hu hX.sb.sl (by rw [RL.out, hl]; have := H8.out; omega) (by rw [hbl]; have := H8.out; omega))
  have HS : Hid (lstep C.ns b o = if cml (ren C.ns o) b < 0 then ren C.ns o else b) := Lib.hid rfl
  have hka := h.ka.cell 0
  have hla := h.ka.lt
  clear h hr ho hl hbl
  go_enter Tryz.func81, Tryz.ntmps81
  go_wp2_with fail
  refine (HR.out _ H.out).mono ?_
  rintro e w1 ⟨A1, c1, rfl, hO, hb⟩
  have O := Lib.hid hO
  have HB := Lib.hid hb
  have H1 := Lib.hid (H.out.below hb)
  have hk1 := H1.out.kb.cell 0
  have hl1 := H1.out.kb.lt
  clear hO hb hka hla
  go_wp2_with fail
  refine (HC.out _ _ O.out.sl H1.out).mono ?_
  rintro e w2 ⟨rfl, rfl⟩
  by_cases hlt : cml (ren C.ns o) b < 0
  · rw [if_pos hlt] at HS
    clear HC HR
    have f1 := H1.out.kb.frozen 0
    have Z := Lib.hid (fun k e => (O.out.block k e).1)
    generalize cml (ren C.ns o) b = r at *
    go_wp2
    go_end0
    refine ⟨rfl, .slice A1 C.ns.length c1, ?_, (KpS.of HB.out).set (.inr (.inl rfl)) _⟩
    rw [HS.out]
    refine H1.out.best (O.out.mono (Nat.le_of_lt H.out.ka.lt)) ⟨fun e => ?_, fun e => ?_⟩ fun k e e2 => ?_
    · have := Z.out _ e; have := H.out.ko.lt; omega
    · have := Z.out _ e; have := H.out.kb.lt; omega
    · have := Z.out _ e2; have := (H.out.so.block k e).2; omega
  · rw [if_neg hlt] at HS
    clear HC HR
    generalize cml (ren C.ns o) b = r at *
    go_wp2
    go_end0
    refine ⟨rfl, vb, ?_, KpS.of HB.out⟩
    rw [HS.out]
    exact H1.out
/-- the best relation behind the first i numbers that may come next -/
def gex (C : GC) (o b : List Nat) (j i : Nat) : List Nat := (((List.range i).filter fun v => !o.contains v).flatMap fun v => ext C.n j (o ++ [v])).foldl (lstep C.ns) b
theorem gex_zero (C : GC) (o b : List Nat) (j : Nat) : gex C o b j 0 = b := by simp [gex]
theorem gex_all (C : GC) (o b : List Nat) (j : Nat) : gex C o b j C.n = (ext C.n (j + 1) o).foldl (lstep C.ns) b := rfl
theorem gex_old (C : GC) (o b : List Nat) (j i : Nat) (h : i ∈ o) : gex C o b j (i + 1) = gex C o b j i := by
  unfold gex
  rw [List.range_succ, List.filter_append]
  simp [h]
theorem gex_new (C : GC) (o b : List Nat) (j i : Nat) (h : i ∉ o) : gex C o b j (i + 1) = (ext C.n j (o ++ [i])).foldl (lstep C.ns) (gex C o b j i) := by
  unfold gex
  rw [List.range_succ, List.filter_append, List.flatMap_append, List.foldl_append]
  simp [h]
theorem gex_length (C : GC) (hn : C.ns.length = C.n) (o b : List Nat) (j i : Nat) (ho : Ord C.n o) (hl : o.length + (j + 1) = C.n) (hi : i ≤ C.n) (hb : b.length = C.n) : (gex C o b j i).length = C.n := by
  have key := lst_fold_length C.ns (((List.range i).filter fun v => !o.contains v).flatMap fun v => ext C.n j (o ++ [v])) b (by rw [hb, hn]) (fun p hp => by
    rw [List.mem_flatMap] at hp
    obtain ⟨v, hv, hp⟩ := hp
    rw [List.mem_filter, List.mem_range] at hv
    have := (ext_ord j _ p (ho.snoc (v := v) (by omega) (by simpa using hv.2)) hp).2
    rw [this, hn]
    simp
    omega)
  rw [hn] at key
  exact key
def GrowOK (C : GC) (j : Nat) : Prop := ∀ (o b : List Nat) (W : World) (vo vb : Value) (u : Nat), GS C W vo o vb b → Ord C.n o → o.length + j = C.n → b.length = C.n → (∀ x, x < C.n → u.testBit x = decide (x ∈ o)) → u < 2 ^ C.n →
  Calls Tryz.prog 119 #[.int .i64 (u : Int), .pointer (some ⟨C.bo, 0, none⟩), .pointer (some ⟨C.bn, 0, none⟩), .pointer (some ⟨C.bf, 0, none⟩), .pointer (some ⟨C.bg, 0, none⟩)] W fun e W' => e = .returned (.tuple #[]) ∧ ∃ vo' vb', GS C W' vo' o vb' ((ext C.n j o).foldl (lstep C.ns) b) ∧ KpS (C.S vo) W W' ∧ (vo'.ownBlock = vo.ownBlock ∨ ∃ k, vo'.ownBlock = some k ∧ W.heap.size ≤ k)
set_option maxRecDepth 100000 in
set_option maxHeartbeats 1000000 in
theorem impl_permutations_1_zero (C : GC) (hr : RelN C.ns) (hn : C.ns.length = C.n) : GrowOK C 0 := by
  intro o b W vo vb u h ho hl hbl _ _
  obtain ⟨A, c, rfl⟩ := h.so.opn
  have H := Lib.hid h
  have OL := Lib.hid (li_length o)
  have HS := Lib.hid (fun m => q_size h.so.sl (W := W) m)
  have HL := Lib.hid (fun X (hX : GS C X (.slice A (li o).length c) o vb b) => impl_leastRelation_1 C X _ vb o b hX hr (by rw [hn]; exact ho) (by rw [hn]; omega) (by rw [hn]; exact hbl))
  rw [OL.out] at H HS HL ⊢
  have hlen : (o.length : Int) = (C.n : Int) := by omega
  have c1 := H.out.ko.cell 0
  have c2 := H.out.kn.cell 0
  have c3 := H.out.kf.cell 0
  have z1 := H.out.ko.lt
  have z2 := H.out.kn.lt
  have z3 := H.out.kf.lt
  clear h ho hl hbl hr hn
  go_enter Tryz.func119, Tryz.ntmps119
  go_wp2
  go_quiet ((go_at_call 78; exact HS.out _))
  go_wp2_with fail
  refine (HL.out _ (H.out.below (below_drewN (Below.refl _ _) _))).mono ?_
  rintro e w1 ⟨rfl, vb', h1, h2⟩
  have H1 := Lib.hid h1
  have H2 := Lib.hid h2
  clear h1 h2 c1 c2 c3 z1 z2 z3 HS HL
  go_wp2
  (try simp only [Exit.inBlock, Exit.then]); refine bodyPost_ret (results_none rfl _ _ _) rfl ?_
  exact ⟨rfl, _, vb', H1.out, (KpS.of (below_drewN (Below.refl _ _) _)).trans H2.out, .inl rfl⟩
set_option maxRecDepth 100000 in
set_option maxHeartbeats 2000000 in
theorem impl_permutations_1_succ (C : GC) (hr : RelN C.ns) (hn : C.ns.length = C.n) (j : Nat) (ih : GrowOK C j) : GrowOK C (j + 1) := by
  intro o b W vo vb u h ho hl hbl hu hu2
  obtain ⟨A, c, rfl⟩ := h.so.opn
  have H8 : C.n ≤ 8 := by rw [← hn]; exact hr.1
  have H := Lib.hid h
  have OL := Lib.hid (li_length o)
  have HS := Lib.hid (fun m => q_size h.so.sl (W := W) m)
  have IH := Lib.hid ih
  rw [OL.out] at H HS ⊢
  have hlen : ((o.length : Int) == (C.n : Int)) = false := beq_eq_false_iff_ne.2 (by omega)
  have HO := Lib.hid ho
  have HBL := Lib.hid hbl
  have HU := Lib.hid hu
  have HU2 := Lib.hid hu2
  have HN0 : Hid (0 < C.n → C.ns ≠ []) := Lib.hid (fun h0 e => by rw [e] at hn; simp at hn; omega)
  have HGL := Lib.hid (fun i (hi : i ≤ C.n) => gex_length C hn o b j i ho hl hi hbl)
  have HHas := Lib.hid (fun i (hi : i < C.n) W => hu i hi ▸ impl_has u i W (Nat.lt_of_lt_of_le hu2 (by have := two_pow_256 H8; omega)) (by omega))
  have HGA := Lib.hid (gex_all C o b j)
  have HGN := Lib.hid (fun i => gex_new C o b j i)
  have HGO := Lib.hid (fun i => gex_old C o b j i)
  have HG0 := Lib.hid (gex_zero C o b j)
  have HL := Lib.hid hl
  have c1 := H.out.ko.cell 0
  have c2 := H.out.kn.cell 0
  have z1 := H.out.ko.lt
  have z2 := H.out.kn.lt
  clear h ho hl hbl hr hn hu hu2 ih
  generalize gex C o b j = G at *
  go_enter Tryz.func119, Tryz.ntmps119
  go_wp2
  go_quiet ((go_at_call 78; exact HS.out _))
  clear c1 z1
  go_wp2
  clear c2 z2
  go_loopw [15] (fun k wr => ∃ i : Nat, i ≤ C.n ∧ k = .int .i64 i ∧ ∃ vo' vb', GS C wr vo' o vb' (G i) ∧ KpS (C.S (.slice A o.length c)) W wr ∧ (vo'.ownBlock = (Value.slice A o.length c).ownBlock ∨ ∃ k, vo'.ownBlock = some k ∧ W.heap.size ≤ k)) (fun k _ => C.n - (intOf k).toNat)
  case atStart => exact ⟨0, Nat.zero_le _, rfl, _, vb, by rw [HG0.out]; exact H.out.below (below_drewN (Below.refl _ _) _), KpS.of (below_drewN (Below.refl _ _) _), .inl rfl⟩
  case round =>
    obtain ⟨i, hi, rfl, vo1, vb1, h1, h2, h3⟩ := hrel
    have H1 := Lib.hid h1
    have H2 := Lib.hid h2
    have H3 := Lib.hid h3
    clear h1 h2 h3
    by_cases hlt : i < C.n
    · have HHi := Lib.hid (HHas.out i hlt)
      have i1 : (i : Int) < (C.n : Int) := by omega
      by_cases hm : i ∈ o
      · have HGi := Lib.hid (HGO.out i hm)
        rw [decide_eq_true hm] at HHi
        clear hm
        go_wp2_with fail
        refine (HHi.out _).mono ?_
        rintro e w2 ⟨rfl, rfl⟩
        go_wp2
        go_roundw
        case rel => exact ⟨i + 1, by omega, by go_num, vo1, vb1, by rw [HGi.out]; exact H1.out, H2.out, H3.out⟩
        case measure => simp [intOf]; omega
      · have HGi := Lib.hid (HGN.out i hm)
        have HM := Lib.hid hm
        rw [decide_eq_false hm] at HHi
        clear hm
        obtain ⟨A1, c1, rfl⟩ := H1.out.so.opn
        rw [OL.out] at H1 H3
        have d1 := H1.out.ko.cell 0
        have y1 := H1.out.ko.lt
        go_wp2_with fail
        refine (HHi.out _).mono ?_
        rintro e w2 ⟨rfl, rfl⟩
        go_wp2_with (at_builtin; refine stopHere ?_)
        refine goHere ?_
        refine ap_one (K := cI) _ ty_int64 rfl _ _ rfl (B := 0) (v := .slice A1 o.length c1) (xs := li o) rfl H1.out.so (i : Int) rfl rfl (by rw [OL.out]; have := HL.out; omega) (Nat.zero_le _) ?_
        intro v1 w4 ho1 hg1 hb1 hat1
        obtain ⟨A2, c2, rfl⟩ := ho1.opn
        rw [show (li o ++ [(i : Int)]).length = o.length + 1 by simp [li]] at ho1 hat1 ⊢
        have hk4 := (H1.out.ko.alloc (.cells #[.int .i64 (i : Int)] 2)).grown hg1 (fun e => (H1.out.ao _ e.symm).2.2.1 rfl)
        have hA := H1.out.app (W1 := wr.alloc (.cells #[.int .i64 (i : Int)] 2)) (o' := o ++ [i]) (below_alloc' _ _) (by simp) hg1 (by rw [show li (o ++ [i]) = li o ++ [(i : Int)] by simp [li]]; exact ho1) hat1 (HN0.out (by omega)) (by intro e; have := HGL.out i (by omega); rw [e] at this; simp at this; omega)
        have hKp := GS.kpApp (C := C) (v1 := .slice A2 (o.length + 1) c2) (below_alloc' wr (.cells #[.int .i64 (i : Int)] 2)) hg1
        have HA := Lib.hid hA
        have HK := Lib.hid hKp
        have HAT := Lib.hid hat1
        have hc4 := hk4.cell 0
        have hf4 := hk4.frozen 0
        have hl4 := hk4.lt
        clear hk4 hA hKp ho1 hg1 hb1 hat1 d1 y1
        go_upto_region 7 with fail
        generalize World.setCell w4 ⟨C.bo, 0, none⟩ (.slice A2 (o.length + 1) c2) = w5 at *
        clear hc4 hf4 hl4
        have hi8 : i < 8 := by omega
        have HUo : Hid (∀ x, x < C.n → (u ||| 2 ^ i).testBit x = decide (x ∈ o ++ [i])) := Lib.hid (fun x hx => by
          rw [Nat.testBit_or, HU.out x hx, Nat.testBit_two_pow, Bool.eq_iff_iff]
          simp only [Bool.or_eq_true, decide_eq_true_eq, List.mem_append, List.mem_singleton]
          constructor <;> (rintro (h | h) <;> simp [h]))
        have HUl : Hid (u ||| 2 ^ i < 2 ^ C.n) := Lib.hid (Nat.or_lt_two_pow HU2.out (Nat.pow_lt_pow_right (by decide) hlt))
        have HOr := Lib.hid (HO.out.snoc hlt HM.out)
        have HLn : Hid ((o ++ [i]).length + j = C.n) := Lib.hid (by have := HL.out; simp; omega)
        have HI5 := Lib.hid (fun X v w6 (hX : GS C X v (o ++ [i]) w6 (G i)) => IH.out (o ++ [i]) (G i) X v w6 (u ||| 2 ^ i) hX HOr.out HLn.out (HGL.out i (by omega)) HUo.out HUl.out)
        have hu8 : u < 2 ^ 8 := Nat.lt_of_lt_of_le HU2.out (Nat.pow_le_pow_right (by decide) H8)
        have e2 := i64_or_nat u (2 ^ i) (by omega) (two_pow_lt (by omega))
        have e3 := wrap_two_pow'' (n := i) (by omega)
        have e4 := wrap_two_pow (n := i) (by omega)
        rw [← cast_two_pow] at e2
        have d1 := HA.out.kg.cell 0
        have y1 := HA.out.kg.lt
        go_wp2
        go_still_tail 5, (by kernel_rfl)
        change wpList _ _ _ _ _ (World.drew _)
        clear d1 y1
        have HD := Lib.hid (HA.out.below (below_drewN (Below.refl _ _) 1))
        have HKD := Lib.hid (HK.out.below (below_drewN (Below.refl _ _) 1))
        clear HA HK
        change Hid (GS C (World.drew w5) _ _ _ _) at HD
        change Hid (KpS _ _ (World.drew w5)) at HKD
        generalize World.drew w5 = w6 at *
        have d1 := HD.out.kg.cell 0
        have y1 := HD.out.kg.lt
        go_wp2_with fail
        clear d1 y1
        refine (HI5.out _ _ _ HD.out).mono ?_
        rintro e w7 ⟨rfl, v7, vb7, h7, k7, a7⟩
        rw [← HGi.out] at h7
        obtain ⟨g7, c7, rfl, -, -, -, -⟩ := h7.so.form (by simp [li])
        have HP := Lib.hid h7
        have HC7 := Lib.hid h7.cut
        have K7 := Lib.hid k7
        have A7 := Lib.hid a7
        rw [show (li (o ++ [i])).length = o.length + 1 by simp [li]] at HP A7
        have kA : Hid (∀ k, k < W.heap.size → C.S (.slice A1 o.length c1) k → C.S (.slice A o.length c) k) := Lib.hid (by
          rintro k hk (h | h | h)
          · exact .inl h
          · exact .inr (.inl h)
          · rcases H3.out with e | ⟨k', e, hk'⟩
            · exact .inr (.inr (e ▸ h))
            · rw [e] at h; injection h with h; omega)
        have kB : Hid (∀ k, k < W.heap.size → C.S (.slice A2 (o.length + 1) c2) k → C.S (.slice A o.length c) k) := Lib.hid (by
          rintro k hk (h | h | h)
          · exact .inl h
          · exact .inr (.inl h)
          · rcases HAT.out with e | e
            · exact kA.out k hk (.inr (.inr (e ▸ h)))
            · rw [e] at h; injection h with h; have := H2.out.size; omega)
        have kC : Hid ((Value.slice (some ⟨g7, 0, none⟩) o.length c7).ownBlock = (Value.slice A o.length c).ownBlock ∨ ∃ k, (Value.slice (some ⟨g7, 0, none⟩) o.length c7).ownBlock = some k ∧ W.heap.size ≤ k) := Lib.hid (by
          rcases Nat.lt_or_ge g7 W.heap.size with hg | hg
          · left
            have hg7 : (Value.slice (some ⟨g7, 0, none⟩) (o.length + 1) c7).ownBlock = some g7 := rfl
            rcases A7.out with e | ⟨k', e, hk'⟩
            · rw [hg7] at e
              rcases HAT.out with e2 | e2
              · rw [e2] at e
                rcases H3.out with e3 | ⟨k', e3, hk'⟩
                · rw [e3] at e; exact e
                · rw [e3] at e; injection e with e; omega
              · rw [e2] at e; injection e with e; have := H2.out.size; omega
            · rw [hg7] at e; injection e with e; have := H2.out.size; have := HKD.out.size; omega
          · exact .inr ⟨g7, rfl, hg⟩)
        have HKF : Hid (KpS (C.S (.slice A o.length c)) W (World.setCell w7 ⟨C.bo, 0, none⟩ (.slice (some ⟨g7, 0, none⟩) o.length c7))) := Lib.hid (((H2.out.transG HKD.out kA.out).transG K7.out kB.out).set (.inl rfl) _)
        obtain ⟨-, hc7, -⟩ := HP.out.so.sl.cap
        rw [show (li (o ++ [i])).length = o.length + 1 by simp [li]] at hc7
        have hol : o.length ≤ 8 := by have := HL.out; omega
        have d2 := HP.out.ko.cell 0
        have y2 := HP.out.ko.lt
        have f2 := HP.out.ko.frozen 0
        clear h7 k7 a7 HI5 HUo HUl HOr HLn HHi kA kB A7 HAT K7 HKD H2 H3 HP
        go_wp2
        go_roundw
        case rel => exact ⟨i + 1, by omega, by go_num, _, vb7, HC7.out, HKF.out, kC.out⟩
        case measure => simp [intOf]; omega
    · obtain rfl : i = C.n := by omega
      rw [HGA.out] at H1
      go_wp2
      go_end0
      exact ⟨rfl, vo1, vb1, H1.out, H2.out, H3.out⟩
end Go.Proofs.YtkdldfomdbgcaaaGreat
