/- Heyting algebras, of the program: isTable, order, greatest, sameHeyting. Written by gen18M.py. -/
import Derived.Test.YtgkogfjifcfkoaaGreatY20
namespace Go.Proofs.YtgkogfjifcfkoaaGreat
open Go.RowKit
set_option linter.unusedVariables false
set_option linter.unusedSimpArgs false
theorem slices_IndexFunc_intssM (v : Value) (xss : List (List Int)) (k : FuncId) (cap : Array Value) (p : Nat → Bool) (w : World) (h : Sl2 cI w v xss) (hl : xss.length ≤ 1073741824)
    (hk : ∀ (args : Array Value) (w : World), (callFunc k args).run Tryz.prog w = .ok (.enter k args) w)
    (hf : ∀ w', Below w.heap.size w w' → ∀ (u : Value) (i : Nat) (hi : i < xss.length), Sl cI w' u xss[i] → Calls Tryz.prog k (#[u] ++ cap) w' fun e w'' => e = .returned (.bool (p i)) ∧ Below w'.heap.size w' w'') :
    Calls Tryz.prog 180 #[v, .func (.func k) #[] cap] w fun e w' => e = .returned (.int .i64 (fidx p xss.length)) ∧ Below w.heap.size w w' := by
  obtain ⟨A, c, rfl⟩ := h.opn
  have HF := Lib.hid hf; clear hf
  go_enter Tryz.func180, Tryz.ntmps180
  go_wp2
  go_loopw [8] (fun i wr => ∃ j : Nat, j ≤ xss.length ∧ i = .int .i64 j ∧ (∀ i < j, p i = false) ∧ Below w.heap.size w wr) (fun i _ => xss.length - (intOf i).toNat)
  case atStart => exact ⟨0, Nat.zero_le _, rfl, fun i hi => by omega, Below.refl _ _⟩
  case round =>
    obtain ⟨j, hj, rfl, hh, hb⟩ := hrel
    have Hh := Lib.hid hh; clear hh
    by_cases hlt : j < xss.length
    · obtain ⟨b, o, Ai, ni, ci, rfl, hbl, hc0, hs⟩ := (h.below hb).at_ hlt
      have HS := Lib.hid hs; clear hs
      go_wp2_with fail
      refine (HF.out wr hb _ j hlt HS.out).mono ?_
      rintro e w1 ⟨rfl, hb1⟩
      have HB : Hid (Below w.heap.size w w1) := Lib.hid (hb.trans (hb1.mono hb.size))
      clear hb1 hb
      by_cases hp : p j = true
      · have HE := Lib.hid (fidx_some hlt Hh.out hp)
        rw [hp]
        have HP := Lib.hid hp; clear hp
        go_wp2
        go_ret
        exact ⟨by rw [HE.out]; rfl, HB.out⟩
      · rw [Bool.not_eq_true] at hp
        rw [hp]
        have HP := Lib.hid hp; clear hp
        go_wp2
        go_roundw
        case rel => exact ⟨j + 1, by omega, by go_num, fun i hi => (Nat.lt_or_ge i j).elim (fun h => Hh.out i h) (fun h => (show i = j by omega) ▸ HP.out), HB.out⟩
        case measure => simp [intOf]; omega
    · have HE : Hid (fidx p xss.length = -1) := Lib.hid (fidx_none fun i hi => Hh.out i (by omega))
      have HB := Lib.hid hb; clear hb
      go_wp2
      go_ret
      exact ⟨by rw [HE.out]; rfl, HB.out⟩
theorem slices_ContainsFunc_intssM (v : Value) (xss : List (List Int)) (k : FuncId) (cap : Array Value) (p : Nat → Bool) (w : World) (h : Sl2 cI w v xss) (hl : xss.length ≤ 1073741824)
    (hk : ∀ (args : Array Value) (w : World), (callFunc k args).run Tryz.prog w = .ok (.enter k args) w)
    (hf : ∀ w', Below w.heap.size w w' → ∀ (u : Value) (i : Nat) (hi : i < xss.length), Sl cI w' u xss[i] → Calls Tryz.prog k (#[u] ++ cap) w' fun e w'' => e = .returned (.bool (p i)) ∧ Below w'.heap.size w' w'') :
    Calls Tryz.prog 128 #[v, .func (.func k) #[] cap] w fun e w' => e = .returned (.bool ((List.range xss.length).any p)) ∧ Below w.heap.size w w' := by
  have HI := Lib.hid (slices_IndexFunc_intssM v xss k cap p w h hl hk hf)
  have HR := Lib.hid (fidx_any p xss.length)
  clear h hk hf
  go_enter Tryz.func128, Tryz.ntmps128
  go_wp2_with fail
  refine HI.out.mono ?_
  rintro e w1 ⟨rfl, hb⟩
  have HB := Lib.hid hb; clear hb
  go_wp2
  go_ret
  exact ⟨by rw [← HR.out]; rfl, HB.out⟩
theorem impl_size_intss (v : Value) (xs : List (List Int)) (w : World) (h : Sl2 cI w v xs) :
    Calls Tryz.prog 127 #[v] w fun e w' => e = .returned (.int .i64 xs.length) ∧ w = w' := by
  obtain ⟨A, c, rfl⟩ := h.opn
  clear h
  go_enter Tryz.func127, Tryz.ntmps127
  go_wp2
  go_ret
  exact ⟨rfl, rfl⟩
theorem tbH_iffB (n : Int) (T : List (List Int)) : tbH n T = (decide ((T.length : Int) = n) && !(List.range T.length).any fun j => !rowOk n (T.getD j [])) := by
  rw [any_range T [] (fun x => !rowOk n x)]
  unfold tbH
  rw [← List.all_eq_not_any_not]
set_option maxHeartbeats 1000000 in
set_option maxRecDepth 100000 in
theorem impl_isTable (a o i u : Value) (b t : Int) (A T : List (List Int)) (w : World) (h : Sl2 cI w a A) (hT : Sl2 cI w u T) (hl : T.length ≤ 1048576) (hr : ∀ r ∈ T, r.length ≤ 1048576) :
    Calls Tryz.prog 89 #[.agg #[a, o, i, .int .i64 b, .int .i64 t], u] w fun e w' => e = .returned (.bool (tbH A.length T)) ∧ Below w.heap.size w w' := by
  obtain ⟨va, ca, rfl⟩ := h.opn
  have hop := h.opn
  obtain ⟨vu, cu, rfl⟩ := hT.opn
  have hb0 := below_alloc' w (.cells #[.slice va A.length ca, o, i, .int .i64 b, .int .i64 t] 26)
  have hk0 := Blk.new w 26 #[.slice va A.length ca, o, i, .int .i64 b, .int .i64 t]
  have HB := Lib.hid hb0
  have HK0 : Hid (BxH (w.alloc (.cells #[.slice va A.length ca, o, i, .int .i64 b, .int .i64 t] 26)) w.heap.size va ca o i b t A) := Lib.hid ⟨hk0, h.below hb0⟩
  have SZ := Lib.hid (fun W (hW : Below (w.alloc (.cells #[.slice va A.length ca, o, i, .int .i64 b, .int .i64 t] 26)).heap.size (w.alloc (.cells #[.slice va A.length ca, o, i, .int .i64 b, .int .i64 t] 26)) W) => impl_Hsize _ o i b t A W (h.below (bthen hb0 hW)))
  have SR := Lib.hid (fun W (hW : Below (w.alloc (.cells #[.slice va A.length ca, o, i, .int .i64 b, .int .i64 t] 26)).heap.size (w.alloc (.cells #[.slice va A.length ca, o, i, .int .i64 b, .int .i64 t] 26)) W) => impl_size_intss _ T W (hT.below (bthen hb0 hW)))
  have CF := Lib.hid (fun W (hW : Below (w.alloc (.cells #[.slice va A.length ca, o, i, .int .i64 b, .int .i64 t] 26)).heap.size (w.alloc (.cells #[.slice va A.length ca, o, i, .int .i64 b, .int .i64 t] 26)) W) => slices_ContainsFunc_intssM _ T 129 #[.pointer (some ⟨w.heap.size, 0, none⟩)] (fun j => !rowOk A.length (T.getD j [])) W (hT.below (bthen hb0 hW)) (by omega) en_isTable_1 (fun w' hw' v j hj hs => by
    rw [show (#[v] ++ #[.pointer (some ⟨w.heap.size, 0, none⟩)] : Array Value) = #[v, .pointer (some ⟨w.heap.size, 0, none⟩)] from rfl]
    have := impl_isTable_1 v (T.getD j []) w.heap.size va ca o i b t A w' ((HK0.out.below hW).below hw') (by rw [List.getD_eq_getElem?_getD, List.getElem?_eq_getElem hj]; exact hs) (by rw [List.getD_eq_getElem?_getD, List.getElem?_eq_getElem hj]; exact hr _ (List.getElem_mem hj))
    exact this))
  have RO := Lib.hid (tbH_iffB A.length T)
  have k0 := hk0
  clear hb0 hk0
  by_cases hq : (T.length : Int) = A.length
  · rw [decide_eq_true hq, Bool.true_and] at RO
    have q1 : ((T.length : Int) == (A.length : Int)) = true := beq_iff_eq.2 hq
    have E := RO
    clear RO
    clear k0 h hr hop hq hT
    go_enter Tryz.func89, Tryz.ntmps89
    go_upto_region 1 with fail
    generalize World.alloc w _ = W at *
    have k0 := HK0.out.k.cell
    have l0 := HK0.out.k.lt
    have c0 : W.cell? ⟨w.heap.size, 0, none⟩ = some (.slice va A.length ca) := k0 0
    have c1 : W.cell? ⟨w.heap.size, 1, none⟩ = some o := k0 1
    have c2 : W.cell? ⟨w.heap.size, 2, none⟩ = some i := k0 2
    have c3 : W.cell? ⟨w.heap.size, 3, none⟩ = some (.int .i64 b) := k0 3
    have c4 : W.cell? ⟨w.heap.size, 4, none⟩ = some (.int .i64 t) := k0 4
    clear k0
    have hI := (Below.refl W.heap.size W).drew
    refine wp_region_sched (Below W.heap.size W) 11 [0, 2, 4, 5, 6, 7, 9, 10] [0, 2, 1, 3, 4, 5, 6, 7, 8, 9, 10] (by kernel_rfl) (by kernel_rfl) hI ?_
    repeat
      apply wpSched_q rfl rfl
      case h =>
        intro w' hI K hK
        have c0' := (hI.cell (p := ⟨w.heap.size, 0, none⟩) l0).trans c0
        have c1' := (hI.cell (p := ⟨w.heap.size, 1, none⟩) l0).trans c1
        have c2' := (hI.cell (p := ⟨w.heap.size, 2, none⟩) l0).trans c2
        have c3' := (hI.cell (p := ⟨w.heap.size, 3, none⟩) l0).trans c3
        have c4' := (hI.cell (p := ⟨w.heap.size, 4, none⟩) l0).trans c4
        simp only [quietV, stillV]
        go_simp
        exact hK
      go_simp
    refine wpSched_r rfl rfl ?_ hI
    intro K hK _
    go_simp
    refine (SR.out _ hI).mono ?_
    rintro e _ ⟨rfl, rfl⟩
    refine hK _ _ hI ?_
    clear hK K
    refine wpSched_r rfl rfl ?_ hI
    intro K hK _
    go_simp
    refine (SZ.out _ hI).mono ?_
    rintro e w2 ⟨rfl, hbb⟩
    replace hI := hI.trans (hbb.mono hI.size)
    refine hK _ _ hI ?_
    clear hK K hbb
    repeat
      apply wpSched_q rfl rfl
      case h =>
        intro w' hI K hK
        simp only [quietV, stillV]
        go_simp
        exact hK
      go_simp
    refine wpSched_r rfl rfl ?_ hI
    intro K hK _
    go_simp
    refine (CF.out _ hI).mono ?_
    rintro e w3 ⟨rfl, hbb⟩
    replace hI := hI.trans (hbb.mono hI.size)
    refine hK _ _ hI ?_
    clear hK K hbb
    repeat
      apply wpSched_q rfl rfl
      case h =>
        intro w' hI K hK
        simp only [quietV, stillV]
        go_simp
        exact hK
      go_simp
    refine wpSched_nil ?_
    try simp only [List.drop_succ_cons, List.drop_zero, List.drop_nil]
    have HB1 := Lib.hid (bthen HB.out hI)
    clear hI c0 c1 c2 c3 c4 l0 q1
    go_wp2
    go_ret
    exact ⟨by rw [E.out]; rfl, HB1.out⟩
  · rw [decide_eq_false hq, Bool.false_and] at RO
    have q1 : ((T.length : Int) == (A.length : Int)) = false := beq_eq_false_iff_ne.2 hq
    have E := RO
    clear RO
    clear k0 h hr hop hq hT
    go_enter Tryz.func89, Tryz.ntmps89
    go_upto_region 1 with fail
    generalize World.alloc w _ = W at *
    have k0 := HK0.out.k.cell
    have l0 := HK0.out.k.lt
    have c0 : W.cell? ⟨w.heap.size, 0, none⟩ = some (.slice va A.length ca) := k0 0
    have c1 : W.cell? ⟨w.heap.size, 1, none⟩ = some o := k0 1
    have c2 : W.cell? ⟨w.heap.size, 2, none⟩ = some i := k0 2
    have c3 : W.cell? ⟨w.heap.size, 3, none⟩ = some (.int .i64 b) := k0 3
    have c4 : W.cell? ⟨w.heap.size, 4, none⟩ = some (.int .i64 t) := k0 4
    clear k0
    have hI := (Below.refl W.heap.size W).drew
    refine wp_region_sched (Below W.heap.size W) 11 [0, 2, 4, 5, 6, 7, 9, 10] [0, 2, 1, 3, 4, 5, 6, 7, 8, 9, 10] (by kernel_rfl) (by kernel_rfl) hI ?_
    repeat
      apply wpSched_q rfl rfl
      case h =>
        intro w' hI K hK
        have c0' := (hI.cell (p := ⟨w.heap.size, 0, none⟩) l0).trans c0
        have c1' := (hI.cell (p := ⟨w.heap.size, 1, none⟩) l0).trans c1
        have c2' := (hI.cell (p := ⟨w.heap.size, 2, none⟩) l0).trans c2
        have c3' := (hI.cell (p := ⟨w.heap.size, 3, none⟩) l0).trans c3
        have c4' := (hI.cell (p := ⟨w.heap.size, 4, none⟩) l0).trans c4
        simp only [quietV, stillV]
        go_simp
        exact hK
      go_simp
    refine wpSched_r rfl rfl ?_ hI
    intro K hK _
    go_simp
    refine (SR.out _ hI).mono ?_
    rintro e _ ⟨rfl, rfl⟩
    refine hK _ _ hI ?_
    clear hK K
    refine wpSched_r rfl rfl ?_ hI
    intro K hK _
    go_simp
    refine (SZ.out _ hI).mono ?_
    rintro e w2 ⟨rfl, hbb⟩
    replace hI := hI.trans (hbb.mono hI.size)
    refine hK _ _ hI ?_
    clear hK K hbb
    repeat
      apply wpSched_q rfl rfl
      case h =>
        intro w' hI K hK
        simp only [quietV, stillV]
        go_simp
        exact hK
      go_simp
    refine wpSched_r rfl rfl ?_ hI
    intro K hK _
    go_simp
    refine hK _ _ hI ?_
    clear hK K
    repeat
      apply wpSched_q rfl rfl
      case h =>
        intro w' hI K hK
        simp only [quietV, stillV]
        go_simp
        exact hK
      go_simp
    refine wpSched_nil ?_
    try simp only [List.drop_succ_cons, List.drop_zero, List.drop_nil]
    have HB1 := Lib.hid (bthen HB.out hI)
    clear hI c0 c1 c2 c3 c4 l0 q1
    go_wp2
    go_ret
    exact ⟨by rw [E.out]; rfl, HB1.out⟩
/-- rows of masks, so far: the rows before x, of row x what is below y -/
def gvM (p : Nat → Nat → Bool) (n x y : Nat) : List Nat := (List.range n).map fun i => if i < x then msk (p i) n else if i = x then msk (p i) y else 0
theorem gvM_length (p : Nat → Nat → Bool) (n x y : Nat) : (gvM p n x y).length = n := by simp [gvM]
theorem gvM_get (p : Nat → Nat → Bool) (n x y : Nat) {i : Nat} (hi : i < n) : (gvM p n x y).getD i 0 = if i < x then msk (p i) n else if i = x then msk (p i) y else 0 := by
  unfold gvM
  rw [List.getD_eq_getElem?_getD, List.getElem?_map, List.getElem?_range hi]
  rfl
theorem list_extD {l m : List Nat} (h : l.length = m.length) (hh : ∀ i, i < l.length → l.getD i 0 = m.getD i 0) : l = m := by
  apply List.ext_getElem h
  intro i h1 h2
  have := hh i h1
  rw [List.getD_eq_getElem?_getD, List.getD_eq_getElem?_getD, List.getElem?_eq_getElem h1, List.getElem?_eq_getElem h2] at this
  exact this
theorem gvM_zero (p : Nat → Nat → Bool) (n : Nat) : List.replicate n 0 = gvM p n 0 0 := by
  refine list_extD (by simp [gvM_length]) fun i hi => ?_
  have hi' : i < n := by simpa using hi
  rw [gvM_get p n 0 0 hi', if_neg (Nat.not_lt_zero _), List.getD_eq_getElem?_getD, List.getElem?_replicate, if_pos hi']
  split <;> rfl
theorem gvM_next (p : Nat → Nat → Bool) (n x : Nat) : gvM p n x n = gvM p n (x + 1) 0 := by
  refine list_extD (by simp [gvM_length]) fun i hi => ?_
  rw [gvM_length] at hi
  rw [gvM_get p n _ _ hi, gvM_get p n _ _ hi]
  by_cases h1 : i < x
  · rw [if_pos h1, if_pos (by omega)]
  · rw [if_neg h1]
    by_cases h2 : i = x
    · rw [if_pos h2, if_pos (by omega)]
    · rw [if_neg h2, if_neg (by omega)]
      split <;> rfl
theorem gvM_end (p : Nat → Nat → Bool) (n : Nat) : gvM p n n 0 = lnk n n p := by
  refine list_extD (by rw [gvM_length, lnk_length]) fun i hi => ?_
  rw [gvM_length] at hi
  rw [gvM_get p n _ _ hi, if_pos hi, lnk_getD _ hi]
theorem gvM_no (p : Nat → Nat → Bool) (n x y : Nat) (h : p x y = false) : gvM p n x (y + 1) = gvM p n x y := by
  unfold gvM
  refine List.map_congr_left fun i _ => ?_
  by_cases h2 : i = x
  · subst h2
    rw [if_neg (Nat.lt_irrefl _), if_pos rfl]
    show msk (p i) (y + 1) = _
    rw [if_neg (Nat.lt_irrefl _), if_pos rfl, msk, h]
    simp
  · rw [if_neg h2, if_neg h2]
theorem gvM_yes (p : Nat → Nat → Bool) (n x y : Nat) (hx : x < n) (h : p x y = true) : gvM p n x (y + 1) = (gvM p n x y).set x (msk (p x) y ||| 2 ^ y) := by
  refine list_extD (by rw [List.length_set, gvM_length, gvM_length]) fun i hi => ?_
  rw [gvM_length] at hi
  rw [getD_set, gvM_get p n _ _ hi, gvM_length]
  by_cases h2 : x = i
  · subst h2
    rw [if_neg (Nat.lt_irrefl _), if_pos rfl, if_pos ⟨rfl, hx⟩, msk, h]
    rfl
  · rw [if_neg (show ¬ (x = i ∧ x < n) from fun hh => h2 hh.1), gvM_get p n _ _ hi]
    have h4 : ¬ i = x := fun hh => h2 hh.symm
    by_cases h3 : i < x
    · rw [if_pos h3, if_pos h3]
    · rw [if_neg h3, if_neg h3, if_neg h4, if_neg h4]
theorem gvM_lt (p : Nat → Nat → Bool) (n x y : Nat) (hn : n ≤ 30) (hy : y ≤ n) (i : Nat) : (gvM p n x y).getD i 0 < 1073741824 := by
  rcases Nat.lt_or_ge i n with hi | hi
  · rw [gvM_get p n _ _ hi]
    have h1 := Nat.lt_of_lt_of_le (msk_lt (p i) n) (two_pow_30 hn)
    have h2 := Nat.lt_of_lt_of_le (msk_lt (p i) y) (two_pow_30 (show y ≤ 30 by omega))
    split
    · exact h1
    · split
      · exact h2
      · omega
  · rw [List.getD_eq_getElem?_getD, List.getElem?_eq_none (by rw [gvM_length]; exact hi)]
    show (0 : Nat) < _
    omega
theorem ordH_lnk (A : List (List Nat)) : ordH A = lnk A.length A.length fun x y => decide (ent A x y = x) := by
  refine list_extD (by rw [ordH_length, lnk_length]) fun i hi => ?_
  rw [ordH_length] at hi
  rw [ordH_getD A hi, lnk_getD _ hi]
set_option maxHeartbeats 1000000 in
set_option maxRecDepth 100000 in
theorem impl_orderH (a o i : Value) (b t : Int) (A : List (List Nat)) (w : World) (h : Sl2 cI w a (lil A)) (hT : TabN A.length A) (hn : A.length ≤ 30) :
    Calls Tryz.prog 64 #[.agg #[a, o, i, .int .i64 b, .int .i64 t]] w fun e w' => ∃ u, e = .returned u ∧ Ow cI 2 w.heap.size w' u (li (ordH A)) ∧ Below w.heap.size w w' := by
  obtain ⟨va, ca, rfl⟩ := h.opn
  have LL := Lib.hid (lil_length A)
  have SZ0 := Lib.hid (fun W (hW : Sl2 cI W (.slice va (lil A).length ca) (lil A)) => impl_Hsize (.slice va (lil A).length ca) o i b t (lil A) W hW)
  rw [LL.out] at h SZ0 ⊢
  have hb0 := below_alloc' w (.cells #[.slice va A.length ca, o, i, .int .i64 b, .int .i64 t] 26)
  have hk0 := Blk.new w 26 #[.slice va A.length ca, o, i, .int .i64 b, .int .i64 t]
  have HB := Lib.hid hb0
  have HK0 := Lib.hid hk0
  have HH := Lib.hid (fun W (hW : Below w.heap.size w W) => h.below hW)
  have TA := Lib.hid hT
  obtain ⟨p, hp⟩ : ∃ p : Nat → Nat → Bool, (fun x y => decide (ent A x y = x)) = p := ⟨_, rfl⟩
  have HP : Hid (∀ x y, p x y = (((ent A x y : Nat) : Int) == (x : Int))) := Lib.hid (fun x y => by rw [← hp, eqI])
  have HE : Hid (lnk A.length A.length p = ordH A) := Lib.hid (by rw [← hp, ← ordH_lnk])
  clear hb0 hk0 h hT hp
  go_enter Tryz.func64, Tryz.ntmps64
  go_upto_region 1 with fail
  generalize World.alloc w _ = W at *
  have k0 := HK0.out.cell
  have l0 := HK0.out.lt
  go_wp2_with fail
  refine (SZ0.out _ (HH.out _ HB.out)).mono ?_
  rintro e w1 ⟨rfl, hb⟩
  have HB1 := Lib.hid (bthen HB.out hb)
  have J0 := Lib.hid (HK0.out.below hb l0)
  clear k0 l0 hb
  go_wp2_with (at_make; refine stopHere ?_)
  refine goHere ?_
  refine mk_full (K := cI) w1 ty_int64 rfl _ _ rfl w1.heap.size A.length 0 rfl rfl rfl (by omega) (Nat.le_refl _) ?_
  intro w2 ho hg hb hz
  have EZ : List.replicate A.length (0 : Int) = li (List.replicate A.length 0) := by unfold li; rw [List.map_replicate]; rfl
  rw [EZ, gvM_zero p] at ho
  have HO := Lib.hid ho
  have HB2 := Lib.hid hb
  have M0 := Lib.hid (J0.out.below hb J0.out.lt)
  clear ho hb hg hz EZ
  have k0 := M0.out.cell
  have l0 := M0.out.lt
  go_wp2
  clear k0 l0
  go_loopw [14] (fun k wr => ∃ x : Nat, x ≤ A.length ∧ k = .int .i64 x ∧ Ow cI 2 w1.heap.size wr (.slice (some ⟨w1.heap.size, 0, none⟩) A.length A.length) (li (gvM p A.length x 0)) ∧ Below w1.heap.size w1 wr) (fun k _ => A.length - (intOf k).toNat)
  case atStart => exact ⟨0, Nat.zero_le _, rfl, HO.out, HB2.out⟩
  case round =>
    obtain ⟨x, hx, rfl, ho, hb⟩ := hrel
    obtain ⟨w3, hw3⟩ : ∃ W, W = wr := ⟨_, rfl⟩
    subst hw3
    have HOr := Lib.hid ho
    have HBr := Lib.hid hb
    clear ho
    by_cases hlt : x < A.length
    · obtain ⟨bA, oA, Aj, nj, cj, hvA, hbl, hcj, hsj⟩ := (HH.out _ HB1.out).at_ (k := x) (by rw [LL.out]; exact hlt)
      subst hvA
      have hcj := (hb.cell (p := ⟨bA, oA + x, none⟩) hbl).trans hcj
      rw [lil_get] at hsj
      have hm : A[x]'hlt ∈ A := List.getElem_mem _
      obtain ⟨h1, h2⟩ := TA.out.r _ hm
      have hnj : nj = A.length := by
        obtain ⟨A', c', hv⟩ := hsj.opn
        rw [li_length, h1] at hv
        injection hv
      subst hnj
      have GE : Hid (∀ y, y < A.length → ((A[x]'hlt).getD y 0 = ent A x y)) := Lib.hid (fun y hy => by
        unfold ent
        rw [List.getD_eq_getElem?_getD (l := A), List.getElem?_eq_getElem hlt]; rfl)
      obtain ⟨row, hrow⟩ : ∃ r, A[x]'hlt = r := ⟨_, rfl⟩
      rw [hrow] at hsj GE h1
      have HRL : Hid ((li row).length = A.length) := Lib.hid (by rw [li_length]; exact h1)
      have HSJ := Lib.hid hsj
      clear hsj hm h1 h2 hrow hb
      go_wp2
      go_loopw [21] (fun k wq => ∃ y : Nat, y ≤ A.length ∧ k = .int .i64 y ∧ Ow cI 2 w1.heap.size wq (.slice (some ⟨w1.heap.size, 0, none⟩) A.length A.length) (li (gvM p A.length x y)) ∧ Below w1.heap.size w1 wq) (fun k _ => A.length - (intOf k).toNat)
      case atStart => exact ⟨0, Nat.zero_le _, rfl, HOr.out, HBr.out⟩
      case round =>
        obtain ⟨y, hy, rfl, hp, hb⟩ := hrel
        have HP4 := Lib.hid hp
        have HB4 := Lib.hid hb
        by_cases hlt2 : y < A.length
        · obtain ⟨b2, o2, e2, hb2, hc2⟩ := (HSJ.out.below hb).atI (k := y) (by rw [HRL.out]; exact hlt2)
          subst e2
          rw [li_get, GE.out y hlt2] at hc2
          have hpz := HP.out x y
          have hzl := TA.out.ent_lt hlt hlt2
          generalize ent A x y = z at *
          cases hpx : p x y
          · have q1 : ((z : Int) == (x : Int)) = false := by rw [← hpz, hpx]
            have E := Lib.hid (gvM_no p A.length x y hpx)
            clear hp hb hpx hpz
            go_wp2
            exact ⟨⟨y + 1, by omega, by go_num, by rw [E.out]; exact HP4.out, HB4.out⟩, by simp [intOf]; omega⟩
          · have q1 : ((z : Int) == (x : Int)) = true := by rw [← hpz, hpx]
            have E := Lib.hid (gvM_yes p A.length x y hlt hpx)
            have hgl := gvM_lt p A.length x y hn hy x
            have hgx : (gvM p A.length x y).getD x 0 = msk (p x) y := by rw [gvM_get p _ _ _ hlt, if_neg (Nat.lt_irrefl _), if_pos rfl]
            rw [hgx] at hgl
            obtain ⟨ps, hps⟩ : ∃ ps, gvM p A.length x y = ps := ⟨_, rfl⟩
            have hpl : ps.length = A.length := by rw [← hps, gvM_length]
            rw [hps] at hp HP4 hgx E
            obtain ⟨cj5, -, -, -⟩ := hp.at1 rfl (j := x) (by rw [li_length, hpl]; exact hlt) rfl
            have hod := hp.below (Below.refl _ _).drew
            obtain ⟨cj4, fj, -, -⟩ := hod.at1 rfl (j := x) (by rw [li_length, hpl]; exact hlt) rfl
            rw [li_get, hgx] at cj5 cj4
            have hset := Lib.hid ((hod.set1 (j := x) (x := ((msk (p x) y ||| 2 ^ y : Nat) : Int)) (u := .int .i64 (msk (p x) y ||| 2 ^ y : Nat)) rfl rfl (by rw [li_length, hpl]; exact hlt)))
            rw [li_set, ← E.out] at hset
            have hbs := Lib.hid ((hb.drew).setCell (p := ⟨w1.heap.size, x, none⟩) (Nat.le_refl _) (.int .i64 (msk (p x) y ||| 2 ^ y : Nat)))
            clear hp hb hpx hpz hod hps E
            generalize msk (p x) y = g at *
            have e2 := i64_or_nat g (2 ^ y) (by omega) (two_pow_lt (by omega))
            have e3 := wrap_two_pow'' (n := y) (by omega)
            rw [← cast_two_pow] at e2
            go_wp2
            go_still_tail 8, (by kernel_rfl)
            change wpList _ _ _ _ _ (World.drew _)
            clear cj5 hc2 hb2
            generalize World.drew _ = w4 at *
            go_wp2
            exact ⟨⟨y + 1, by omega, by go_num, hset.out, hbs.out⟩, by simp [intOf]; omega⟩
        · obtain rfl : y = A.length := by omega
          rw [gvM_next] at HP4
          clear hp hb
          go_wp2
          exact ⟨⟨x + 1, by omega, by go_num, HP4.out, HB4.out⟩, by simp [intOf]; omega⟩
    · obtain rfl : x = A.length := by omega
      have e := gvM_end p A.length
      rw [HE.out] at e
      rw [e] at HOr
      clear e
      go_wp2
      go_ret
      exact ⟨_, rfl, HOr.out.mono HB1.out.size, bthen HB1.out HBr.out⟩
end Go.Proofs.YtgkogfjifcfkoaaGreat
