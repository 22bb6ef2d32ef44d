/- Heyting algebras, of the program: size, hasElement, isTable, greatest. -/
import Derived.Test.YtgkogfjifcfkoaaGreatY18
import Derived.Test.YtgkogfjifcfkoaaGreatY19
namespace Go.Proofs.YtgkogfjifcfkoaaGreat
open Go.RowKit
set_option linter.unusedVariables false
set_option linter.unusedSimpArgs false
theorem impl_Hsize (a o i : Value) (b t : Int) (A : List (List Int)) (w : World) (h : Sl2 cI w a A) :
    Calls Tryz.prog 43 #[.agg #[a, o, i, .int .i64 b, .int .i64 t]] w fun e w' => e = .returned (.int .i64 A.length) ∧ Below w.heap.size w w' := by
  obtain ⟨A0, c0, rfl⟩ := h.opn
  have HB := Lib.hid (below_alloc' w (.cells #[.slice A0 A.length c0, o, i, .int .i64 b, .int .i64 t] 26))
  clear h
  go_enter Tryz.func43, Tryz.ntmps43
  go_wp2
  go_ret
  exact ⟨rfl, HB.out⟩
theorem impl_hasElementH (a o i : Value) (b t x : Int) (A : List (List Int)) (w : World) (h : Sl2 cI w a A) :
    Calls Tryz.prog 55 #[.agg #[a, o, i, .int .i64 b, .int .i64 t], .int .i64 x] w fun e w' => e = .returned (.bool (inR x 0 ((A.length : Int) - 1))) ∧ Below w.heap.size w w' := by
  obtain ⟨va, ca, rfl⟩ := h.opn
  have hlen : A.length ≤ 9223372036854775807 := by
    obtain ⟨hs, ⟨A', c', h1, h2, h3, -⟩, h4, -⟩ := h
    omega
  have hb0 := below_alloc' w (.cells #[.slice va A.length ca, o, i, .int .i64 b, .int .i64 t] 26)
  have hk0 := Blk.new w 26 #[.slice va A.length ca, o, i, .int .i64 b, .int .i64 t]
  have HB := Lib.hid hb0
  have HK0 := Lib.hid hk0
  have SZ := Lib.hid (fun W (hW : Below w.heap.size w W) => impl_Hsize _ o i b t A W (h.below hW))
  clear hb0 hk0 h
  go_enter Tryz.func55, Tryz.ntmps55
  go_upto_region 1 with fail
  generalize World.alloc w _ = W at *
  have k0 := HK0.out.cell
  have l0 := HK0.out.lt
  go_wp2_with fail
  refine (SZ.out _ HB.out).mono ?_
  rintro e w1 ⟨rfl, hb⟩
  have HB1 := Lib.hid (bthen HB.out hb)
  clear k0 l0 hb
  go_wp2_with fail
  refine (impl_inRange _ _ _ _).mono ?_
  rintro e _ ⟨rfl, rfl⟩
  go_wp2
  go_ret
  exact ⟨rfl, HB1.out⟩
/-- the box of an algebra that a closure holds -/
structure BxH (W : World) (F : Nat) (va : Option Addr) (ca : Nat) (o i : Value) (b t : Int) (A : List (List Int)) : Prop where
  k : Blk W F 26 #[.slice va A.length ca, o, i, .int .i64 b, .int .i64 t]
  a : Sl2 cI W (.slice va A.length ca) A
theorem BxH.below {W W' : World} {F : Nat} {va : Option Addr} {ca : Nat} {o i : Value} {b t : Int} {A : List (List Int)} (h : BxH W F va ca o i b t A) (hb : Below W.heap.size W W') : BxH W' F va ca o i b t A := ⟨h.k.below hb h.k.lt, h.a.below hb⟩
theorem impl_isTable_1_1 (x : Int) (F : Nat) (va : Option Addr) (ca : Nat) (o i : Value) (b t : Int) (A : List (List Int)) (w : World) (h : BxH w F va ca o i b t A) :
    Calls Tryz.prog 130 #[.int .i64 x, .pointer (some ⟨F, 0, none⟩)] w fun e w' => e = .returned (.bool (!inR x 0 ((A.length : Int) - 1))) ∧ Below w.heap.size w w' := by
  have HE := Lib.hid (impl_hasElementH _ o i b t x A w h.a)
  have k0 := h.k.cell
  have l0 := h.k.lt
  clear h
  go_enter Tryz.func130, Tryz.ntmps130
  go_wp2_with fail
  refine HE.out.mono ?_
  rintro e w1 ⟨rfl, hb⟩
  have HB := Lib.hid hb
  clear hb k0 l0
  go_wp2
  go_ret
  exact ⟨rfl, HB.out⟩
theorem en_isTable_1_1 : ∀ (args : Array Value) (w : World), (callFunc 130 args).run Tryz.prog w = .ok (.enter 130 args) w := enters Tryz.func130 (by kernel_rfl) (by kernel_rfl)
theorem rowOk_iff (n : Int) (r : List Int) : rowOk n r = !(!decide ((r.length : Int) = n) || (List.range r.length).any fun j => !inR (r.getD j 0) 0 (n - 1)) := by
  rw [any_range r 0 (fun x => !inR x 0 (n - 1))]
  unfold rowOk
  rw [Bool.not_or, Bool.not_not, ← List.all_eq_not_any_not]
set_option maxHeartbeats 1000000 in
set_option maxRecDepth 100000 in
theorem impl_isTable_1 (u : Value) (r : List Int) (F : Nat) (va : Option Addr) (ca : Nat) (o i : Value) (b t : Int) (A : List (List Int)) (w : World) (h : BxH w F va ca o i b t A) (hr : Sl cI w u r) (hl : r.length ≤ 1048576) :
    Calls Tryz.prog 129 #[u, .pointer (some ⟨F, 0, none⟩)] w fun e w' => e = .returned (.bool (!rowOk A.length r)) ∧ Below w.heap.size w w' := by
  have hop := h.a.opn
  obtain ⟨vu, cu, rfl⟩ := hr.opn
  have SZ := Lib.hid (fun W (hW : Below w.heap.size w W) => impl_Hsize _ o i b t A W (h.a.below hW))
  have SR := Lib.hid (fun W (hW : Below w.heap.size w W) => impl_size_int64 _ r W (hr.below hW))
  have CF := Lib.hid (fun W (hW : Below w.heap.size w W) => slices_ContainsFunc_ints _ r 130 #[.pointer (some ⟨F, 0, none⟩)] (fun j => !inR (r.getD j 0) 0 ((A.length : Int) - 1)) W (hr.below hW) (by omega) en_isTable_1_1 (fun w' hw' j hj => by
    rw [show (#[Value.int .i64 r[j]] ++ #[.pointer (some ⟨F, 0, none⟩)] : Array Value) = #[.int .i64 r[j], .pointer (some ⟨F, 0, none⟩)] from rfl]
    have := impl_isTable_1_1 (r.getD j 0) F va ca o i b t A w' ((h.below hW).below hw')
    rwa [show r.getD j 0 = r[j] by rw [List.getD_eq_getElem?_getD, List.getElem?_eq_getElem hj]; rfl] at this ⊢))
  have k0 := h.k.cell
  have l0 := h.k.lt
  have c0 : w.cell? ⟨F, 0, none⟩ = some (.slice va A.length ca) := k0 0
  have c1 : w.cell? ⟨F, 1, none⟩ = some o := k0 1
  have c2 : w.cell? ⟨F, 2, none⟩ = some i := k0 2
  have c3 : w.cell? ⟨F, 3, none⟩ = some (.int .i64 b) := k0 3
  have c4 : w.cell? ⟨F, 4, none⟩ = some (.int .i64 t) := k0 4
  have RO := Lib.hid (rowOk_iff A.length r)
  by_cases hq : (r.length : Int) = A.length
  · rw [decide_eq_true hq, Bool.not_true, Bool.false_or] at RO
    have q1 : ((r.length : Int) != (A.length : Int)) = false := by rw [hq]; simp
    have E := RO
    clear k0 h hr hop hq RO
    go_enter Tryz.func129, Tryz.ntmps129
    go_upto_region 1 with fail
    have hI := (Below.refl w.heap.size w).drew
    refine wp_region_sched (Below w.heap.size w) 10 [0, 2, 4, 5, 6, 7, 9] [0, 2, 1, 3, 4, 5, 6, 7, 8, 9] (by kernel_rfl) (by kernel_rfl) hI ?_
    repeat
      apply wpSched_q rfl rfl
      case h =>
        intro w' hI K hK
        have c0' := (hI.cell (p := ⟨F, 0, none⟩) l0).trans c0
        have c1' := (hI.cell (p := ⟨F, 1, none⟩) l0).trans c1
        have c2' := (hI.cell (p := ⟨F, 2, none⟩) l0).trans c2
        have c3' := (hI.cell (p := ⟨F, 3, none⟩) l0).trans c3
        have c4' := (hI.cell (p := ⟨F, 4, none⟩) l0).trans c4
        simp only [quietV, stillV]
        go_simp
        exact hK
      go_simp
    refine wpSched_r rfl rfl ?_ hI
    intro K hK _
    go_simp
    refine (SR.out _ hI).mono ?_
    rintro e _ ⟨rfl, rfl⟩
    refine hK _ _ hI ?_
    clear hK K
    refine wpSched_r rfl rfl ?_ hI
    intro K hK _
    go_simp
    refine (SZ.out _ hI).mono ?_
    rintro e w2 ⟨rfl, hbb⟩
    replace hI := hI.trans (hbb.mono hI.size)
    refine hK _ _ hI ?_
    clear hK K hbb
    repeat
      apply wpSched_q rfl rfl
      case h =>
        intro w' hI K hK
        simp only [quietV, stillV]
        go_simp
        exact hK
      go_simp
    refine wpSched_r rfl rfl ?_ hI
    intro K hK _
    go_simp
    refine (CF.out _ hI).mono ?_
    rintro e w3 ⟨rfl, hbb⟩
    replace hI := hI.trans (hbb.mono hI.size)
    refine hK _ _ hI ?_
    clear hK K hbb
    repeat
      apply wpSched_q rfl rfl
      case h =>
        intro w' hI K hK
        simp only [quietV, stillV]
        go_simp
        exact hK
      go_simp
    refine wpSched_nil ?_
    try simp only [List.drop_succ_cons, List.drop_zero, List.drop_nil]
    have HB := Lib.hid hI
    clear hI c0 c1 c2 c3 c4 l0 q1
    go_wp2
    go_ret
    exact ⟨by rw [E.out, Bool.not_not]; rfl, HB.out⟩
  · rw [decide_eq_false hq, Bool.not_false, Bool.true_or, Bool.not_true] at RO
    have q1 : ((r.length : Int) != (A.length : Int)) = true := bne_iff_ne.2 hq
    have E := RO
    clear k0 h hr hop hq RO
    go_enter Tryz.func129, Tryz.ntmps129
    go_upto_region 1 with fail
    have hI := (Below.refl w.heap.size w).drew
    refine wp_region_sched (Below w.heap.size w) 10 [0, 2, 4, 5, 6, 7, 9] [0, 2, 1, 3, 4, 5, 6, 7, 8, 9] (by kernel_rfl) (by kernel_rfl) hI ?_
    repeat
      apply wpSched_q rfl rfl
      case h =>
        intro w' hI K hK
        have c0' := (hI.cell (p := ⟨F, 0, none⟩) l0).trans c0
        have c1' := (hI.cell (p := ⟨F, 1, none⟩) l0).trans c1
        have c2' := (hI.cell (p := ⟨F, 2, none⟩) l0).trans c2
        have c3' := (hI.cell (p := ⟨F, 3, none⟩) l0).trans c3
        have c4' := (hI.cell (p := ⟨F, 4, none⟩) l0).trans c4
        simp only [quietV, stillV]
        go_simp
        exact hK
      go_simp
    refine wpSched_r rfl rfl ?_ hI
    intro K hK _
    go_simp
    refine (SR.out _ hI).mono ?_
    rintro e _ ⟨rfl, rfl⟩
    refine hK _ _ hI ?_
    clear hK K
    refine wpSched_r rfl rfl ?_ hI
    intro K hK _
    go_simp
    refine (SZ.out _ hI).mono ?_
    rintro e w2 ⟨rfl, hbb⟩
    replace hI := hI.trans (hbb.mono hI.size)
    refine hK _ _ hI ?_
    clear hK K hbb
    repeat
      apply wpSched_q rfl rfl
      case h =>
        intro w' hI K hK
        simp only [quietV, stillV]
        go_simp
        exact hK
      go_simp
    refine wpSched_r rfl rfl ?_ hI
    intro K hK _
    go_simp
    refine hK _ _ hI ?_
    clear hK K
    repeat
      apply wpSched_q rfl rfl
      case h =>
        intro w' hI K hK
        simp only [quietV, stillV]
        go_simp
        exact hK
      go_simp
    refine wpSched_nil ?_
    try simp only [List.drop_succ_cons, List.drop_zero, List.drop_nil]
    have HB := Lib.hid hI
    clear hI c0 c1 c2 c3 c4 l0 q1
    go_wp2
    go_ret
    exact ⟨by rw [E.out]; rfl, HB.out⟩
theorem en_isTable_1 : ∀ (args : Array Value) (w : World), (callFunc 129 args).run Tryz.prog w = .ok (.enter 129 args) w := enters Tryz.func129 (by kernel_rfl) (by kernel_rfl)
end Go.Proofs.YtgkogfjifcfkoaaGreat
