/- Contracts of posets and valuations, of both sides: isPoset, isUpset, isValuation, l16Is, l17Is, IsValuation. Written by gen24A.py. -/
import Derived.Test.YtkdldfomdbgcaaaGreatPF
import Derived.Test.YtkdldfomdbgcaaaGreatSB
namespace Go.Proofs.YtkdldfomdbgcaaaGreat
open Go.RowKit
set_option linter.unusedVariables false
set_option linter.unusedSimpArgs false
def nL (L : List Int) : List Nat := L.map Int.toNat
theorem nL_li (ns : List Nat) : nL (li ns) = ns := by
  unfold nL li
  rw [List.map_map]
  conv => rhs; rw [← List.map_id ns]
  exact List.map_congr_left fun x _ => by simp
/-- a poset -/
def pfl (ns : List Nat) : Bool := (flp ns 0 && flp ns 2) && flp ns 8
def psOk (n : Int) (L : List Int) : Bool := frOk n L && pfl (nL L)
theorem psOk_iff {n : Int} {L : List Int} (h : psOk n L = true) : ∃ ns : List Nat, L = li ns ∧ n = ns.length ∧ RelN ns ∧ pfl ns = true := by
  unfold psOk at h
  rw [Bool.and_eq_true] at h
  obtain ⟨ns, rfl, rfl, hr⟩ := frOk_iff h.1
  exact ⟨ns, rfl, rfl, hr, by have := h.2; rwa [nL_li] at this⟩
/-- an upset -/
def upn (ns : List Nat) (m : Int) : Bool := mkOk ns.length m && decide (img ns m.toNat = m.toNat)
def vlOk (n : Int) (L V : List Int) : Bool := psOk n L && (decide (V.length = 6) && V.all fun m => upn (nL L) m)
theorem vlOk_iff {n : Int} {L V : List Int} (h : vlOk n L V = true) : ∃ ns us : List Nat, L = li ns ∧ n = ns.length ∧ V = li us ∧ MdN ns us ∧ pfl ns = true ∧ ∀ u ∈ us, img ns u = u := by
  unfold vlOk at h
  rw [Bool.and_eq_true, Bool.and_eq_true, decide_eq_true_eq, List.all_eq_true] at h
  obtain ⟨h1, h2, h3⟩ := h
  obtain ⟨ns, rfl, rfl, hr, hp⟩ := psOk_iff h1
  rw [nL_li] at h3
  have h4 : ∀ m ∈ V, 0 ≤ m ∧ m.toNat < 2 ^ ns.length ∧ img ns m.toNat = m.toNat := fun m hm => by
    have := h3 m hm
    unfold upn at this
    rw [Bool.and_eq_true, decide_eq_true_eq] at this
    exact ⟨(mkOk_nat this.1).1, (mkOk_nat this.1).2, this.2⟩
  have hv := li_of fun m hm => (h4 m hm).1
  refine ⟨ns, V.map Int.toNat, rfl, rfl, hv, ⟨hr, by simpa using h2, ?_⟩, hp, ?_⟩
  · intro x hx
    obtain ⟨m, hm, rfl⟩ := List.mem_map.1 hx
    exact (h4 m hm).2.1
  · intro x hx
    obtain ⟨m, hm, rfl⟩ := List.mem_map.1 hx
    exact (h4 m hm).2.2
theorem eqI (a b : Nat) : (((a : Nat) : Int) == (b : Int)) = decide (a = b) := by
  rw [Bool.eq_iff_iff, beq_iff_eq, decide_eq_true_eq]; omega
theorem neI (a b : Nat) : (((a : Nat) : Int) != (b : Int)) = !decide (a = b) := by
  unfold bne; rw [eqI]
theorem frOk_li {ns : List Nat} (h : RelN ns) : frOk ns.length (li ns) = true := by
  have h1 := h.1
  unfold frOk
  rw [inR_true (by omega) (by omega), Bool.true_and, li_length, decide_eq_true rfl, Bool.true_and]
  unfold relOk
  rw [List.all_eq_true]
  intro m hm
  unfold li at hm
  obtain ⟨a, ha, rfl⟩ := List.mem_map.1 hm
  rw [li_length, mkOk_small (by omega)]
  refine inR_true (Int.natCast_nonneg _) ?_
  rw [Int.toNat_natCast, full_cast (by omega)]
  have := h.2 a ha
  exact Int.ofNat_le.2 (by omega)
theorem Bk.new1 (w : World) (cs : Array Value) (e : TypeId) (o : Obj) : Bk ((w.alloc (.cells cs e)).alloc o) w.heap.size cs := (Bk.new w cs e).alloc o
set_option maxHeartbeats 1000000 in
set_option maxRecDepth 100000 in
theorem impl_Pframe (n : Int) (v : Value) (xs : List Int) (w : World) (h : Sl cI w v xs) :
    Calls Tryz.prog 117 #[.agg #[.int .i64 n, v]] w fun e w' => e = .returned (.agg #[.int .i64 xs.length, v]) ∧ Below w.heap.size w w' := by
  obtain ⟨A0, c0, rfl⟩ := h.opn
  have HS := Lib.hid h
  clear h
  have A := Lib.hid (Below.refl w.heap.size w)
  go_enter Tryz.func117, Tryz.ntmps117
  go_upto_region 1 with fail
  have hb := bthen (below_alloc' w (.cells #[.int .i64 n, .slice A0 xs.length c0] 29)) (below_alloc' (World.alloc w (.cells #[.int .i64 n, .slice A0 xs.length c0] 29)) (.cells #[.int .i64 0, .slice none 0 0] 68))
  have T1 := Lib.hid (Bk.new1 w #[.int .i64 n, .slice A0 xs.length c0] 29 (.cells #[.int .i64 0, .slice none 0 0] 68))
  have HK : Hid (Blk (World.alloc (World.alloc w (.cells #[.int .i64 n, .slice A0 xs.length c0] 29)) (.cells #[.int .i64 0, .slice none 0 0] 68)) (w.heap.size + 1) 68 #[.int .i64 0, .slice none 0 0]) := Lib.hid (Blk.new' _ 68 #[.int .i64 0, .slice none 0 0] (by simp))
  replace HS := Lib.hid (HS.out.below hb)
  replace A := Lib.hid (bthen A.out hb)
  clear hb
  generalize World.alloc (World.alloc w _) _ = w1 at *
  have t1s := T1.out.1
  have t1c := T1.out.2
  go_wp2_with fail
  clear t1s t1c
  refine (impl_frameOf _ xs _ HS.out).mono ?_
  rintro e w2 ⟨rfl, hb⟩
  have r := HK.out.below hb HK.out.lt
  have rc := r.cell
  have rf := r.frozen
  have rl := r.lt
  have B2 := Lib.hid (bthen A.out hb)
  clear hb A HK HS T1 r
  go_wp2
  refine bodyPost_ret (v := .agg #[.int .i64 xs.length, .slice A0 xs.length c0]) (by simp [results, Tryz.results117, go_sem, rc, rf, rl]) rfl ⟨rfl, ?_⟩
  exact (B2.out.setCell (Nat.le_succ _) _).setCell (Nat.le_succ _) _
set_option maxHeartbeats 1000000 in
set_option maxRecDepth 100000 in
theorem impl_isPoset (n : Int) (v : Value) (xs : List Int) (w : World) (h : Sl cI w v xs) (hl : xs.length ≤ 1073741824) :
    Calls Tryz.prog 76 #[.agg #[.int .i64 n, v]] w fun e w' => e = .returned (.bool (psOk n xs)) ∧ Below w.heap.size w w' := by
  obtain ⟨A0, c0, rfl⟩ := h.opn
  have hb0 := below_alloc' w (.cells #[.int .i64 n, .slice A0 xs.length c0] 29)
  have H0 := Lib.hid (h.below hb0)
  have HB := Lib.hid hb0
  have hk0 := Bk.new w #[.int .i64 n, .slice A0 xs.length c0] 29
  clear h hb0
  cases h1 : inR n 0 8
  · have E : Hid (psOk n xs = false) := Lib.hid (by unfold psOk frOk; rw [h1]; rfl)
    have HQ := Lib.hid (fun m => q_inRange h1 (w.alloc (.cells #[.int .i64 n, .slice A0 xs.length c0] 29)) m)
    have HS := Lib.hid (fun m => q_size H0.out m)
    clear h1 hk0
    go_enter Tryz.func76, Tryz.ntmps76
    go_wp2
    go_quiet ((first | (go_at_call 115; exact HQ.out _) | (go_at_call 78; exact HS.out _)))
    go_wp2
    go_ret
    exact ⟨by rw [E.out]; rfl, below_drewN HB.out _⟩
  · have hr := inR_iff.1 h1
    by_cases h2 : (xs.length : Int) = n
    · subst h2
      have H1 := Lib.hid (fun W => h1 ▸ impl_inRange (xs.length : Int) 0 8 W)
      have HS := Lib.hid (fun W (hW : Sl cI W (.slice A0 xs.length c0) xs) => impl_size_int64 _ xs W hW)
      cases h3 : relOk xs
      · have E : Hid (psOk xs.length xs = false) := Lib.hid (by unfold psOk frOk; rw [h3]; simp)
        have HR := Lib.hid (fun W (hW : Sl cI W (.slice A0 xs.length c0) xs) => h3 ▸ impl_isRelation _ xs W hW hl)
        have T1 := Lib.hid hk0
        have c1 : (w.alloc (.cells #[.int .i64 (xs.length : Int), .slice A0 xs.length c0] 29)).cell? ⟨w.heap.size, 0, none⟩ = some (.int .i64 xs.length) := hk0.2 0
        have c2 : (w.alloc (.cells #[.int .i64 (xs.length : Int), .slice A0 xs.length c0] 29)).cell? ⟨w.heap.size, 1, none⟩ = some (.slice A0 xs.length c0) := hk0.2 1
        have hlt := hk0.1
        clear h1 h3 hk0
        go_enter Tryz.func76, Tryz.ntmps76
        go_wp2
        first | go_region_held3 (fun w' => w'.cell? ⟨w.heap.size, 0, none⟩ = some (.int .i64 xs.length) ∧ w'.cell? ⟨w.heap.size, 1, none⟩ = some (.slice A0 xs.length c0)) (first | exact ⟨c1', c2'⟩ | exact ⟨c1, c2⟩ | (simp [*]; done)) (first | (go_at_call 115; refine (H1.out _).mono ?_; rintro e w2 ⟨rfl, rfl⟩) | (go_at_call 78; refine (HS.out _ (H0.out.drewN _)).mono ?_; rintro e w2 ⟨rfl, rfl⟩) | (go_at_call 116; refine (HR.out _ (H0.out.drewN _)).mono ?_; rintro e w3 ⟨rfl, hb3⟩; have c1' := (hb3.cell (p := ⟨w.heap.size, 0, none⟩) hlt).trans c1; have c2' := (hb3.cell (p := ⟨w.heap.size, 1, none⟩) hlt).trans c2)) | fail
        all_goals
          have hb := (below_drewN (Below.refl (w.alloc (.cells #[.int .i64 (xs.length : Int), .slice A0 xs.length c0] 29)).heap.size (w.alloc (.cells #[.int .i64 (xs.length : Int), .slice A0 xs.length c0] 29))) _).trans hb3
          clear c1' c2' hb3
          replace T1 := Lib.hid (T1.out.below hb)
          replace H0 := Lib.hid (H0.out.below hb)
          have A := Lib.hid (HB.out.trans (hb.mono HB.out.size))
          clear hb HB c1 c2 hlt
          go_wp2
          go_ret
          exact ⟨by rw [E.out]; rfl, A.out⟩
      · have h4 : frOk xs.length xs = true := by unfold frOk; rw [h1, h3, decide_eq_true rfl]; rfl
        have HR := Lib.hid (fun W (hW : Sl cI W (.slice A0 xs.length c0) xs) => h3 ▸ impl_isRelation _ xs W hW hl)
        obtain ⟨ns, rfl, -, hrn⟩ := frOk_iff h4
        have E : Hid (psOk (li ns).length (li ns) = pfl ns) := Lib.hid (by unfold psOk; rw [h4, nL_li]; rfl)
        have EL := li_length ns
        have HF0 := Lib.hid (fun W (hW : Sl cI W (.slice A0 (li ns).length c0) (li ns)) => impl_hasFlag_p ns 0 (by decide) _ W hW hrn)
        have HF2 := Lib.hid (fun W (hW : Sl cI W (.slice A0 (li ns).length c0) (li ns)) => impl_hasFlag_p ns 2 (by decide) _ W hW hrn)
        have HF8 := Lib.hid (fun W (hW : Sl cI W (.slice A0 (li ns).length c0) (li ns)) => impl_hasFlag_p ns 8 (by decide) _ W hW hrn)
        have HP := Lib.hid (fun W (hW : Sl cI W (.slice A0 (li ns).length c0) (li ns)) => impl_Pframe ((li ns).length : Int) _ _ W hW)
        rw [EL] at H0 hk0 H1 HR E HB HF0 HF2 HF8 ⊢
        rw [EL] at HS HP
        have T1 := Lib.hid hk0
        have c1 : (w.alloc (.cells #[.int .i64 (ns.length : Int), .slice A0 ns.length c0] 29)).cell? ⟨w.heap.size, 0, none⟩ = some (.int .i64 ns.length) := hk0.2 0
        have c2 : (w.alloc (.cells #[.int .i64 (ns.length : Int), .slice A0 ns.length c0] 29)).cell? ⟨w.heap.size, 1, none⟩ = some (.slice A0 ns.length c0) := hk0.2 1
        have hlt := hk0.1
        clear h1 h3 hk0 h4
        go_enter Tryz.func76, Tryz.ntmps76
        go_wp2
        first | go_region_held3 (fun w' => w'.cell? ⟨w.heap.size, 0, none⟩ = some (.int .i64 ns.length) ∧ w'.cell? ⟨w.heap.size, 1, none⟩ = some (.slice A0 ns.length c0)) (first | exact ⟨c1', c2'⟩ | exact ⟨c1, c2⟩ | (simp [*]; done)) (first | (go_at_call 115; refine (H1.out _).mono ?_; rintro e w2 ⟨rfl, rfl⟩) | (go_at_call 78; refine (HS.out _ (H0.out.drewN _)).mono ?_; rintro e w2 ⟨rfl, rfl⟩) | (go_at_call 116; refine (HR.out _ (H0.out.drewN _)).mono ?_; rintro e w3 ⟨rfl, hb3⟩; have c1' := (hb3.cell (p := ⟨w.heap.size, 0, none⟩) hlt).trans c1; have c2' := (hb3.cell (p := ⟨w.heap.size, 1, none⟩) hlt).trans c2)) | fail
        all_goals
          have hb := (below_drewN (Below.refl (w.alloc (.cells #[.int .i64 (ns.length : Int), .slice A0 ns.length c0] 29)).heap.size (w.alloc (.cells #[.int .i64 (ns.length : Int), .slice A0 ns.length c0] 29))) _).trans hb3
          clear c1' c2' hb3
          replace T1 := Lib.hid (T1.out.below hb)
          replace H0 := Lib.hid (H0.out.below hb)
          have A := Lib.hid (HB.out.trans (hb.mono HB.out.size))
          clear hb HB c1 c2 hlt
          have T1s := T1.out.1
          have T1c := T1.out.2
          go_wp2_with fail
          clear T1s T1c
          refine (HP.out _ H0.out).mono ?_
          rintro e w4 ⟨rfl, hb⟩
          replace T1 := Lib.hid (T1.out.below hb)
          replace H0 := Lib.hid (H0.out.below hb)
          replace A := Lib.hid (bthen A.out hb)
          clear hb
          go_upto_region 4 with fail
          have hb := below_alloc' w4 (.cells #[.int .i64 (ns.length : Int), .slice A0 ns.length c0] 68)
          have T2 := Lib.hid (Bk.new w4 #[.int .i64 (ns.length : Int), .slice A0 ns.length c0] 68)
          replace T1 := Lib.hid (T1.out.below hb)
          replace H0 := Lib.hid (H0.out.below hb)
          replace A := Lib.hid (bthen A.out hb)
          clear hb
          generalize World.alloc w4 _ = w5 at *
          unfold pfl at E
          cases hf0 : flp ns 0
          · rw [hf0] at HF0 E
            have T2s := T2.out.1
            have T2c := T2.out.2
            go_wp2_with fail
            clear T2s T2c
            refine (HF0.out _ H0.out).mono ?_
            rintro e w6 ⟨rfl, hb⟩
            replace T1 := Lib.hid (T1.out.below hb)
            replace H0 := Lib.hid (H0.out.below hb)
            replace T2 := Lib.hid (T2.out.below hb)
            replace A := Lib.hid (bthen A.out hb)
            clear hb
            go_wp2
            go_ret
            exact ⟨by rw [E.out]; rfl, A.out⟩
          · rw [hf0] at HF0 E
            cases hf2 : flp ns 2
            · rw [hf2] at HF2 E
              have T2s := T2.out.1
              have T2c := T2.out.2
              go_wp2_with fail
              clear T2s T2c
              refine (HF0.out _ H0.out).mono ?_
              rintro e w6 ⟨rfl, hb⟩
              replace T1 := Lib.hid (T1.out.below hb)
              replace H0 := Lib.hid (H0.out.below hb)
              replace T2 := Lib.hid (T2.out.below hb)
              replace A := Lib.hid (bthen A.out hb)
              clear hb
              have T2s := T2.out.1
              have T2c := T2.out.2
              go_wp2_with fail
              clear T2s T2c
              refine (HF2.out _ H0.out).mono ?_
              rintro e w7 ⟨rfl, hb⟩
              replace T1 := Lib.hid (T1.out.below hb)
              replace H0 := Lib.hid (H0.out.below hb)
              replace T2 := Lib.hid (T2.out.below hb)
              replace A := Lib.hid (bthen A.out hb)
              clear hb
              go_wp2
              go_ret
              exact ⟨by rw [E.out]; rfl, A.out⟩
            · rw [hf2] at HF2 E
              have T2s := T2.out.1
              have T2c := T2.out.2
              go_wp2_with fail
              clear T2s T2c
              refine (HF0.out _ H0.out).mono ?_
              rintro e w6 ⟨rfl, hb⟩
              replace T1 := Lib.hid (T1.out.below hb)
              replace H0 := Lib.hid (H0.out.below hb)
              replace T2 := Lib.hid (T2.out.below hb)
              replace A := Lib.hid (bthen A.out hb)
              clear hb
              have T2s := T2.out.1
              have T2c := T2.out.2
              go_wp2_with fail
              clear T2s T2c
              refine (HF2.out _ H0.out).mono ?_
              rintro e w7 ⟨rfl, hb⟩
              replace T1 := Lib.hid (T1.out.below hb)
              replace H0 := Lib.hid (H0.out.below hb)
              replace T2 := Lib.hid (T2.out.below hb)
              replace A := Lib.hid (bthen A.out hb)
              clear hb
              have T2s := T2.out.1
              have T2c := T2.out.2
              go_wp2_with fail
              clear T2s T2c
              refine (HF8.out _ H0.out).mono ?_
              rintro e w8 ⟨rfl, hb⟩
              replace T1 := Lib.hid (T1.out.below hb)
              replace H0 := Lib.hid (H0.out.below hb)
              replace T2 := Lib.hid (T2.out.below hb)
              replace A := Lib.hid (bthen A.out hb)
              clear hb
              go_wp2
              go_ret
              exact ⟨by rw [E.out]; rfl, A.out⟩
    · have E : Hid (psOk n xs = false) := Lib.hid (by unfold psOk frOk; rw [decide_eq_false h2]; simp)
      have d2 : ((xs.length : Int) == n) = false := beq_eq_false_iff_ne.2 h2
      have d3 : ((xs.length : Int) != n) = true := bne_iff_ne.2 h2
      have HQ := Lib.hid (fun m => q_inRange h1 (w.alloc (.cells #[.int .i64 n, .slice A0 xs.length c0] 29)) m)
      have HS := Lib.hid (fun m => q_size H0.out m)
      clear h1 h2 hk0
      go_enter Tryz.func76, Tryz.ntmps76
      go_wp2
      go_quiet ((first | (go_at_call 115; exact HQ.out _) | (go_at_call 78; exact HS.out _)))
      go_wp2
      go_ret
      exact ⟨by rw [E.out]; rfl, below_drewN HB.out _⟩
set_option maxHeartbeats 1000000 in
set_option maxRecDepth 100000 in
theorem spec_l16Is (n : Int) (v : Value) (xs : List Int) (w : World) (h : Sl cI w v xs) (hl : xs.length ≤ 1073741824) :
    Calls Tryz.prog 42 #[.agg #[.int .i64 n, v]] w fun e w' => e = .returned (.bool (psOk n xs)) ∧ Below w.heap.size w w' := by
  obtain ⟨A0, c0, rfl⟩ := h.opn
  have hb0 := below_alloc' w (.cells #[.int .i64 n, .slice A0 xs.length c0] 29)
  have H0 := Lib.hid (h.below hb0)
  have HB := Lib.hid hb0
  have hk0 := Bk.new w #[.int .i64 n, .slice A0 xs.length c0] 29
  clear h hb0
  cases h1 : inR n 0 8
  · have E : Hid (psOk n xs = false) := Lib.hid (by unfold psOk frOk; rw [h1]; rfl)
    have H1 := Lib.hid (fun W => h1 ▸ spec_l01In n 0 8 W)
    clear h1 hk0
    go_enter Tryz.func42, Tryz.ntmps42
    go_wp2_with fail
    refine (H1.out _).mono ?_
    rintro e w1 ⟨rfl, rfl⟩
    go_wp2
    go_ret
    exact ⟨by rw [E.out]; rfl, HB.out⟩
  · have hr := inR_iff.1 h1
    by_cases h2 : (xs.length : Int) = n
    · subst h2
      have H1 := Lib.hid (fun W => h1 ▸ spec_l01In (xs.length : Int) 0 8 W)
      cases h3 : relOk xs
      · have E : Hid (psOk xs.length xs = false) := Lib.hid (by unfold psOk frOk; rw [h3]; simp)
        have HR := Lib.hid (fun W (hW : Sl cI W (.slice A0 xs.length c0) xs) => (show msks (xs.length : Int) xs = false by rw [← h3]; unfold relOk; rw [msks_mk hr]) ▸ spec_l01Masks _ _ xs W hW hl hr.1 (by omega))
        have T1 := Lib.hid hk0
        have c1 : (w.alloc (.cells #[.int .i64 (xs.length : Int), .slice A0 xs.length c0] 29)).cell? ⟨w.heap.size, 0, none⟩ = some (.int .i64 xs.length) := hk0.2 0
        have c2 : (w.alloc (.cells #[.int .i64 (xs.length : Int), .slice A0 xs.length c0] 29)).cell? ⟨w.heap.size, 1, none⟩ = some (.slice A0 xs.length c0) := hk0.2 1
        have hlt := hk0.1
        clear h1 h3 hk0
        go_enter Tryz.func42, Tryz.ntmps42
        go_wp2_with fail
        refine (H1.out _).mono ?_
        rintro e w1 ⟨rfl, rfl⟩
        go_wp2_with fail
        refine (HR.out _ H0.out).mono ?_
        rintro e w3 ⟨rfl, hb⟩
        replace T1 := Lib.hid (T1.out.below hb)
        replace H0 := Lib.hid (H0.out.below hb)
        have A := Lib.hid (HB.out.trans (hb.mono HB.out.size))
        clear hb HB c1 c2 hlt
        go_wp2
        go_ret
        exact ⟨by rw [E.out]; rfl, A.out⟩
      · have h4 : frOk xs.length xs = true := by unfold frOk; rw [h1, h3, decide_eq_true rfl]; rfl
        have HR := Lib.hid (fun W (hW : Sl cI W (.slice A0 xs.length c0) xs) => (show msks (xs.length : Int) xs = true by rw [← h3]; unfold relOk; rw [msks_mk hr]) ▸ spec_l01Masks _ _ xs W hW hl hr.1 (by omega))
        obtain ⟨ns, rfl, -, hrn⟩ := frOk_iff h4
        have E : Hid (psOk (li ns).length (li ns) = pfl ns) := Lib.hid (by unfold psOk; rw [h4, nL_li]; rfl)
        have EL := li_length ns
        have HF0 := Lib.hid (fun W (hW : Sl cI W (.slice A0 (li ns).length c0) (li ns)) => spec_l05Flag_p ns 0 (by decide) _ W hW hrn)
        have HF2 := Lib.hid (fun W (hW : Sl cI W (.slice A0 (li ns).length c0) (li ns)) => spec_l05Flag_p ns 2 (by decide) _ W hW hrn)
        have HF8 := Lib.hid (fun W (hW : Sl cI W (.slice A0 (li ns).length c0) (li ns)) => spec_l05Flag_p ns 8 (by decide) _ W hW hrn)
        rw [EL] at H0 hk0 H1 HR E HB HF0 HF2 HF8 ⊢
        have T1 := Lib.hid hk0
        have c1 : (w.alloc (.cells #[.int .i64 (ns.length : Int), .slice A0 ns.length c0] 29)).cell? ⟨w.heap.size, 0, none⟩ = some (.int .i64 ns.length) := hk0.2 0
        have c2 : (w.alloc (.cells #[.int .i64 (ns.length : Int), .slice A0 ns.length c0] 29)).cell? ⟨w.heap.size, 1, none⟩ = some (.slice A0 ns.length c0) := hk0.2 1
        have hlt := hk0.1
        clear h1 h3 hk0 h4
        go_enter Tryz.func42, Tryz.ntmps42
        go_wp2_with fail
        refine (H1.out _).mono ?_
        rintro e w1 ⟨rfl, rfl⟩
        go_wp2_with fail
        refine (HR.out _ H0.out).mono ?_
        rintro e w3 ⟨rfl, hb⟩
        replace T1 := Lib.hid (T1.out.below hb)
        replace H0 := Lib.hid (H0.out.below hb)
        have A := Lib.hid (HB.out.trans (hb.mono HB.out.size))
        clear hb HB c1 c2 hlt
        have T1s := T1.out.1
        have T1c := T1.out.2
        go_upto_region 4 with fail
        clear T1s T1c
        have hb := below_alloc' w3 (.cells #[.int .i64 (ns.length : Int), .slice A0 ns.length c0] 68)
        have T2 := Lib.hid (Bk.new w3 #[.int .i64 (ns.length : Int), .slice A0 ns.length c0] 68)
        replace T1 := Lib.hid (T1.out.below hb)
        replace H0 := Lib.hid (H0.out.below hb)
        replace A := Lib.hid (bthen A.out hb)
        clear hb
        generalize World.alloc w3 _ = w4 at *
        unfold pfl at E
        cases hf0 : flp ns 0
        · rw [hf0] at HF0 E
          have T2s := T2.out.1
          have T2c := T2.out.2
          go_wp2_with fail
          clear T2s T2c
          refine (HF0.out _ H0.out).mono ?_
          rintro e w5 ⟨rfl, hb⟩
          replace T1 := Lib.hid (T1.out.below hb)
          replace H0 := Lib.hid (H0.out.below hb)
          replace T2 := Lib.hid (T2.out.below hb)
          replace A := Lib.hid (bthen A.out hb)
          clear hb
          go_wp2
          go_ret
          exact ⟨by rw [E.out]; rfl, A.out⟩
        · rw [hf0] at HF0 E
          cases hf2 : flp ns 2
          · rw [hf2] at HF2 E
            have T2s := T2.out.1
            have T2c := T2.out.2
            go_wp2_with fail
            clear T2s T2c
            refine (HF0.out _ H0.out).mono ?_
            rintro e w5 ⟨rfl, hb⟩
            replace T1 := Lib.hid (T1.out.below hb)
            replace H0 := Lib.hid (H0.out.below hb)
            replace T2 := Lib.hid (T2.out.below hb)
            replace A := Lib.hid (bthen A.out hb)
            clear hb
            have T2s := T2.out.1
            have T2c := T2.out.2
            go_wp2_with fail
            clear T2s T2c
            refine (HF2.out _ H0.out).mono ?_
            rintro e w6 ⟨rfl, hb⟩
            replace T1 := Lib.hid (T1.out.below hb)
            replace H0 := Lib.hid (H0.out.below hb)
            replace T2 := Lib.hid (T2.out.below hb)
            replace A := Lib.hid (bthen A.out hb)
            clear hb
            go_wp2
            go_ret
            exact ⟨by rw [E.out]; rfl, A.out⟩
          · rw [hf2] at HF2 E
            have T2s := T2.out.1
            have T2c := T2.out.2
            go_wp2_with fail
            clear T2s T2c
            refine (HF0.out _ H0.out).mono ?_
            rintro e w5 ⟨rfl, hb⟩
            replace T1 := Lib.hid (T1.out.below hb)
            replace H0 := Lib.hid (H0.out.below hb)
            replace T2 := Lib.hid (T2.out.below hb)
            replace A := Lib.hid (bthen A.out hb)
            clear hb
            have T2s := T2.out.1
            have T2c := T2.out.2
            go_wp2_with fail
            clear T2s T2c
            refine (HF2.out _ H0.out).mono ?_
            rintro e w6 ⟨rfl, hb⟩
            replace T1 := Lib.hid (T1.out.below hb)
            replace H0 := Lib.hid (H0.out.below hb)
            replace T2 := Lib.hid (T2.out.below hb)
            replace A := Lib.hid (bthen A.out hb)
            clear hb
            have T2s := T2.out.1
            have T2c := T2.out.2
            go_wp2_with fail
            clear T2s T2c
            refine (HF8.out _ H0.out).mono ?_
            rintro e w7 ⟨rfl, hb⟩
            replace T1 := Lib.hid (T1.out.below hb)
            replace H0 := Lib.hid (H0.out.below hb)
            replace T2 := Lib.hid (T2.out.below hb)
            replace A := Lib.hid (bthen A.out hb)
            clear hb
            go_wp2
            go_ret
            exact ⟨by rw [E.out]; rfl, A.out⟩
    · have E : Hid (psOk n xs = false) := Lib.hid (by unfold psOk frOk; rw [decide_eq_false h2]; simp)
      have d2 : ((xs.length : Int) == n) = false := beq_eq_false_iff_ne.2 h2
      have d3 : ((xs.length : Int) != n) = true := bne_iff_ne.2 h2
      have H1 := Lib.hid (fun W => h1 ▸ spec_l01In n 0 8 W)
      clear h1 h2 hk0
      go_enter Tryz.func42, Tryz.ntmps42
      go_wp2_with fail
      refine (H1.out _).mono ?_
      rintro e w1 ⟨rfl, rfl⟩
      go_wp2
      go_ret
      exact ⟨by rw [E.out]; rfl, HB.out⟩
end Go.Proofs.YtkdldfomdbgcaaaGreat
