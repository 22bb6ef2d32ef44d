/- Contracts of the reference: the search decides validity (written by gen23T.py). -/
import Derived.Test.YtaigiopoogbbbaaGreatY42
import Derived.Test.YtaigiopoogbbbaaGreatY15
namespace Go.Proofs.YtaigiopoogbbbaaGreat
open Go.RowKit
set_option linter.unusedVariables false
set_option linter.unusedSimpArgs false
def gdF1 (f : Fm) : Prop := f.ok = true ∧ f.plain = true ∧ (enc f).length ≤ 40
def SrOK (N : Nat) : Prop := ∀ (ps : List (Hd × Fm)) (f : Fm) (v u : Value) (W : World), swL (fs2 ps) + sw f ≤ N → gdI (fs2 ps) → gdF1 f → FsR W v ps → Sl cN W u (enc f) →
  Calls Tryz.prog 27 #[v, u] W fun e w' => e = .returned (.bool (vlB (fs2 ps) f)) ∧ Below W.heap.size W w'
/-- nothing to be done at once with the formula at a place -/
def Stk (ps : List (Hd × Fm)) (k : Nat) : Prop := ∀ h : k < ps.length, (∃ s, (ps[k]'h).2 = .var s) ∨ (∃ s b, (ps[k]'h).2 = .bin .imp (.var s) b ∧ hasF (rst ps k) (.var s) = false) ∨ ∃ x y b, (ps[k]'h).2 = .bin .imp (.bin .imp x y) b
theorem stk_irr {ps : List (Hd × Fm)} (h : ∀ k, k < ps.length → Stk ps k) : Irr (fs2 ps) := fun f hf => by
  obtain ⟨q, hq, rfl⟩ := List.mem_map.1 hf
  obtain ⟨k, hk, rfl⟩ := List.mem_iff_getElem.1 hq
  rcases h k hk hk with h1 | ⟨s, b, h1, h2⟩ | h1
  · exact .inl h1
  · refine .inr (.inl ⟨s, b, h1, fun hm => ?_⟩)
    rcases (rst_mem ps hk _).1 hm with h3 | h3
    · rw [h1] at h3; cases h3
    · exact hasF_no h2 h3
  · exact .inr (.inr h1)
theorem wth_val1 {G : List Fm} {ps : List (Hd × Fm)} {h : Hd} {a c : Fm} (hv : Val G c ↔ Val ([a] ++ fs2 ps) c) : Val G c ↔ Val (fs2 (wth ps [(h, a)])) c :=
  hv.trans (Val.congr fun x => by rw [wth_mem, List.mem_append]; rfl)
theorem wth_val2 {G : List Fm} {ps : List (Hd × Fm)} {h h' : Hd} {a b c : Fm} (hv : Val G c ↔ Val ([a, b] ++ fs2 ps) c) : Val G c ↔ Val (fs2 (wth ps [(h, a), (h', b)])) c :=
  hv.trans (Val.congr fun x => by rw [wth_mem, List.mem_append]; rfl)
theorem gdI_one {h : Hd} {a : Fm} (ha : gdF1 a) : gdI (fs2 [(h, a)]) := fun f hf => by
  obtain ⟨q, hq, rfl⟩ := List.mem_map.1 hf
  rw [List.mem_singleton.1 hq]; exact ha
theorem gdI_two {h h' : Hd} {a b : Fm} (ha : gdF1 a) (hb : gdF1 b) : gdI (fs2 [(h, a), (h', b)]) := fun f hf => by
  obtain ⟨q, hq, rfl⟩ := List.mem_map.1 hf
  simp only [List.mem_cons, List.not_mem_nil, or_false] at hq
  rcases hq with rfl | rfl
  · exact ha
  · exact hb
theorem gd_bin {k : BK} {a b : Fm} (h : gdF1 (.bin k a b)) : gdF1 a ∧ gdF1 b := by
  obtain ⟨h1, h2, h3⟩ := h
  simp only [Fm.ok, Bool.and_eq_true] at h1
  simp only [Fm.plain, Bool.and_eq_true] at h2
  simp only [enc, List.length_cons, List.length_append] at h3
  exact ⟨⟨h1.1, h2.1, by omega⟩, ⟨h1.2, h2.2, by omega⟩⟩
theorem gd_imp {a b : Fm} (ha : a.ok = true ∧ a.plain = true) (hb : b.ok = true ∧ b.plain = true) (hl : (enc a).length + (enc b).length + 1 ≤ 40) : gdF1 (.bin .imp a b) :=
  ⟨by simp [Fm.ok, ha.1, hb.1], by simp [Fm.plain, ha.2, hb.2], by simp only [enc, List.length_cons, List.length_append]; omega⟩
theorem len_bin (k : BK) (a b : Fm) : (enc (.bin k a b)).length = 1 + (enc a).length + (enc b).length := by simp only [enc, List.length_cons, List.length_append]; omega
theorem rst_sl {w : World} {b o n c : Nat} {ps : List (Hd × Fm)} (h : FsR w (.slice (some ⟨b, o, none⟩) n c) ps) {j : Nat} (hj : j < ps.length) :
    Sl cH w (.slice (some ⟨b, o, none⟩) j c) ((ps.map (·.1)).take j) ∧ Sl cH w (.slice (if c = j + 1 then some ⟨b, o, none⟩ else some ⟨b, o + (j + 1), none⟩) (n - (j + 1)) (c - (j + 1))) ((ps.map (·.1)).drop (j + 1)) := by
  obtain ⟨hn, hc, hm⟩ := h.1.cap
  rw [List.length_map] at hn hc
  subst hn
  have hlen : (ps.map (·.1)).length = ps.length := List.length_map ..
  refine ⟨h.1.cut0 (j := j) (c' := c) (by omega) (by omega) hm, ?_⟩
  by_cases he : c = j + 1
  · rw [if_pos he]
    have hd : (ps.map (·.1)).drop (j + 1) = [] := List.drop_of_length_le (by omega)
    rw [hd]
    have h9 := h.1.cutAt (A' := some ⟨b, o + 0, none⟩) (n' := ps.length - (j + 1)) (i := 0) (j := 0) (c' := c - (j + 1)) (by omega) (by omega) (by omega) (fun b1 o1 e => by injection e with e; injection e with e1 e2; subst e1; subst e2; rfl) (by omega) (by omega)
    simpa using h9
  · rw [if_neg he]
    have h9 := h.1.cutAt (A' := some ⟨b, o + (j + 1), none⟩) (n' := ps.length - (j + 1)) (i := j + 1) (j := ps.length) (c' := c - (j + 1)) (by omega) (by omega) (by omega) (fun b1 o1 e => by injection e with e; injection e with e1 e2; subst e1; subst e2; simp [cH]) (by omega) (by omega)
    rw [List.take_of_length_le (by rw [List.length_drop]; omega)] at h9
    exact h9
theorem form_f {f : Fm} (h : gdF1 f) : (∃ k x y, f = .bin k x y) ∨ ((∃ s, f = .var s) ∨ f = .fls) := by
  cases f with
  | var s => exact .inr (.inl ⟨s, rfl⟩)
  | fls => exact .inr (.inr rfl)
  | bin k x y => exact .inl ⟨k, x, y, rfl⟩
  | un k x => have := h.2.1; simp [Fm.plain] at this
/-- no choice at a place -/
def NoC (ps : List (Hd × Fm)) (f : Fm) (k : Nat) : Prop := ∀ h : k < ps.length, ∀ x y b, (ps[k]'h).2 = .bin .imp (.bin .imp x y) b → ¬ (Val ([.bin .imp y b] ++ fs2 (rst ps k)) (.bin .imp x y) ∧ Val ([b] ++ fs2 (rst ps k)) f)
theorem noC_all {ps : List (Hd × Fm)} {f : Fm} (hG : Irr (fs2 ps)) (hc : (∃ s, f = .var s ∧ .var s ∉ fs2 ps) ∨ f = .fls ∨ ∃ a b, f = .bin .or a b) (hno : ∀ k, k < ps.length → NoC ps f k) (hor : ∀ a b, f = .bin .or a b → ¬ Val (fs2 ps) a ∧ ¬ Val (fs2 ps) b) : vlB (fs2 ps) f = false := by
  rw [← Bool.not_eq_true, vlB_iff]
  refine irr_val hG hc (fun x y b hm => ?_) hor
  obtain ⟨q, hq, e⟩ := List.mem_map.1 hm
  obtain ⟨k, hk, rfl⟩ := List.mem_iff_getElem.1 hq
  exact ⟨fs2 (rst ps k), e ▸ rst_mem ps hk, hno k hk hk x y b e⟩
theorem wth_ii {rs : List (Hd × Fm)} {h h' : Hd} {x y b : Fm} : Val ([.bin .imp y b] ++ fs2 rs) (.bin .imp x y) ↔ Val (fs2 (wth rs [(h, .bin .imp y b), (h', x)])) y :=
  Val.impR.trans (Val.congr fun z => by
    rw [wth_mem]
    simp only [fs2, List.map_cons, List.map_nil, List.mem_append, List.mem_cons, List.not_mem_nil, or_false]
    constructor
    · rintro (h | h | h)
      · exact .inl (.inr h)
      · exact .inl (.inl h)
      · exact .inr h
    · rintro ((h | h) | h)
      · exact .inr (.inl h)
      · exact .inl h
      · exact .inr (.inr h))
theorem lftI (k : BK) (x y : Fm) (v : Value) (W : World) (h : Sl cN W v (enc (.bin k x y))) (hl : (enc (.bin k x y)).length ≤ 40) :
    Calls Tryz.prog 43 #[v] W fun e w' => ∃ A c, e = .returned (.slice A (enc x).length c) ∧ Sl cN W (.slice A (enc x).length c) (enc x) ∧ W = w' :=
  (spec_l02Left v (k.i, 0) x (enc y) W h (by show (enc (.bin k x y)).length ≤ _; omega)).mono fun e w' ⟨u, he, hs, hw⟩ => by
    obtain ⟨A, c, rfl⟩ := hs.opn
    exact ⟨A, c, he, hs, hw⟩
theorem rgtI (k : BK) (x y : Fm) (v : Value) (W : World) (h : Sl cN W v (enc (.bin k x y))) (hl : (enc (.bin k x y)).length ≤ 40) :
    Calls Tryz.prog 44 #[v] W fun e w' => ∃ A c, e = .returned (.slice A (enc y).length c) ∧ Sl cN W (.slice A (enc y).length c) (enc y) ∧ W = w' :=
  (spec_l02Right v (k.i, 0) x y W h (by show (enc (.bin k x y)).length ≤ _; omega)).mono fun e w' ⟨u, he, hs, hw⟩ => by
    obtain ⟨A, c, rfl⟩ := hs.opn
    exact ⟨A, c, he, hs, hw⟩
theorem prI (x y : Fm) (v u : Value) (W : World) (h : Sl cN W v (enc x)) (h' : Sl cN W u (enc y)) (hl : (enc x).length ≤ 40) (hl' : (enc y).length ≤ 40) :
    Calls Tryz.prog 45 #[.int .i64 4, v, u] W fun e w' => ∃ A c, e = .returned (.slice A (enc (.bin .imp x y)).length c) ∧ Sl cN w' (.slice A (enc (.bin .imp x y)).length c) (enc (.bin .imp x y)) ∧ Below W.heap.size W w' :=
  (spec_l02Pair 4 v u (enc x) (enc y) W h h' (by omega) (by omega)).mono fun e w' ⟨r, he, ho, hb⟩ => by
    have h2 : Sl cN w' r (enc (.bin .imp x y)) := ho.sl
    obtain ⟨A, c, rfl⟩ := h2.opn
    exact ⟨A, c, he, h2, hb⟩
theorem wth_meas (rs ms : List (Hd × Fm)) {n a b : Nat} (h1 : swL (fs2 ms) + a < n + b) : swL (fs2 (wth rs ms)) + a < swL (fs2 rs) + n + b := by
  have := wth_sw rs ms
  omega
theorem sw1 (h : Hd) (a : Fm) : swL (fs2 [(h, a)]) = sw a := by simp [fs2, swL]
theorem sw2 (h h' : Hd) (a b : Fm) : swL (fs2 [(h, a), (h', b)]) = sw a + sw b := by simp [fs2, swL]
set_option maxRecDepth 100000 in
set_option maxHeartbeats 4000000 in
theorem spec_l23Search_step (N : Nat) (hN : N ≤ 190000) (ih : ∀ M, M < N → SrOK M) : SrOK N := by
  intro ps f v u w hsw hg hf h h'
  obtain ⟨A, c, rfl⟩ := h.opn
  obtain ⟨B, d, rfl⟩ := h'.opn
  have hln : ps.length ≤ N := by have := swL_len (fs2 ps); simp only [fs2, List.length_map] at this hsw; omega
  have H := Lib.hid h
  have HF := Lib.hid h'
  have HG := Lib.hid hg
  have HFG := Lib.hid hf
  have hf40 := hf.2.2
  have IH := Lib.hid (fun (qs : List (Hd × Fm)) (g : Fm) v u W (h1 : swL (fs2 qs) + sw g < swL (fs2 ps) + sw f) (h2 : gdI (fs2 qs)) (h3 : gdF1 g) h4 h5 => ih (swL (fs2 qs) + sw g) (by omega) qs g v u W (Nat.le_refl _) h2 h3 h4 h5)
  obtain ⟨hcn, hcm⟩ : ps.length ≤ c ∧ c ≤ 9223372036854775807 := by
    obtain ⟨-, h1, h2⟩ := h.1.cap
    rw [List.length_map] at h1
    exact ⟨h1, h2⟩
  clear h h' hg hf ih
  have hfp := enc_pos f
  go_enter Tryz.func27, Tryz.ntmps27
  go_wp2_with fail
  refine (spec_l23Has ps f _ _ _ H.out HF.out (by omega) HG.out hf40).mono ?_
  rintro e w1 ⟨rfl, hb⟩
  have B1 := Lib.hid hb
  have R1 := Lib.hid (H.out.below hb)
  clear hb
  cases hhf : hasF ps f
  case true =>
    have HV : Hid (vlB (fs2 ps) f = true) := Lib.hid (vlB_true (Val.ax (hasF_iff.1 hhf)))
    clear hhf
    go_wp2
    go_ret
    exact ⟨by rw [HV.out]; rfl, B1.out⟩
  case false =>
  have HNF := Lib.hid (hasF_no hhf)
  clear hhf
  go_wp2_with fail
  refine (spec_l02False _).mono ?_
  rintro e w2 ⟨u2, rfl, ho, hb⟩
  have S2 : Hid (Sl cN w2 u2 (enc .fls)) := Lib.hid ho.sl
  have B2 := Lib.hid (bthen B1.out hb)
  have R2 := Lib.hid (R1.out.below hb)
  clear ho hb
  go_wp2_with fail
  refine (spec_l23Has ps .fls _ _ _ R2.out S2.out (by omega) HG.out (by decide)).mono ?_
  rintro e w3 ⟨rfl, hb⟩
  have B3 := Lib.hid (bthen B2.out hb)
  clear hb S2 R1 R2 B1 B2
  cases hhf : hasF ps .fls
  case true =>
    have HV : Hid (vlB (fs2 ps) f = true) := Lib.hid (vlB_true (Val.flsL (hasF_iff.1 hhf)))
    clear hhf
    go_wp2
    go_ret
    exact ⟨by rw [HV.out]; rfl, B3.out⟩
  case false =>
  have HNL := Lib.hid (hasF_no hhf)
  clear hhf
  go_wp2
  go_loopw [5, 6, 7, 8, 9] (fun i a6 a7 a8 a9 wr => ∃ j : Nat, j ≤ ps.length ∧ i = .int .i64 j ∧ (∀ k, k < j → Stk ps k) ∧ Below w.heap.size w wr) (fun i _ _ _ _ _ => ps.length - (intOf i).toNat)
  case atStart => exact ⟨0, Nat.zero_le _, rfl, fun k hk => absurd hk (Nat.not_lt_zero _), B3.out⟩
  case round =>
    clear B3
    obtain ⟨j, hj, rfl, hst, hb⟩ := hrel
    obtain ⟨w4, hw4⟩ : ∃ W, W = wr := ⟨_, rfl⟩
    subst hw4
    have STK := Lib.hid hst
    have B4 := Lib.hid hb
    have R4 := Lib.hid (H.out.below hb)
    have F4 := Lib.hid (HF.out.below hb)
    clear hst hb
    by_cases hlt : j < ps.length
    · have i1 : (j : Int) < (ps.length : Int) := by omega
      have i2 : (j : Int) + 1 ≤ (ps.length : Int) := by omega
      have i3 : (j : Int) ≤ (c : Int) := by omega
      have i4 : (ps.length : Int) ≤ (c : Int) := by omega
      have i5 : j ≤ c := by omega
      obtain ⟨b, o, Ai, ci, rfl, hbl, hc, hs⟩ := R4.out.at_ hlt
      go_upto_region 7 with fail
      obtain ⟨sl1, sl2⟩ := rst_sl R4.out hlt
      obtain ⟨m1, hm1⟩ : ∃ m, j + 1 = m := ⟨_, rfl⟩
      rw [hm1] at sl2
      have hwr : IntKind.i64.wrap ((j : Int) + 1) = (m1 : Int) := by rw [← hm1, IntWalk.i64_in _ ⟨by omega, by omega⟩]; omega
      have hm1n : (m1 : Int) ≤ (ps.length : Int) := by omega
      have hm1z : (0 : Int) ≤ (m1 : Int) := by omega
      have HM1 := Lib.hid hm1
      have SL1 := Lib.hid sl1
      have SL2 := Lib.hid sl2
      clear sl1 sl2 hm1
      have hI : Below w4.heap.size w4 (World.drew w4) := (Below.refl _ _).drew
      refine wp_region_sched (Below w4.heap.size w4) 10 [1, 2, 3, 5, 6, 7, 8] [1, 2, 3, 5, 6, 7, 8, 0, 4, 9] (by kernel_rfl) (by kernel_rfl) hI ?_
      repeat
        apply wpSched_q rfl rfl
        case h =>
          intro w' hI K hK
          simp only [quietV, stillV]
          go_simp
          exact hK
        go_simp
      refine wpSched_r rfl rfl ?_ hI
      intro K hK _
      go_simp
      have hI1 : Below w4.heap.size w4 (World.drew (World.alloc w4 (.cells #[] 37))) := (below_alloc' _ _).drew
      refine hK _ _ hI1 ?_
      clear hK K
      have O0 : Hid (Ow cH 37 w4.heap.size (World.drew (World.alloc w4 (.cells #[] 37))) (.slice (some ⟨w4.heap.size, 0, none⟩) 0 0) []) := Lib.hid ((Ow.lit (K := cH) (w := w4) [] rfl rfl (Nat.le_refl _)).drewN 1)
      have SL1 := Lib.hid (SL1.out.below hI1)
      have SL2 := Lib.hid (SL2.out.below hI1)
      generalize World.drew (World.alloc w4 _) = wq at *
      refine wpSched_r rfl rfl ?_ hI1
      intro K hK _
      refine step_slS (K := cH) wq ty_fms rfl _ _ rfl (B := w4.heap.size) (v := .slice (some ⟨w4.heap.size, 0, none⟩) 0 0) (u := .slice (some ⟨b, o, none⟩) j c) (xs := []) (news := (ps.map (·.1)).take j) (by simp [Act.eval, Act.put]; done) O0.out (by simp [Act.eval, Act.put]; done) SL1.out (by simp only [List.length_nil, List.length_take, List.length_map]; omega) hI1.size ?_
      intro v6 w6 ho hg1 hb1 hat
      rw [List.nil_append] at ho
      have hI6 : Below w4.heap.size w4 w6 := hI1.trans hb1
      have SL2 := Lib.hid (SL2.out.keptAt hg1.size fun p hp hv => (hg1.cell_far p hp (fun e => by
        have h1 : (Value.slice (if c = m1 then some ⟨b, o, none⟩ else some ⟨b, o + m1, none⟩) (ps.length - m1) (c - m1)).ownBlock = some p.block := hv
        have h2 : b = p.block := by split at h1 <;> simpa [Value.ownBlock] using h1
        have h3 : some p.block = some w4.heap.size := e
        injection h3 with h3
        omega)))
      obtain ⟨A6, c6, e6⟩ := ho.opn
      have hl6 : ((ps.map (·.1)).take j).length = j := by rw [List.length_take, List.length_map]; omega
      rw [hl6] at e6
      subst e6
      refine hK _ _ hI6 ?_
      clear hK K hat hg1 hb1
      refine wpSched_r rfl rfl ?_ hI6
      intro K hK _
      refine step_slS (K := cH) w6 ty_fms rfl _ _ rfl (B := w4.heap.size) (v := .slice A6 j c6) (u := .slice (if c = m1 then some ⟨b, o, none⟩ else some ⟨b, o + m1, none⟩) (ps.length - m1) (c - m1)) (xs := (ps.map (·.1)).take j) (news := (ps.map (·.1)).drop m1) (by simp [Act.eval, Act.put]; done) ho (by simp [Act.eval, Act.put]; done) SL2.out (by simp only [List.length_drop, List.length_take, List.length_map]; omega) hI6.size ?_
      intro v7 w7 ho hg1 hb1 hat
      have hI7 : Below w4.heap.size w4 w7 := hI6.trans hb1
      have er : (ps.map (·.1)).take j ++ (ps.map (·.1)).drop m1 = (rst ps j).map (·.1) := by rw [← HM1.out]; unfold rst; simp
      rw [er] at ho
      refine hK _ _ hI7 ?_
      clear hK K hat hg1 hb1 er
      refine wpSched_nil ?_
      try simp only [List.drop_succ_cons, List.drop_zero]
      have RR : Hid (FsR w7 v7 (rst ps j)) := Lib.hid ⟨ho.sl, fun p hp => (rst_all (P := fun p => Sl cN w4 p.1.val (enc p.2)) R4.out.2 p hp).below hI7⟩
      clear SL2
      generalize (if c = m1 then (some ⟨b, o, none⟩ : Option Addr) else some ⟨b, o + m1, none⟩) = A9 at *
      
      have hs7 := hs.below hI7
      have E7 := Lib.hid hs7
      have A := Lib.hid (bthen B4.out hI7)
      have R7 := Lib.hid (R4.out.below hI7)
      have F7 := Lib.hid (F4.out.below hI7)
      have HMm := Lib.hid (rst_mem ps hlt)
      have HSW := Lib.hid (rst_sw ps hlt)
      have hgr := rst_gd hlt HG.out
      have hfm : gdF1 (ps[j]).2 := HG.out _ ((rst_mem ps hlt _).2 (.inl rfl))
      have hrl := rst_len hlt
      have HNX : Hid (Stk ps j → ∀ k, k < j + 1 → Stk ps k) := Lib.hid fun h k hk => by
        rcases Nat.lt_or_ge k j with h1 | h1
        · exact STK.out k h1
        · obtain rfl : k = j := by omega
          exact h
      have HST : Hid (((∃ s, (ps[j]).2 = .var s) ∨ (∃ s b, (ps[j]).2 = .bin .imp (.var s) b ∧ hasF (rst ps j) (.var s) = false) ∨ ∃ x y b, (ps[j]).2 = .bin .imp (.bin .imp x y) b) → Stk ps j) := Lib.hid fun h _ => h
      have hrlN : (rst ps j).length ≤ 190000 := by omega
      clear hs hs7 hI7 ho hI hc hbl B4 R4 F4 STK SL1 O0 hI1 hI6 HM1 hm1n hm1z hwr hl6
      generalize (ps[j]).2 = fm at *
      obtain ⟨rs, hrs⟩ : ∃ rs, rst ps j = rs := ⟨_, rfl⟩
      rw [hrs] at RR HMm HSW HST hgr hrl hrlN
      clear hrs
      obtain ⟨Ar, cr, er⟩ := RR.out.opn
      subst er
      have hfm40 := hfm.2.2
      go_wp2_with fail
      refine (spec_l23Useless rs fm _ _ _ RR.out E7.out (by omega) hgr hfm40).mono ?_
      rintro e w21 ⟨rfl, hb⟩
      replace RR := Lib.hid (RR.out.below hb)
      replace E7 := Lib.hid (E7.out.below hb)
      replace R7 := Lib.hid (R7.out.below hb)
      replace F7 := Lib.hid (F7.out.below hb)
      replace A := Lib.hid (bthen A.out hb)
      clear hb
      cases hu : usl rs fm
      case true =>
        have HV := Lib.hid (vlB_eq (usl_val (c := f) HMm.out hu))
        have hsp := sw_pos fm
        clear hu
        go_wp2_with fail
        refine (IH.out rs f _ _ _ (by rw [HSW.out]; omega) hgr HFG.out RR.out F7.out).mono ?_
        rintro e w22 ⟨rfl, hb⟩
        replace RR := Lib.hid (RR.out.below hb)
        replace E7 := Lib.hid (E7.out.below hb)
        replace R7 := Lib.hid (R7.out.below hb)
        replace F7 := Lib.hid (F7.out.below hb)
        replace A := Lib.hid (bthen A.out hb)
        clear hb
        go_wp2
        go_ret
        exact ⟨by rw [HV.out]; rfl, A.out⟩
      case false =>
      have hep := enc_pos fm
      obtain ⟨bk1, ok1, ek1, hbk1, hck1⟩ := kdI_cell E7.out
      subst ek1
      cases fm with
      | var s =>
        have ek : kdI (.var s) = 0 := rfl
        rw [ek] at hck1
        clear ek
        have HN := Lib.hid (HNX.out (HST.out (.inl ⟨s, rfl⟩)))
        go_wp2
        go_roundw
        case rel => exact ⟨j + 1, by omega, by go_num, HN.out, A.out⟩
        case measure => simp [intOf]; omega
      | fls => exact absurd ((HMm.out .fls).2 (.inl rfl)) HNL.out
      | un k x => have h9 := hfm.2.1; simp [Fm.plain] at h9
      | bin k x y =>
        obtain ⟨hx, hy⟩ := gd_bin hfm
        have hx40 := hx.2.2
        have hy40 := hy.2.2
        cases k with
        | and =>
          have ek : kdI (.bin .and x y) = 2 := rfl
          rw [ek] at hck1
          clear ek hu
          go_wp2_with fail
          refine (lftI .and x y _ _ E7.out hfm40).mono ?_
          rintro e wz ⟨Ap2, cp2, rfl, hs, rfl⟩
          have X2 := Lib.hid hs
          clear hs
          go_wp2_with fail
          refine (rgtI .and x y _ _ E7.out hfm40).mono ?_
          rintro e wz ⟨Ap3, cp3, rfl, hs, rfl⟩
          have X3 := Lib.hid hs
          clear hs
          clear hck1 hbk1
          have hb := below_alloc' w21 (.cells #[.slice Ap2 (enc x).length cp2, .slice Ap3 (enc y).length cp3] 37)
          have M4 := Lib.hid (FsR.two X2.out X3.out 37)
          replace RR := Lib.hid (RR.out.below hb)
          replace E7 := Lib.hid (E7.out.below hb)
          replace R7 := Lib.hid (R7.out.below hb)
          replace F7 := Lib.hid (F7.out.below hb)
          replace X2 := Lib.hid (X2.out.below hb)
          replace X3 := Lib.hid (X3.out.below hb)
          replace A := Lib.hid (bthen A.out hb)
          clear hb
          go_wp2_with fail
          refine (spec_l23With rs [(⟨Ap2, (enc x).length, cp2⟩, x), (⟨Ap3, (enc y).length, cp3⟩, y)] _ _ _ RR.out M4.out (by simp only [List.length_cons, List.length_nil]; omega) hgr (gdI_two hx hy)).mono ?_
          rintro e w22 ⟨r4, rfl, s4, hb⟩
          replace RR := Lib.hid (RR.out.below hb)
          replace E7 := Lib.hid (E7.out.below hb)
          replace R7 := Lib.hid (R7.out.below hb)
          replace F7 := Lib.hid (F7.out.below hb)
          replace X2 := Lib.hid (X2.out.below hb)
          replace X3 := Lib.hid (X3.out.below hb)
          replace M4 := Lib.hid (M4.out.below hb)
          replace A := Lib.hid (bthen A.out hb)
          clear hb
          have T4 := Lib.hid s4
          clear s4 M4
          have HV := Lib.hid (vlB_eq (wth_val2 (h := ⟨Ap2, (enc x).length, cp2⟩) (h' := ⟨Ap3, (enc y).length, cp3⟩) (Val.andL (c := f) HMm.out)))
          go_wp2_with fail
          refine (IH.out (wth rs [(⟨Ap2, (enc x).length, cp2⟩, x), (⟨Ap3, (enc y).length, cp3⟩, y)]) f _ _ _ (by rw [HSW.out]; exact wth_meas rs _ (by rw [sw2]; have := sw_and x y; omega)) (wth_gd hgr (gdI_two hx hy)) HFG.out T4.out F7.out).mono ?_
          rintro e w23 ⟨rfl, hb⟩
          replace RR := Lib.hid (RR.out.below hb)
          replace E7 := Lib.hid (E7.out.below hb)
          replace R7 := Lib.hid (R7.out.below hb)
          replace F7 := Lib.hid (F7.out.below hb)
          replace X2 := Lib.hid (X2.out.below hb)
          replace X3 := Lib.hid (X3.out.below hb)
          replace T4 := Lib.hid (T4.out.below hb)
          replace A := Lib.hid (bthen A.out hb)
          clear hb
          go_wp2
          go_ret
          exact ⟨by rw [HV.out]; rfl, A.out⟩
        | or =>
          have ek : kdI (.bin .or x y) = 3 := rfl
          rw [ek] at hck1
          clear ek hu
          go_wp2_with fail
          refine (lftI .or x y _ _ E7.out hfm40).mono ?_
          rintro e wz ⟨Ap2, cp2, rfl, hs, rfl⟩
          have X2 := Lib.hid hs
          clear hs
          clear hck1 hbk1
          have hb := below_alloc' w21 (.cells #[.slice Ap2 (enc x).length cp2] 37)
          have M3 := Lib.hid (FsR.one X2.out 37)
          replace RR := Lib.hid (RR.out.below hb)
          replace E7 := Lib.hid (E7.out.below hb)
          replace R7 := Lib.hid (R7.out.below hb)
          replace F7 := Lib.hid (F7.out.below hb)
          replace X2 := Lib.hid (X2.out.below hb)
          replace A := Lib.hid (bthen A.out hb)
          clear hb
          go_wp2_with fail
          refine (spec_l23With rs [(⟨Ap2, (enc x).length, cp2⟩, x)] _ _ _ RR.out M3.out (by simp only [List.length_cons, List.length_nil]; omega) hgr (gdI_one hx)).mono ?_
          rintro e w22 ⟨r3, rfl, s3, hb⟩
          replace RR := Lib.hid (RR.out.below hb)
          replace E7 := Lib.hid (E7.out.below hb)
          replace R7 := Lib.hid (R7.out.below hb)
          replace F7 := Lib.hid (F7.out.below hb)
          replace X2 := Lib.hid (X2.out.below hb)
          replace M3 := Lib.hid (M3.out.below hb)
          replace A := Lib.hid (bthen A.out hb)
          clear hb
          have T3 := Lib.hid s3
          clear s3 M3
          have HO := Val.orL (c := f) HMm.out
          have HV1 := Lib.hid (vlB_eq (wth_val1 (h := ⟨Ap2, (enc x).length, cp2⟩) (Iff.refl (Val ([x] ++ fs2 rs) f))))
          go_wp2_with fail
          refine (IH.out (wth rs [(⟨Ap2, (enc x).length, cp2⟩, x)]) f _ _ _ (by rw [HSW.out]; exact wth_meas rs _ (by rw [sw1]; have := sw_or1 x y; omega)) (wth_gd hgr (gdI_one hx)) HFG.out T3.out F7.out).mono ?_
          rintro e w23 ⟨rfl, hb⟩
          replace RR := Lib.hid (RR.out.below hb)
          replace E7 := Lib.hid (E7.out.below hb)
          replace R7 := Lib.hid (R7.out.below hb)
          replace F7 := Lib.hid (F7.out.below hb)
          replace X2 := Lib.hid (X2.out.below hb)
          replace T3 := Lib.hid (T3.out.below hb)
          replace A := Lib.hid (bthen A.out hb)
          clear hb
          have HVO := Lib.hid (vlB_and HO)
          clear HO
          rw [HV1.out] at HVO
          clear HV1
          generalize vlB (fs2 (wth rs [(⟨Ap2, (enc x).length, cp2⟩, x)])) f = q1 at *
          cases q1
          case false =>
            rw [Bool.false_and] at HVO
            go_wp2
            go_ret
            exact ⟨by rw [HVO.out]; rfl, A.out⟩
          case true =>
            rw [Bool.true_and] at HVO
            go_wp2_with fail
            refine (rgtI .or x y _ _ E7.out hfm40).mono ?_
            rintro e wz ⟨Ap4, cp4, rfl, hs, rfl⟩
            have X4 := Lib.hid hs
            clear hs
            have hb := below_alloc' w23 (.cells #[.slice Ap4 (enc y).length cp4] 37)
            have M5 := Lib.hid (FsR.one X4.out 37)
            replace RR := Lib.hid (RR.out.below hb)
            replace E7 := Lib.hid (E7.out.below hb)
            replace R7 := Lib.hid (R7.out.below hb)
            replace F7 := Lib.hid (F7.out.below hb)
            replace X2 := Lib.hid (X2.out.below hb)
            replace T3 := Lib.hid (T3.out.below hb)
            replace X4 := Lib.hid (X4.out.below hb)
            replace A := Lib.hid (bthen A.out hb)
            clear hb
            go_wp2_with fail
            refine (spec_l23With rs [(⟨Ap4, (enc y).length, cp4⟩, y)] _ _ _ RR.out M5.out (by simp only [List.length_cons, List.length_nil]; omega) hgr (gdI_one hy)).mono ?_
            rintro e w24 ⟨r5, rfl, s5, hb⟩
            replace RR := Lib.hid (RR.out.below hb)
            replace E7 := Lib.hid (E7.out.below hb)
            replace R7 := Lib.hid (R7.out.below hb)
            replace F7 := Lib.hid (F7.out.below hb)
            replace X2 := Lib.hid (X2.out.below hb)
            replace T3 := Lib.hid (T3.out.below hb)
            replace X4 := Lib.hid (X4.out.below hb)
            replace M5 := Lib.hid (M5.out.below hb)
            replace A := Lib.hid (bthen A.out hb)
            clear hb
            have T5 := Lib.hid s5
            clear s5 M5
            have HV2 := Lib.hid (vlB_eq (wth_val1 (h := ⟨Ap4, (enc y).length, cp4⟩) (Iff.refl (Val ([y] ++ fs2 rs) f))))
            go_wp2_with fail
            refine (IH.out (wth rs [(⟨Ap4, (enc y).length, cp4⟩, y)]) f _ _ _ (by rw [HSW.out]; exact wth_meas rs _ (by rw [sw1]; have := sw_or2 x y; omega)) (wth_gd hgr (gdI_one hy)) HFG.out T5.out F7.out).mono ?_
            rintro e w25 ⟨rfl, hb⟩
            replace RR := Lib.hid (RR.out.below hb)
            replace E7 := Lib.hid (E7.out.below hb)
            replace R7 := Lib.hid (R7.out.below hb)
            replace F7 := Lib.hid (F7.out.below hb)
            replace X2 := Lib.hid (X2.out.below hb)
            replace T3 := Lib.hid (T3.out.below hb)
            replace X4 := Lib.hid (X4.out.below hb)
            replace T5 := Lib.hid (T5.out.below hb)
            replace A := Lib.hid (bthen A.out hb)
            clear hb
            rw [HV2.out] at HVO
            generalize vlB (fs2 (wth rs [(⟨Ap4, (enc y).length, cp4⟩, y)])) f = q2 at *
            cases q2 <;> skip
            all_goals
              go_wp2
              go_ret
              exact ⟨by rw [HVO.out]; rfl, A.out⟩
        | imp =>
          have ek : kdI (.bin .imp x y) = 4 := rfl
          rw [ek] at hck1
          clear ek
          go_wp2_with fail
          refine (lftI .imp x y _ _ E7.out hfm40).mono ?_
          rintro e wz ⟨Ap2, cp2, rfl, hs, rfl⟩
          have X2 := Lib.hid hs
          clear hs
          go_wp2_with fail
          refine (rgtI .imp x y _ _ E7.out hfm40).mono ?_
          rintro e wz ⟨Ap3, cp3, rfl, hs, rfl⟩
          have X3 := Lib.hid hs
          clear hs
          clear hck1 hbk1
          have hxp := enc_pos x
          obtain ⟨bk4, ok4, ek4, hbk4, hck4⟩ := kdI_cell X2.out
          subst ek4
          cases x with
          | var s =>
            have ek : kdI (.var s) = 0 := rfl
            rw [ek] at hck4
            clear ek hu
            go_wp2_with fail
            refine (spec_l23Has rs (.var s) _ _ _ RR.out X2.out (by omega) hgr hx40).mono ?_
            rintro e w22 ⟨rfl, hb⟩
            replace RR := Lib.hid (RR.out.below hb)
            replace E7 := Lib.hid (E7.out.below hb)
            replace R7 := Lib.hid (R7.out.below hb)
            replace F7 := Lib.hid (F7.out.below hb)
            replace X2 := Lib.hid (X2.out.below hb)
            replace X3 := Lib.hid (X3.out.below hb)
            replace A := Lib.hid (bthen A.out hb)
            clear hb
            clear hck4 hbk4
            cases hh : hasF rs (.var s)
            case false =>
              have HN := Lib.hid (HNX.out (HST.out (.inr (.inl ⟨s, y, rfl, hh⟩))))
              go_wp2
              go_roundw
              case rel => exact ⟨j + 1, by omega, by go_num, HN.out, A.out⟩
              case measure => simp [intOf]; omega
            case true =>
              have hb := below_alloc' w22 (.cells #[.slice Ap3 (enc y).length cp3] 37)
              have M5 := Lib.hid (FsR.one X3.out 37)
              replace RR := Lib.hid (RR.out.below hb)
              replace E7 := Lib.hid (E7.out.below hb)
              replace R7 := Lib.hid (R7.out.below hb)
              replace F7 := Lib.hid (F7.out.below hb)
              replace X2 := Lib.hid (X2.out.below hb)
              replace X3 := Lib.hid (X3.out.below hb)
              replace A := Lib.hid (bthen A.out hb)
              clear hb
              go_wp2_with fail
              refine (spec_l23With rs [(⟨Ap3, (enc y).length, cp3⟩, y)] _ _ _ RR.out M5.out (by simp only [List.length_cons, List.length_nil]; omega) hgr (gdI_one hy)).mono ?_
              rintro e w23 ⟨r5, rfl, s5, hb⟩
              replace RR := Lib.hid (RR.out.below hb)
              replace E7 := Lib.hid (E7.out.below hb)
              replace R7 := Lib.hid (R7.out.below hb)
              replace F7 := Lib.hid (F7.out.below hb)
              replace X2 := Lib.hid (X2.out.below hb)
              replace X3 := Lib.hid (X3.out.below hb)
              replace M5 := Lib.hid (M5.out.below hb)
              replace A := Lib.hid (bthen A.out hb)
              clear hb
              have T5 := Lib.hid s5
              clear s5 M5
              have HV := Lib.hid (vlB_eq (wth_val1 (h := ⟨Ap3, (enc y).length, cp3⟩) (Val.mp (c := f) HMm.out (hasF_iff.1 hh))))
              go_wp2_with fail
              refine (IH.out (wth rs [(⟨Ap3, (enc y).length, cp3⟩, y)]) f _ _ _ (by rw [HSW.out]; exact wth_meas rs _ (by rw [sw1]; have := sw_imp (.var s) y; omega)) (wth_gd hgr (gdI_one hy)) HFG.out T5.out F7.out).mono ?_
              rintro e w24 ⟨rfl, hb⟩
              replace RR := Lib.hid (RR.out.below hb)
              replace E7 := Lib.hid (E7.out.below hb)
              replace R7 := Lib.hid (R7.out.below hb)
              replace F7 := Lib.hid (F7.out.below hb)
              replace X2 := Lib.hid (X2.out.below hb)
              replace X3 := Lib.hid (X3.out.below hb)
              replace T5 := Lib.hid (T5.out.below hb)
              replace A := Lib.hid (bthen A.out hb)
              clear hb
              go_wp2
              go_ret
              exact ⟨by rw [HV.out]; rfl, A.out⟩
          | fls => exact absurd hu (by simp [usl, isfls])
          | un k x => have h9 := hx.2.1; simp [Fm.plain] at h9
          | bin k a b =>
            obtain ⟨ha, hb2⟩ := gd_bin hx
            have ha40 := ha.2.2
            have hb40 := hb2.2.2
            have hl1 := Lib.hid (len_bin .imp (.bin k a b) y)
            have hl2 := Lib.hid (len_bin k a b)
            cases k with
            | and =>
              have ek : kdI (.bin .and a b) = 2 := rfl
              rw [ek] at hck4
              clear ek hu
              go_wp2_with fail
              refine (lftI .and a b _ _ X2.out hx40).mono ?_
              rintro e wz ⟨Ap5, cp5, rfl, hs, rfl⟩
              have X5 := Lib.hid hs
              clear hs
              go_wp2_with fail
              refine (rgtI .and a b _ _ X2.out hx40).mono ?_
              rintro e wz ⟨Ap6, cp6, rfl, hs, rfl⟩
              have X6 := Lib.hid hs
              clear hs
              clear hck4 hbk4
              have hq1 : gdF1 (.bin .imp b y) := gd_imp ⟨hb2.1, hb2.2.1⟩ ⟨hy.1, hy.2.1⟩ (by have := hl1.out; have := hl2.out; omega)
              have hq140 := hq1.2.2
              have hl3 := Lib.hid (len_bin .imp b y)
              have hq2 : gdF1 (.bin .imp a (.bin .imp b y)) := gd_imp ⟨ha.1, ha.2.1⟩ ⟨hq1.1, hq1.2.1⟩ (by have := hl1.out; have := hl2.out; have := hl3.out; omega)
              go_wp2_with fail
              refine (prI b y _ _ _ X6.out X3.out hb40 hy40).mono ?_
              rintro e w22 ⟨Ap7, cp7, rfl, s7, hb⟩
              replace RR := Lib.hid (RR.out.below hb)
              replace E7 := Lib.hid (E7.out.below hb)
              replace R7 := Lib.hid (R7.out.below hb)
              replace F7 := Lib.hid (F7.out.below hb)
              replace X2 := Lib.hid (X2.out.below hb)
              replace X3 := Lib.hid (X3.out.below hb)
              replace X5 := Lib.hid (X5.out.below hb)
              replace X6 := Lib.hid (X6.out.below hb)
              replace A := Lib.hid (bthen A.out hb)
              clear hb
              have X7 := Lib.hid s7
              clear s7
              go_wp2_with fail
              refine (prI a (.bin .imp b y) _ _ _ X5.out X7.out ha40 hq140).mono ?_
              rintro e w23 ⟨Ap8, cp8, rfl, s8, hb⟩
              replace RR := Lib.hid (RR.out.below hb)
              replace E7 := Lib.hid (E7.out.below hb)
              replace R7 := Lib.hid (R7.out.below hb)
              replace F7 := Lib.hid (F7.out.below hb)
              replace X2 := Lib.hid (X2.out.below hb)
              replace X3 := Lib.hid (X3.out.below hb)
              replace X5 := Lib.hid (X5.out.below hb)
              replace X6 := Lib.hid (X6.out.below hb)
              replace X7 := Lib.hid (X7.out.below hb)
              replace A := Lib.hid (bthen A.out hb)
              clear hb
              have X8 := Lib.hid s8
              clear s8
              have hb := below_alloc' w23 (.cells #[.slice Ap8 (enc (.bin .imp a (.bin .imp b y))).length cp8] 37)
              have M9 := Lib.hid (FsR.one X8.out 37)
              replace RR := Lib.hid (RR.out.below hb)
              replace E7 := Lib.hid (E7.out.below hb)
              replace R7 := Lib.hid (R7.out.below hb)
              replace F7 := Lib.hid (F7.out.below hb)
              replace X2 := Lib.hid (X2.out.below hb)
              replace X3 := Lib.hid (X3.out.below hb)
              replace X5 := Lib.hid (X5.out.below hb)
              replace X6 := Lib.hid (X6.out.below hb)
              replace X7 := Lib.hid (X7.out.below hb)
              replace X8 := Lib.hid (X8.out.below hb)
              replace A := Lib.hid (bthen A.out hb)
              clear hb
              go_wp2_with fail
              refine (spec_l23With rs [(⟨Ap8, (enc (.bin .imp a (.bin .imp b y))).length, cp8⟩, .bin .imp a (.bin .imp b y))] _ _ _ RR.out M9.out (by simp only [List.length_cons, List.length_nil]; omega) hgr (gdI_one hq2)).mono ?_
              rintro e w24 ⟨r9, rfl, s9, hb⟩
              replace RR := Lib.hid (RR.out.below hb)
              replace E7 := Lib.hid (E7.out.below hb)
              replace R7 := Lib.hid (R7.out.below hb)
              replace F7 := Lib.hid (F7.out.below hb)
              replace X2 := Lib.hid (X2.out.below hb)
              replace X3 := Lib.hid (X3.out.below hb)
              replace X5 := Lib.hid (X5.out.below hb)
              replace X6 := Lib.hid (X6.out.below hb)
              replace X7 := Lib.hid (X7.out.below hb)
              replace X8 := Lib.hid (X8.out.below hb)
              replace M9 := Lib.hid (M9.out.below hb)
              replace A := Lib.hid (bthen A.out hb)
              clear hb
              have T9 := Lib.hid s9
              clear s9 M9
              have HV := Lib.hid (vlB_eq (wth_val1 (h := ⟨Ap8, (enc (.bin .imp a (.bin .imp b y))).length, cp8⟩) (Val.andimp (c := f) HMm.out)))
              go_wp2_with fail
              refine (IH.out (wth rs [(⟨Ap8, (enc (.bin .imp a (.bin .imp b y))).length, cp8⟩, .bin .imp a (.bin .imp b y))]) f _ _ _ (by rw [HSW.out]; exact wth_meas rs _ (by rw [sw1]; have := sw_andimp a b y; omega)) (wth_gd hgr (gdI_one hq2)) HFG.out T9.out F7.out).mono ?_
              rintro e w25 ⟨rfl, hb⟩
              replace RR := Lib.hid (RR.out.below hb)
              replace E7 := Lib.hid (E7.out.below hb)
              replace R7 := Lib.hid (R7.out.below hb)
              replace F7 := Lib.hid (F7.out.below hb)
              replace X2 := Lib.hid (X2.out.below hb)
              replace X3 := Lib.hid (X3.out.below hb)
              replace X5 := Lib.hid (X5.out.below hb)
              replace X6 := Lib.hid (X6.out.below hb)
              replace X7 := Lib.hid (X7.out.below hb)
              replace X8 := Lib.hid (X8.out.below hb)
              replace T9 := Lib.hid (T9.out.below hb)
              replace A := Lib.hid (bthen A.out hb)
              clear hb
              go_wp2
              go_ret
              exact ⟨by rw [HV.out]; rfl, A.out⟩
            | or =>
              have ek : kdI (.bin .or a b) = 3 := rfl
              rw [ek] at hck4
              clear ek hu
              go_wp2_with fail
              refine (lftI .or a b _ _ X2.out hx40).mono ?_
              rintro e wz ⟨Ap5, cp5, rfl, hs, rfl⟩
              have X5 := Lib.hid hs
              clear hs
              clear hck4 hbk4
              have hq1 : gdF1 (.bin .imp a y) := gd_imp ⟨ha.1, ha.2.1⟩ ⟨hy.1, hy.2.1⟩ (by have := hl1.out; have := hl2.out; omega)
              have hq2 : gdF1 (.bin .imp b y) := gd_imp ⟨hb2.1, hb2.2.1⟩ ⟨hy.1, hy.2.1⟩ (by have := hl1.out; have := hl2.out; omega)
              go_wp2_with fail
              refine (prI a y _ _ _ X5.out X3.out ha40 hy40).mono ?_
              rintro e w22 ⟨Ap6, cp6, rfl, s6, hb⟩
              replace RR := Lib.hid (RR.out.below hb)
              replace E7 := Lib.hid (E7.out.below hb)
              replace R7 := Lib.hid (R7.out.below hb)
              replace F7 := Lib.hid (F7.out.below hb)
              replace X2 := Lib.hid (X2.out.below hb)
              replace X3 := Lib.hid (X3.out.below hb)
              replace X5 := Lib.hid (X5.out.below hb)
              replace A := Lib.hid (bthen A.out hb)
              clear hb
              have X6 := Lib.hid s6
              clear s6
              go_wp2_with fail
              refine (rgtI .or a b _ _ X2.out hx40).mono ?_
              rintro e wz ⟨Ap7, cp7, rfl, hs, rfl⟩
              have X7 := Lib.hid hs
              clear hs
              go_wp2_with fail
              refine (prI b y _ _ _ X7.out X3.out hb40 hy40).mono ?_
              rintro e w23 ⟨Ap8, cp8, rfl, s8, hb⟩
              replace RR := Lib.hid (RR.out.below hb)
              replace E7 := Lib.hid (E7.out.below hb)
              replace R7 := Lib.hid (R7.out.below hb)
              replace F7 := Lib.hid (F7.out.below hb)
              replace X2 := Lib.hid (X2.out.below hb)
              replace X3 := Lib.hid (X3.out.below hb)
              replace X5 := Lib.hid (X5.out.below hb)
              replace X6 := Lib.hid (X6.out.below hb)
              replace X7 := Lib.hid (X7.out.below hb)
              replace A := Lib.hid (bthen A.out hb)
              clear hb
              have X8 := Lib.hid s8
              clear s8
              have hb := below_alloc' w23 (.cells #[.slice Ap6 (enc (.bin .imp a y)).length cp6, .slice Ap8 (enc (.bin .imp b y)).length cp8] 37)
              have M9 := Lib.hid (FsR.two X6.out X8.out 37)
              replace RR := Lib.hid (RR.out.below hb)
              replace E7 := Lib.hid (E7.out.below hb)
              replace R7 := Lib.hid (R7.out.below hb)
              replace F7 := Lib.hid (F7.out.below hb)
              replace X2 := Lib.hid (X2.out.below hb)
              replace X3 := Lib.hid (X3.out.below hb)
              replace X5 := Lib.hid (X5.out.below hb)
              replace X6 := Lib.hid (X6.out.below hb)
              replace X7 := Lib.hid (X7.out.below hb)
              replace X8 := Lib.hid (X8.out.below hb)
              replace A := Lib.hid (bthen A.out hb)
              clear hb
              go_wp2_with fail
              refine (spec_l23With rs [(⟨Ap6, (enc (.bin .imp a y)).length, cp6⟩, .bin .imp a y), (⟨Ap8, (enc (.bin .imp b y)).length, cp8⟩, .bin .imp b y)] _ _ _ RR.out M9.out (by simp only [List.length_cons, List.length_nil]; omega) hgr (gdI_two hq1 hq2)).mono ?_
              rintro e w24 ⟨r9, rfl, s9, hb⟩
              replace RR := Lib.hid (RR.out.below hb)
              replace E7 := Lib.hid (E7.out.below hb)
              replace R7 := Lib.hid (R7.out.below hb)
              replace F7 := Lib.hid (F7.out.below hb)
              replace X2 := Lib.hid (X2.out.below hb)
              replace X3 := Lib.hid (X3.out.below hb)
              replace X5 := Lib.hid (X5.out.below hb)
              replace X6 := Lib.hid (X6.out.below hb)
              replace X7 := Lib.hid (X7.out.below hb)
              replace X8 := Lib.hid (X8.out.below hb)
              replace M9 := Lib.hid (M9.out.below hb)
              replace A := Lib.hid (bthen A.out hb)
              clear hb
              have T9 := Lib.hid s9
              clear s9 M9
              have HV := Lib.hid (vlB_eq (wth_val2 (h := ⟨Ap6, (enc (.bin .imp a y)).length, cp6⟩) (h' := ⟨Ap8, (enc (.bin .imp b y)).length, cp8⟩) (Val.orimp (c := f) HMm.out)))
              go_wp2_with fail
              refine (IH.out (wth rs [(⟨Ap6, (enc (.bin .imp a y)).length, cp6⟩, .bin .imp a y), (⟨Ap8, (enc (.bin .imp b y)).length, cp8⟩, .bin .imp b y)]) f _ _ _ (by rw [HSW.out]; exact wth_meas rs _ (by rw [sw2]; have := sw_orimp a b y; omega)) (wth_gd hgr (gdI_two hq1 hq2)) HFG.out T9.out F7.out).mono ?_
              rintro e w25 ⟨rfl, hb⟩
              replace RR := Lib.hid (RR.out.below hb)
              replace E7 := Lib.hid (E7.out.below hb)
              replace R7 := Lib.hid (R7.out.below hb)
              replace F7 := Lib.hid (F7.out.below hb)
              replace X2 := Lib.hid (X2.out.below hb)
              replace X3 := Lib.hid (X3.out.below hb)
              replace X5 := Lib.hid (X5.out.below hb)
              replace X6 := Lib.hid (X6.out.below hb)
              replace X7 := Lib.hid (X7.out.below hb)
              replace X8 := Lib.hid (X8.out.below hb)
              replace T9 := Lib.hid (T9.out.below hb)
              replace A := Lib.hid (bthen A.out hb)
              clear hb
              go_wp2
              go_ret
              exact ⟨by rw [HV.out]; rfl, A.out⟩
            | imp =>
              have ek : kdI (.bin .imp a b) = 4 := rfl
              rw [ek] at hck4
              clear ek hu
              go_wp2_with fail
              refine (spec_l23Has rs (.bin .imp a b) _ _ _ RR.out X2.out (by omega) hgr hx40).mono ?_
              rintro e w22 ⟨rfl, hb⟩
              replace RR := Lib.hid (RR.out.below hb)
              replace E7 := Lib.hid (E7.out.below hb)
              replace R7 := Lib.hid (R7.out.below hb)
              replace F7 := Lib.hid (F7.out.below hb)
              replace X2 := Lib.hid (X2.out.below hb)
              replace X3 := Lib.hid (X3.out.below hb)
              replace A := Lib.hid (bthen A.out hb)
              clear hb
              clear hck4 hbk4
              cases hh : hasF rs (.bin .imp a b)
              case false =>
                have HN := Lib.hid (HNX.out (HST.out (.inr (.inr ⟨a, b, y, rfl⟩))))
                go_wp2
                go_roundw
                case rel => exact ⟨j + 1, by omega, by go_num, HN.out, A.out⟩
                case measure => simp [intOf]; omega
              case true =>
                have hb := below_alloc' w22 (.cells #[.slice Ap3 (enc y).length cp3] 37)
                have M5 := Lib.hid (FsR.one X3.out 37)
                replace RR := Lib.hid (RR.out.below hb)
                replace E7 := Lib.hid (E7.out.below hb)
                replace R7 := Lib.hid (R7.out.below hb)
                replace F7 := Lib.hid (F7.out.below hb)
                replace X2 := Lib.hid (X2.out.below hb)
                replace X3 := Lib.hid (X3.out.below hb)
                replace A := Lib.hid (bthen A.out hb)
                clear hb
                go_wp2_with fail
                refine (spec_l23With rs [(⟨Ap3, (enc y).length, cp3⟩, y)] _ _ _ RR.out M5.out (by simp only [List.length_cons, List.length_nil]; omega) hgr (gdI_one hy)).mono ?_
                rintro e w23 ⟨r5, rfl, s5, hb⟩
                replace RR := Lib.hid (RR.out.below hb)
                replace E7 := Lib.hid (E7.out.below hb)
                replace R7 := Lib.hid (R7.out.below hb)
                replace F7 := Lib.hid (F7.out.below hb)
                replace X2 := Lib.hid (X2.out.below hb)
                replace X3 := Lib.hid (X3.out.below hb)
                replace M5 := Lib.hid (M5.out.below hb)
                replace A := Lib.hid (bthen A.out hb)
                clear hb
                have T5 := Lib.hid s5
                clear s5 M5
                have HV := Lib.hid (vlB_eq (wth_val1 (h := ⟨Ap3, (enc y).length, cp3⟩) (Val.mp (c := f) HMm.out (hasF_iff.1 hh))))
                go_wp2_with fail
                refine (IH.out (wth rs [(⟨Ap3, (enc y).length, cp3⟩, y)]) f _ _ _ (by rw [HSW.out]; exact wth_meas rs _ (by rw [sw1]; have := sw_imp (.bin .imp a b) y; omega)) (wth_gd hgr (gdI_one hy)) HFG.out T5.out F7.out).mono ?_
                rintro e w24 ⟨rfl, hb⟩
                replace RR := Lib.hid (RR.out.below hb)
                replace E7 := Lib.hid (E7.out.below hb)
                replace R7 := Lib.hid (R7.out.below hb)
                replace F7 := Lib.hid (F7.out.below hb)
                replace X2 := Lib.hid (X2.out.below hb)
                replace X3 := Lib.hid (X3.out.below hb)
                replace T5 := Lib.hid (T5.out.below hb)
                replace A := Lib.hid (bthen A.out hb)
                clear hb
                go_wp2
                go_ret
                exact ⟨by rw [HV.out]; rfl, A.out⟩
    · skip
      obtain rfl : j = ps.length := by omega
      have HIRR := Lib.hid (stk_irr STK.out)
      have STK2 := STK
      clear STK hlt hj
      have A := Lib.hid B4.out
      have hfg := HFG.out
      clear B4
      have hform := form_f hfg
      obtain ⟨bk6, ok6, ek6, hbk6, hck6⟩ := kdI_cell F4.out
      subst ek6
      rcases hform with ⟨k, x, y, hfe⟩ | hfe
      · obtain ⟨hx, hy⟩ := gd_bin (hfe ▸ hfg)
        have hx40 := hx.2.2
        have hy40 := hy.2.2
        have HE := Lib.hid hfe
        have HL := Lib.hid (fun v W (h : Sl cN W v (enc f)) => lftI k x y v W (hfe ▸ h) (hfe ▸ hf40))
        have HR := Lib.hid (fun v W (h : Sl cN W v (enc f)) => rgtI k x y v W (hfe ▸ h) (hfe ▸ hf40))
        cases k with
        | and =>
          have ek : kdI f = 2 := by rw [hfe]; rfl
          rw [ek] at hck6
          clear ek hfe
          have HVA : Hid (vlB (fs2 ps) f = (vlB (fs2 ps) x && vlB (fs2 ps) y)) := Lib.hid (by rw [HE.out]; exact vlB_and Val.andR)
          go_wp2_with fail
          refine (HL.out _ _ F4.out).mono ?_
          rintro e wz ⟨Ap7, cp7, rfl, hs, rfl⟩
          have X7 := Lib.hid hs
          clear hs
          clear hck6 hbk6
          go_wp2_with fail
          refine (IH.out ps x _ _ _ (by rw [HE.out]; have := sw_and x y; have := sw_pos y; omega) HG.out hx R4.out X7.out).mono ?_
          rintro e w41 ⟨rfl, hb⟩
          replace R4 := Lib.hid (R4.out.below hb)
          replace F4 := Lib.hid (F4.out.below hb)
          replace X7 := Lib.hid (X7.out.below hb)
          replace A := Lib.hid (bthen A.out hb)
          clear hb
          generalize vlB (fs2 ps) x = q1 at *
          cases q1
          case false =>
            rw [Bool.false_and] at HVA
            go_wp2
            go_ret
            exact ⟨by rw [HVA.out]; rfl, A.out⟩
          case true =>
            rw [Bool.true_and] at HVA
            go_wp2_with fail
            refine (HR.out _ _ F4.out).mono ?_
            rintro e wz ⟨Ap8, cp8, rfl, hs, rfl⟩
            have X8 := Lib.hid hs
            clear hs
            go_wp2_with fail
            refine (IH.out ps y _ _ _ (by rw [HE.out]; have := sw_and x y; have := sw_pos x; omega) HG.out hy R4.out X8.out).mono ?_
            rintro e w42 ⟨rfl, hb⟩
            replace R4 := Lib.hid (R4.out.below hb)
            replace F4 := Lib.hid (F4.out.below hb)
            replace X7 := Lib.hid (X7.out.below hb)
            replace X8 := Lib.hid (X8.out.below hb)
            replace A := Lib.hid (bthen A.out hb)
            clear hb
            generalize vlB (fs2 ps) y = q2 at *
            cases q2 <;> skip
            all_goals
              go_wp2
              go_ret
              exact ⟨by rw [HVA.out]; rfl, A.out⟩
        | or =>
          have ek : kdI f = 3 := by rw [hfe]; rfl
          rw [ek] at hck6
          clear ek hfe
          go_wp2_with fail
          refine (HL.out _ _ F4.out).mono ?_
          rintro e wz ⟨Ap7, cp7, rfl, hs, rfl⟩
          have X7 := Lib.hid hs
          clear hs
          clear hck6 hbk6
          go_wp2_with fail
          refine (IH.out ps x _ _ _ (by rw [HE.out]; have := sw_or1 x y; omega) HG.out hx R4.out X7.out).mono ?_
          rintro e w41 ⟨rfl, hb⟩
          replace R4 := Lib.hid (R4.out.below hb)
          replace F4 := Lib.hid (F4.out.below hb)
          replace X7 := Lib.hid (X7.out.below hb)
          replace A := Lib.hid (bthen A.out hb)
          clear hb
          cases hv1 : vlB (fs2 ps) x
          case true =>
            have HV : Hid (vlB (fs2 ps) f = true) := Lib.hid (by rw [HE.out]; exact vlB_true (Val.orR (.inl (vlB_iff.1 hv1))))
            clear hv1
            go_wp2
            go_ret
            exact ⟨by rw [HV.out]; rfl, A.out⟩
          case false =>
            go_wp2_with fail
            refine (HR.out _ _ F4.out).mono ?_
            rintro e wz ⟨Ap8, cp8, rfl, hs, rfl⟩
            have X8 := Lib.hid hs
            clear hs
            go_wp2_with fail
            refine (IH.out ps y _ _ _ (by rw [HE.out]; have := sw_or2 x y; omega) HG.out hy R4.out X8.out).mono ?_
            rintro e w42 ⟨rfl, hb⟩
            replace R4 := Lib.hid (R4.out.below hb)
            replace F4 := Lib.hid (F4.out.below hb)
            replace X7 := Lib.hid (X7.out.below hb)
            replace X8 := Lib.hid (X8.out.below hb)
            replace A := Lib.hid (bthen A.out hb)
            clear hb
            cases hv2 : vlB (fs2 ps) y
            case true =>
              have HV : Hid (vlB (fs2 ps) f = true) := Lib.hid (by rw [HE.out]; exact vlB_true (Val.orR (.inr (vlB_iff.1 hv2))))
              clear hv1 hv2
              go_wp2
              go_ret
              exact ⟨by rw [HV.out]; rfl, A.out⟩
            case false =>
              have HC : Hid ((∃ s, f = .var s ∧ .var s ∉ fs2 ps) ∨ f = .fls ∨ ∃ a b, f = .bin .or a b) := Lib.hid (.inr (.inr ⟨x, y, HE.out⟩))
              have HOR : Hid (∀ a b, f = .bin .or a b → ¬ Val (fs2 ps) a ∧ ¬ Val (fs2 ps) b) := Lib.hid fun a b e => by
                rw [HE.out] at e; injection e with _ e1 e2; subst e1; subst e2
                exact ⟨fun h => (by rw [vlB_true h] at hv1; cases hv1), fun h => (by rw [vlB_true h] at hv2; cases hv2)⟩
              clear hv1 hv2 HL HR X7 X8
              clear HE hx hy hx40 hy40
              have B40 := Lib.hid A.out
              have R40 := Lib.hid R4.out
              have F40 := Lib.hid F4.out
              go_wp2
              go_loopw [10, 11, 12, 13, 14] (fun i a6 a7 a8 a9 wr => ∃ j : Nat, j ≤ ps.length ∧ i = .int .i64 j ∧ (∀ k, k < j → NoC ps f k) ∧ Below w.heap.size w wr) (fun i _ _ _ _ _ => ps.length - (intOf i).toNat)
              case atStart => exact ⟨0, Nat.zero_le _, rfl, fun k hk => absurd hk (Nat.not_lt_zero _), A.out⟩
              case round =>
                clear A B40 R4 F4 R40 F40
                obtain ⟨j, hj, rfl, hst, hb⟩ := hrel
                obtain ⟨w4, hw4⟩ : ∃ W, W = wr := ⟨_, rfl⟩
                subst hw4
                have NOC := Lib.hid hst
                have B4 := Lib.hid hb
                have R4 := Lib.hid (H.out.below hb)
                have F4 := Lib.hid (HF.out.below hb)
                clear hst hb
                by_cases hlt : j < ps.length
                · have i1 : (j : Int) < (ps.length : Int) := by omega
                  have i2 : (j : Int) + 1 ≤ (ps.length : Int) := by omega
                  have i3 : (j : Int) ≤ (c : Int) := by omega
                  have i4 : (ps.length : Int) ≤ (c : Int) := by omega
                  have i5 : j ≤ c := by omega
                  obtain ⟨b, o, Ai, ci, rfl, hbl, hc, hs⟩ := R4.out.at_ hlt
                  have HMm := Lib.hid (rst_mem ps hlt)
                  have HSW := Lib.hid (rst_sw ps hlt)
                  have hgr := rst_gd hlt HG.out
                  have hfm : gdF1 (ps[j]).2 := HG.out _ ((rst_mem ps hlt _).2 (.inl rfl))
                  have hrl := rst_len hlt
                  have hSJ := STK2.out j hlt hlt
                  have HNX : Hid ((∀ x y d, (ps[j]).2 = .bin .imp (.bin .imp x y) d → ¬ (Val ([.bin .imp y d] ++ fs2 (rst ps j)) (.bin .imp x y) ∧ Val ([d] ++ fs2 (rst ps j)) f)) → ∀ k, k < j + 1 → NoC ps f k) := Lib.hid fun h k hk => by
                    rcases Nat.lt_or_ge k j with h1 | h1
                    · exact NOC.out k h1
                    · obtain rfl : k = j := by omega
                      exact fun _ => h
                  have hrlN : (rst ps j).length ≤ 190000 := by omega
                  have E4 := Lib.hid hs
                  clear hs
                  generalize (ps[j]).2 = fm at *
                  have hfm40 := hfm.2.2
                  have hep := enc_pos fm
                  obtain ⟨bk9, ok9, ek9, hbk9, hck9⟩ := kdI_cell E4.out
                  subst ek9
                  rcases hSJ with ⟨s, rfl⟩ | ⟨s, d, rfl, -⟩ | ⟨x, y, d, rfl⟩
                  · have ek : kdI (.var s) = 0 := rfl
                    rw [ek] at hck9
                    clear ek
                    have A := Lib.hid B4.out
                    have HN := Lib.hid (HNX.out (fun x y d e => by cases e))
                    go_wp2
                    go_roundw
                    case rel => exact ⟨j + 1, by omega, by go_num, HN.out, A.out⟩
                    case measure => simp [intOf]; omega
                  · have ek : kdI (.bin .imp (.var s) d) = 4 := rfl
                    rw [ek] at hck9
                    clear ek
                    have A := Lib.hid B4.out
                    go_wp2_with fail
                    refine (lftI .imp ((.var s)) d _ _ E4.out hfm40).mono ?_
                    rintro e wz ⟨Ap10, cp10, rfl, hs, rfl⟩
                    have X10 := Lib.hid hs
                    clear hs
                    obtain ⟨bk11, ok11, ek11, hbk11, hck11⟩ := kdI_cell X10.out
                    subst ek11
                    have hxp := enc_pos (.var s)
                    have ek : kdI (.var s) = 0 := rfl
                    rw [ek] at hck11
                    clear ek
                    have HN := Lib.hid (HNX.out (fun x y d e => by cases e))
                    go_wp2
                    go_roundw
                    case rel => exact ⟨j + 1, by omega, by go_num, HN.out, A.out⟩
                    case measure => simp [intOf]; omega
                  · have ek : kdI (.bin .imp (.bin .imp x y) d) = 4 := rfl
                    rw [ek] at hck9
                    clear ek
                    obtain ⟨hxy, hd⟩ := gd_bin hfm
                    obtain ⟨hx, hy⟩ := gd_bin hxy
                    have hx40 := hx.2.2
                    have hy40 := hy.2.2
                    have hd40 := hd.2.2
                    have hxy40 := hxy.2.2
                    have hl1 := Lib.hid (len_bin .imp (.bin .imp x y) d)
                    have hl2 := Lib.hid (len_bin .imp x y)
                    have hqd : gdF1 (.bin .imp y d) := gd_imp ⟨hy.1, hy.2.1⟩ ⟨hd.1, hd.2.1⟩ (by have := hl1.out; have := hl2.out; omega)
                    go_wp2_with fail
                    refine (lftI .imp ((.bin .imp x y)) d _ _ E4.out hfm40).mono ?_
                    rintro e wz ⟨Ap10, cp10, rfl, hs, rfl⟩
                    have X10 := Lib.hid hs
                    clear hs
                    obtain ⟨bk11, ok11, ek11, hbk11, hck11⟩ := kdI_cell X10.out
                    subst ek11
                    have hxp := enc_pos (.bin .imp x y)
                    have ek : kdI (.bin .imp x y) = 4 := rfl
                    rw [ek] at hck11
                    clear ek
                    go_upto_region 35 with fail
                    obtain ⟨sl1, sl2⟩ := rst_sl R4.out hlt
                    obtain ⟨m1, hm1⟩ : ∃ m, j + 1 = m := ⟨_, rfl⟩
                    rw [hm1] at sl2
                    have hwr : IntKind.i64.wrap ((j : Int) + 1) = (m1 : Int) := by rw [← hm1, IntWalk.i64_in _ ⟨by omega, by omega⟩]; omega
                    have hm1n : (m1 : Int) ≤ (ps.length : Int) := by omega
                    have hm1z : (0 : Int) ≤ (m1 : Int) := by omega
                    have HM1 := Lib.hid hm1
                    have SL1 := Lib.hid sl1
                    have SL2 := Lib.hid sl2
                    clear sl1 sl2 hm1
                    have hI : Below w4.heap.size w4 (World.drew w4) := (Below.refl _ _).drew
                    refine wp_region_sched (Below w4.heap.size w4) 10 [1, 2, 3, 5, 6, 7, 8] [1, 2, 3, 5, 6, 7, 8, 0, 4, 9] (by kernel_rfl) (by kernel_rfl) hI ?_
                    repeat
                      apply wpSched_q rfl rfl
                      case h =>
                        intro w' hI K hK
                        simp only [quietV, stillV]
                        go_simp
                        exact hK
                      go_simp
                    refine wpSched_r rfl rfl ?_ hI
                    intro K hK _
                    go_simp
                    have hI1 : Below w4.heap.size w4 (World.drew (World.alloc w4 (.cells #[] 37))) := (below_alloc' _ _).drew
                    refine hK _ _ hI1 ?_
                    clear hK K
                    have O0 : Hid (Ow cH 37 w4.heap.size (World.drew (World.alloc w4 (.cells #[] 37))) (.slice (some ⟨w4.heap.size, 0, none⟩) 0 0) []) := Lib.hid ((Ow.lit (K := cH) (w := w4) [] rfl rfl (Nat.le_refl _)).drewN 1)
                    have SL1 := Lib.hid (SL1.out.below hI1)
                    have SL2 := Lib.hid (SL2.out.below hI1)
                    generalize World.drew (World.alloc w4 _) = wq at *
                    refine wpSched_r rfl rfl ?_ hI1
                    intro K hK _
                    refine step_slS (K := cH) wq ty_fms rfl _ _ rfl (B := w4.heap.size) (v := .slice (some ⟨w4.heap.size, 0, none⟩) 0 0) (u := .slice (some ⟨b, o, none⟩) j c) (xs := []) (news := (ps.map (·.1)).take j) (by simp [Act.eval, Act.put]; done) O0.out (by simp [Act.eval, Act.put]; done) SL1.out (by simp only [List.length_nil, List.length_take, List.length_map]; omega) hI1.size ?_
                    intro v6 w6 ho hg1 hb1 hat
                    rw [List.nil_append] at ho
                    have hI6 : Below w4.heap.size w4 w6 := hI1.trans hb1
                    have SL2 := Lib.hid (SL2.out.keptAt hg1.size fun p hp hv => (hg1.cell_far p hp (fun e => by
                      have h1 : (Value.slice (if c = m1 then some ⟨b, o, none⟩ else some ⟨b, o + m1, none⟩) (ps.length - m1) (c - m1)).ownBlock = some p.block := hv
                      have h2 : b = p.block := by split at h1 <;> simpa [Value.ownBlock] using h1
                      have h3 : some p.block = some w4.heap.size := e
                      injection h3 with h3
                      omega)))
                    obtain ⟨A6, c6, e6⟩ := ho.opn
                    have hl6 : ((ps.map (·.1)).take j).length = j := by rw [List.length_take, List.length_map]; omega
                    rw [hl6] at e6
                    subst e6
                    refine hK _ _ hI6 ?_
                    clear hK K hat hg1 hb1
                    refine wpSched_r rfl rfl ?_ hI6
                    intro K hK _
                    refine step_slS (K := cH) w6 ty_fms rfl _ _ rfl (B := w4.heap.size) (v := .slice A6 j c6) (u := .slice (if c = m1 then some ⟨b, o, none⟩ else some ⟨b, o + m1, none⟩) (ps.length - m1) (c - m1)) (xs := (ps.map (·.1)).take j) (news := (ps.map (·.1)).drop m1) (by simp [Act.eval, Act.put]; done) ho (by simp [Act.eval, Act.put]; done) SL2.out (by simp only [List.length_drop, List.length_take, List.length_map]; omega) hI6.size ?_
                    intro v7 w7 ho hg1 hb1 hat
                    have hI7 : Below w4.heap.size w4 w7 := hI6.trans hb1
                    have er : (ps.map (·.1)).take j ++ (ps.map (·.1)).drop m1 = (rst ps j).map (·.1) := by rw [← HM1.out]; unfold rst; simp
                    rw [er] at ho
                    refine hK _ _ hI7 ?_
                    clear hK K hat hg1 hb1 er
                    refine wpSched_nil ?_
                    try simp only [List.drop_succ_cons, List.drop_zero]
                    have RR : Hid (FsR w7 v7 (rst ps j)) := Lib.hid ⟨ho.sl, fun p hp => (rst_all (P := fun p => Sl cN w4 p.1.val (enc p.2)) R4.out.2 p hp).below hI7⟩
                    clear SL2
                    generalize (if c = m1 then (some ⟨b, o, none⟩ : Option Addr) else some ⟨b, o + m1, none⟩) = A9 at *
                    have E7 := Lib.hid (E4.out.below hI7)
                    have A := Lib.hid (bthen B4.out hI7)
                    have R7 := Lib.hid (R4.out.below hI7)
                    have F7 := Lib.hid (F4.out.below hI7)
                    clear X10 hck9 hbk9 hck11 hbk11
                    clear hI7 ho hI hc hbl B4 R4 F4 E4 SL1 O0 hI1 hI6 HM1 hm1n hm1z hwr hl6
                    obtain ⟨rs, hrs⟩ : ∃ rs, rst ps j = rs := ⟨_, rfl⟩
                    rw [hrs] at RR HMm HSW HNX hgr hrl hrlN
                    clear hrs
                    obtain ⟨Ar, cr, er⟩ := RR.out.opn
                    subst er
                    go_wp2_with fail
                    refine (lftI .imp ((.bin .imp x y)) d _ _ E7.out hfm40).mono ?_
                    rintro e wz ⟨Ap12, cp12, rfl, hs, rfl⟩
                    have X12 := Lib.hid hs
                    clear hs
                    go_wp2_with fail
                    refine (rgtI .imp ((.bin .imp x y)) d _ _ E7.out hfm40).mono ?_
                    rintro e wz ⟨Ap13, cp13, rfl, hs, rfl⟩
                    have X13 := Lib.hid hs
                    clear hs
                    go_wp2_with fail
                    refine (rgtI .imp x y _ _ X12.out hxy40).mono ?_
                    rintro e wz ⟨Ap14, cp14, rfl, hs, rfl⟩
                    have X14 := Lib.hid hs
                    clear hs
                    go_wp2_with fail
                    refine (prI y d _ _ _ X14.out X13.out hy40 hd40).mono ?_
                    rintro e w61 ⟨Ap15, cp15, rfl, s15, hb⟩
                    replace RR := Lib.hid (RR.out.below hb)
                    replace E7 := Lib.hid (E7.out.below hb)
                    replace R7 := Lib.hid (R7.out.below hb)
                    replace F7 := Lib.hid (F7.out.below hb)
                    replace X12 := Lib.hid (X12.out.below hb)
                    replace X13 := Lib.hid (X13.out.below hb)
                    replace X14 := Lib.hid (X14.out.below hb)
                    replace A := Lib.hid (bthen A.out hb)
                    clear hb
                    have X15 := Lib.hid s15
                    clear s15
                    go_wp2_with fail
                    refine (lftI .imp x y _ _ X12.out hxy40).mono ?_
                    rintro e wz ⟨Ap16, cp16, rfl, hs, rfl⟩
                    have X16 := Lib.hid hs
                    clear hs
                    have hb := below_alloc' w61 (.cells #[.slice Ap15 (enc (.bin .imp y d)).length cp15, .slice Ap16 (enc x).length cp16] 37)
                    have M17 := Lib.hid (FsR.two X15.out X16.out 37)
                    replace RR := Lib.hid (RR.out.below hb)
                    replace E7 := Lib.hid (E7.out.below hb)
                    replace R7 := Lib.hid (R7.out.below hb)
                    replace F7 := Lib.hid (F7.out.below hb)
                    replace X12 := Lib.hid (X12.out.below hb)
                    replace X13 := Lib.hid (X13.out.below hb)
                    replace X14 := Lib.hid (X14.out.below hb)
                    replace X15 := Lib.hid (X15.out.below hb)
                    replace X16 := Lib.hid (X16.out.below hb)
                    replace A := Lib.hid (bthen A.out hb)
                    clear hb
                    go_wp2_with fail
                    refine (spec_l23With rs [(⟨Ap15, (enc (.bin .imp y d)).length, cp15⟩, .bin .imp y d), (⟨Ap16, (enc x).length, cp16⟩, x)] _ _ _ RR.out M17.out (by simp only [List.length_cons, List.length_nil]; omega) hgr (gdI_two hqd hx)).mono ?_
                    rintro e w62 ⟨r17, rfl, s17, hb⟩
                    replace RR := Lib.hid (RR.out.below hb)
                    replace E7 := Lib.hid (E7.out.below hb)
                    replace R7 := Lib.hid (R7.out.below hb)
                    replace F7 := Lib.hid (F7.out.below hb)
                    replace X12 := Lib.hid (X12.out.below hb)
                    replace X13 := Lib.hid (X13.out.below hb)
                    replace X14 := Lib.hid (X14.out.below hb)
                    replace X15 := Lib.hid (X15.out.below hb)
                    replace X16 := Lib.hid (X16.out.below hb)
                    replace M17 := Lib.hid (M17.out.below hb)
                    replace A := Lib.hid (bthen A.out hb)
                    clear hb
                    have T17 := Lib.hid s17
                    clear s17 M17
                    go_wp2_with fail
                    refine (rgtI .imp x y _ _ X12.out hxy40).mono ?_
                    rintro e wz ⟨Ap18, cp18, rfl, hs, rfl⟩
                    have X18 := Lib.hid hs
                    clear hs
                    have HV1 := Lib.hid (wth_ii (rs := rs) (h := ⟨Ap15, (enc (.bin .imp y d)).length, cp15⟩) (h' := ⟨Ap16, (enc x).length, cp16⟩) (x := x) (y := y) (b := d))
                    go_wp2_with fail
                    refine (IH.out (wth rs [(⟨Ap15, (enc (.bin .imp y d)).length, cp15⟩, .bin .imp y d), (⟨Ap16, (enc x).length, cp16⟩, x)]) y _ _ _ (by rw [HSW.out]; exact wth_meas rs _ (by rw [sw2]; have := sw_ii1 x y d; have := sw_imp x y; omega)) (wth_gd hgr (gdI_two hqd hx)) hy T17.out X18.out).mono ?_
                    rintro e w63 ⟨rfl, hb⟩
                    replace RR := Lib.hid (RR.out.below hb)
                    replace E7 := Lib.hid (E7.out.below hb)
                    replace R7 := Lib.hid (R7.out.below hb)
                    replace F7 := Lib.hid (F7.out.below hb)
                    replace X12 := Lib.hid (X12.out.below hb)
                    replace X13 := Lib.hid (X13.out.below hb)
                    replace X14 := Lib.hid (X14.out.below hb)
                    replace X15 := Lib.hid (X15.out.below hb)
                    replace X16 := Lib.hid (X16.out.below hb)
                    replace T17 := Lib.hid (T17.out.below hb)
                    replace X18 := Lib.hid (X18.out.below hb)
                    replace A := Lib.hid (bthen A.out hb)
                    clear hb
                    rw [← vlB_iff (G := fs2 (wth rs [(⟨Ap15, (enc (.bin .imp y d)).length, cp15⟩, .bin .imp y d), (⟨Ap16, (enc x).length, cp16⟩, x)]))] at HV1
                    generalize vlB (fs2 (wth rs [(⟨Ap15, (enc (.bin .imp y d)).length, cp15⟩, .bin .imp y d), (⟨Ap16, (enc x).length, cp16⟩, x)])) y = q1 at *
                    cases q1
                    case false =>
                      have HN := Lib.hid (HNX.out (fun x1 y1 d1 e hv => by injection e with _ e1 e2; injection e1 with _ e3 e4; subst e2; subst e3; subst e4; have h9 := HV1.out.1 hv.1; cases h9))
                      go_wp2
                      go_roundw
                      case rel => exact ⟨j + 1, by omega, by go_num, HN.out, A.out⟩
                      case measure => simp [intOf]; omega
                    case true =>
                      have hb := below_alloc' w63 (.cells #[.slice Ap13 (enc d).length cp13] 37)
                      have M19 := Lib.hid (FsR.one X13.out 37)
                      replace RR := Lib.hid (RR.out.below hb)
                      replace E7 := Lib.hid (E7.out.below hb)
                      replace R7 := Lib.hid (R7.out.below hb)
                      replace F7 := Lib.hid (F7.out.below hb)
                      replace X12 := Lib.hid (X12.out.below hb)
                      replace X13 := Lib.hid (X13.out.below hb)
                      replace X14 := Lib.hid (X14.out.below hb)
                      replace X15 := Lib.hid (X15.out.below hb)
                      replace X16 := Lib.hid (X16.out.below hb)
                      replace T17 := Lib.hid (T17.out.below hb)
                      replace X18 := Lib.hid (X18.out.below hb)
                      replace A := Lib.hid (bthen A.out hb)
                      clear hb
                      go_wp2_with fail
                      refine (spec_l23With rs [(⟨Ap13, (enc d).length, cp13⟩, d)] _ _ _ RR.out M19.out (by simp only [List.length_cons, List.length_nil]; omega) hgr (gdI_one hd)).mono ?_
                      rintro e w64 ⟨r19, rfl, s19, hb⟩
                      replace RR := Lib.hid (RR.out.below hb)
                      replace E7 := Lib.hid (E7.out.below hb)
                      replace R7 := Lib.hid (R7.out.below hb)
                      replace F7 := Lib.hid (F7.out.below hb)
                      replace X12 := Lib.hid (X12.out.below hb)
                      replace X13 := Lib.hid (X13.out.below hb)
                      replace X14 := Lib.hid (X14.out.below hb)
                      replace X15 := Lib.hid (X15.out.below hb)
                      replace X16 := Lib.hid (X16.out.below hb)
                      replace T17 := Lib.hid (T17.out.below hb)
                      replace X18 := Lib.hid (X18.out.below hb)
                      replace M19 := Lib.hid (M19.out.below hb)
                      replace A := Lib.hid (bthen A.out hb)
                      clear hb
                      have T19 := Lib.hid s19
                      clear s19 M19
                      have HV2 := Lib.hid (wth_val1 (h := ⟨Ap13, (enc d).length, cp13⟩) (Iff.refl (Val ([d] ++ fs2 rs) f)))
                      go_wp2_with fail
                      refine (IH.out (wth rs [(⟨Ap13, (enc d).length, cp13⟩, d)]) f _ _ _ (by rw [HSW.out]; exact wth_meas rs _ (by rw [sw1]; have := sw_imp (.bin .imp x y) d; omega)) (wth_gd hgr (gdI_one hd)) HFG.out T19.out F7.out).mono ?_
                      rintro e w65 ⟨rfl, hb⟩
                      replace RR := Lib.hid (RR.out.below hb)
                      replace E7 := Lib.hid (E7.out.below hb)
                      replace R7 := Lib.hid (R7.out.below hb)
                      replace F7 := Lib.hid (F7.out.below hb)
                      replace X12 := Lib.hid (X12.out.below hb)
                      replace X13 := Lib.hid (X13.out.below hb)
                      replace X14 := Lib.hid (X14.out.below hb)
                      replace X15 := Lib.hid (X15.out.below hb)
                      replace X16 := Lib.hid (X16.out.below hb)
                      replace T17 := Lib.hid (T17.out.below hb)
                      replace X18 := Lib.hid (X18.out.below hb)
                      replace T19 := Lib.hid (T19.out.below hb)
                      replace A := Lib.hid (bthen A.out hb)
                      clear hb
                      rw [← vlB_iff (G := fs2 (wth rs [(⟨Ap13, (enc d).length, cp13⟩, d)]))] at HV2
                      generalize vlB (fs2 (wth rs [(⟨Ap13, (enc d).length, cp13⟩, d)])) f = q2 at *
                      cases q2
                      case false =>
                        have HN := Lib.hid (HNX.out (fun x1 y1 d1 e hv => by injection e with _ e1 e2; injection e1 with _ e3 e4; subst e2; subst e3; subst e4; have h9 := HV2.out.1 hv.2; cases h9))
                        go_wp2
                        go_roundw
                        case rel => exact ⟨j + 1, by omega, by go_num, HN.out, A.out⟩
                        case measure => simp [intOf]; omega
                      case true =>
                        have HV : Hid (vlB (fs2 ps) f = true) := Lib.hid (vlB_true (Val.ii HMm.out (HV1.out.2 (by trivial)) (HV2.out.2 (by trivial))))
                        go_wp2
                        go_ret
                        exact ⟨by rw [HV.out]; rfl, A.out⟩
                · obtain rfl : j = ps.length := by omega
                  have HV := Lib.hid (noC_all HIRR.out HC.out NOC.out HOR.out)
                  go_wp2
                  go_ret
                  exact ⟨by rw [HV.out]; rfl, B4.out⟩
        | imp =>
          have ek : kdI f = 4 := by rw [hfe]; rfl
          rw [ek] at hck6
          clear ek hfe
          go_wp2_with fail
          refine (HL.out _ _ F4.out).mono ?_
          rintro e wz ⟨Ap7, cp7, rfl, hs, rfl⟩
          have X7 := Lib.hid hs
          clear hs
          clear hck6 hbk6
          have hb := below_alloc' w4 (.cells #[.slice Ap7 (enc x).length cp7] 37)
          have M8 := Lib.hid (FsR.one X7.out 37)
          replace R4 := Lib.hid (R4.out.below hb)
          replace F4 := Lib.hid (F4.out.below hb)
          replace X7 := Lib.hid (X7.out.below hb)
          replace A := Lib.hid (bthen A.out hb)
          clear hb
          go_wp2_with fail
          refine (spec_l23With ps [(⟨Ap7, (enc x).length, cp7⟩, x)] _ _ _ R4.out M8.out (by simp only [List.length_cons, List.length_nil]; omega) HG.out (gdI_one hx)).mono ?_
          rintro e w41 ⟨r8, rfl, s8, hb⟩
          replace R4 := Lib.hid (R4.out.below hb)
          replace F4 := Lib.hid (F4.out.below hb)
          replace X7 := Lib.hid (X7.out.below hb)
          replace M8 := Lib.hid (M8.out.below hb)
          replace A := Lib.hid (bthen A.out hb)
          clear hb
          have T8 := Lib.hid s8
          clear s8 M8
          go_wp2_with fail
          refine (HR.out _ _ F4.out).mono ?_
          rintro e wz ⟨Ap9, cp9, rfl, hs, rfl⟩
          have X9 := Lib.hid hs
          clear hs
          have HV : Hid (vlB (fs2 ps) f = vlB (fs2 (wth ps [(⟨Ap7, (enc x).length, cp7⟩, x)])) y) := Lib.hid (by rw [HE.out]; exact vlB_eq (Val.impR.trans (Val.congr fun z => by rw [wth_mem, List.mem_append]; rfl)))
          go_wp2_with fail
          refine (IH.out (wth ps [(⟨Ap7, (enc x).length, cp7⟩, x)]) y _ _ _ (by have h9 := wth_sw ps [(⟨Ap7, (enc x).length, cp7⟩, x)]; rw [sw1] at h9; rw [HE.out]; have := sw_imp x y; omega) (wth_gd HG.out (gdI_one hx)) hy T8.out X9.out).mono ?_
          rintro e w42 ⟨rfl, hb⟩
          replace R4 := Lib.hid (R4.out.below hb)
          replace F4 := Lib.hid (F4.out.below hb)
          replace X7 := Lib.hid (X7.out.below hb)
          replace T8 := Lib.hid (T8.out.below hb)
          replace X9 := Lib.hid (X9.out.below hb)
          replace A := Lib.hid (bthen A.out hb)
          clear hb
          go_wp2
          go_ret
          exact ⟨by rw [HV.out]; rfl, A.out⟩
      · obtain ⟨kk, hkk⟩ : ∃ kk, kdI f = kk := ⟨_, rfl⟩
        have hk01 : kk = 0 ∨ kk = 1 := by rw [← hkk]; rcases hfe with ⟨s, rfl⟩ | rfl <;> simp [kdI]
        have HC : Hid ((∃ s, f = .var s ∧ .var s ∉ fs2 ps) ∨ f = .fls ∨ ∃ a b, f = .bin .or a b) := Lib.hid (hfe.elim (fun ⟨s, e⟩ => .inl ⟨s, e, e ▸ HNF.out⟩) (fun e => .inr (.inl e)))
        have HOR : Hid (∀ a b, f = .bin .or a b → ¬ Val (fs2 ps) a ∧ ¬ Val (fs2 ps) b) := Lib.hid fun a b e => by
          rcases hfe with ⟨s, h⟩ | h <;> (rw [h] at e; cases e)
        rw [hkk] at hck6
        clear hkk hfe
        rcases hk01 with rfl | rfl
        all_goals
          have B40 := Lib.hid A.out
          have R40 := Lib.hid R4.out
          have F40 := Lib.hid F4.out
          go_wp2
          go_loopw [10, 11, 12, 13, 14] (fun i a6 a7 a8 a9 wr => ∃ j : Nat, j ≤ ps.length ∧ i = .int .i64 j ∧ (∀ k, k < j → NoC ps f k) ∧ Below w.heap.size w wr) (fun i _ _ _ _ _ => ps.length - (intOf i).toNat)
          case atStart => exact ⟨0, Nat.zero_le _, rfl, fun k hk => absurd hk (Nat.not_lt_zero _), A.out⟩
          case round =>
            clear A B40 R4 F4 R40 F40
            obtain ⟨j, hj, rfl, hst, hb⟩ := hrel
            obtain ⟨w4, hw4⟩ : ∃ W, W = wr := ⟨_, rfl⟩
            subst hw4
            have NOC := Lib.hid hst
            have B4 := Lib.hid hb
            have R4 := Lib.hid (H.out.below hb)
            have F4 := Lib.hid (HF.out.below hb)
            clear hst hb
            by_cases hlt : j < ps.length
            · have i1 : (j : Int) < (ps.length : Int) := by omega
              have i2 : (j : Int) + 1 ≤ (ps.length : Int) := by omega
              have i3 : (j : Int) ≤ (c : Int) := by omega
              have i4 : (ps.length : Int) ≤ (c : Int) := by omega
              have i5 : j ≤ c := by omega
              obtain ⟨b, o, Ai, ci, rfl, hbl, hc, hs⟩ := R4.out.at_ hlt
              have HMm := Lib.hid (rst_mem ps hlt)
              have HSW := Lib.hid (rst_sw ps hlt)
              have hgr := rst_gd hlt HG.out
              have hfm : gdF1 (ps[j]).2 := HG.out _ ((rst_mem ps hlt _).2 (.inl rfl))
              have hrl := rst_len hlt
              have hSJ := STK2.out j hlt hlt
              have HNX : Hid ((∀ x y d, (ps[j]).2 = .bin .imp (.bin .imp x y) d → ¬ (Val ([.bin .imp y d] ++ fs2 (rst ps j)) (.bin .imp x y) ∧ Val ([d] ++ fs2 (rst ps j)) f)) → ∀ k, k < j + 1 → NoC ps f k) := Lib.hid fun h k hk => by
                rcases Nat.lt_or_ge k j with h1 | h1
                · exact NOC.out k h1
                · obtain rfl : k = j := by omega
                  exact fun _ => h
              have hrlN : (rst ps j).length ≤ 190000 := by omega
              have E4 := Lib.hid hs
              clear hs
              generalize (ps[j]).2 = fm at *
              have hfm40 := hfm.2.2
              have hep := enc_pos fm
              obtain ⟨bk7, ok7, ek7, hbk7, hck7⟩ := kdI_cell E4.out
              subst ek7
              rcases hSJ with ⟨s, rfl⟩ | ⟨s, d, rfl, -⟩ | ⟨x, y, d, rfl⟩
              · have ek : kdI (.var s) = 0 := rfl
                rw [ek] at hck7
                clear ek
                have A := Lib.hid B4.out
                have HN := Lib.hid (HNX.out (fun x y d e => by cases e))
                go_wp2
                go_roundw
                case rel => exact ⟨j + 1, by omega, by go_num, HN.out, A.out⟩
                case measure => simp [intOf]; omega
              · have ek : kdI (.bin .imp (.var s) d) = 4 := rfl
                rw [ek] at hck7
                clear ek
                have A := Lib.hid B4.out
                go_wp2_with fail
                refine (lftI .imp ((.var s)) d _ _ E4.out hfm40).mono ?_
                rintro e wz ⟨Ap8, cp8, rfl, hs, rfl⟩
                have X8 := Lib.hid hs
                clear hs
                obtain ⟨bk9, ok9, ek9, hbk9, hck9⟩ := kdI_cell X8.out
                subst ek9
                have hxp := enc_pos (.var s)
                have ek : kdI (.var s) = 0 := rfl
                rw [ek] at hck9
                clear ek
                have HN := Lib.hid (HNX.out (fun x y d e => by cases e))
                go_wp2
                go_roundw
                case rel => exact ⟨j + 1, by omega, by go_num, HN.out, A.out⟩
                case measure => simp [intOf]; omega
              · have ek : kdI (.bin .imp (.bin .imp x y) d) = 4 := rfl
                rw [ek] at hck7
                clear ek
                obtain ⟨hxy, hd⟩ := gd_bin hfm
                obtain ⟨hx, hy⟩ := gd_bin hxy
                have hx40 := hx.2.2
                have hy40 := hy.2.2
                have hd40 := hd.2.2
                have hxy40 := hxy.2.2
                have hl1 := Lib.hid (len_bin .imp (.bin .imp x y) d)
                have hl2 := Lib.hid (len_bin .imp x y)
                have hqd : gdF1 (.bin .imp y d) := gd_imp ⟨hy.1, hy.2.1⟩ ⟨hd.1, hd.2.1⟩ (by have := hl1.out; have := hl2.out; omega)
                go_wp2_with fail
                refine (lftI .imp ((.bin .imp x y)) d _ _ E4.out hfm40).mono ?_
                rintro e wz ⟨Ap8, cp8, rfl, hs, rfl⟩
                have X8 := Lib.hid hs
                clear hs
                obtain ⟨bk9, ok9, ek9, hbk9, hck9⟩ := kdI_cell X8.out
                subst ek9
                have hxp := enc_pos (.bin .imp x y)
                have ek : kdI (.bin .imp x y) = 4 := rfl
                rw [ek] at hck9
                clear ek
                go_upto_region 35 with fail
                obtain ⟨sl1, sl2⟩ := rst_sl R4.out hlt
                obtain ⟨m1, hm1⟩ : ∃ m, j + 1 = m := ⟨_, rfl⟩
                rw [hm1] at sl2
                have hwr : IntKind.i64.wrap ((j : Int) + 1) = (m1 : Int) := by rw [← hm1, IntWalk.i64_in _ ⟨by omega, by omega⟩]; omega
                have hm1n : (m1 : Int) ≤ (ps.length : Int) := by omega
                have hm1z : (0 : Int) ≤ (m1 : Int) := by omega
                have HM1 := Lib.hid hm1
                have SL1 := Lib.hid sl1
                have SL2 := Lib.hid sl2
                clear sl1 sl2 hm1
                have hI : Below w4.heap.size w4 (World.drew w4) := (Below.refl _ _).drew
                refine wp_region_sched (Below w4.heap.size w4) 10 [1, 2, 3, 5, 6, 7, 8] [1, 2, 3, 5, 6, 7, 8, 0, 4, 9] (by kernel_rfl) (by kernel_rfl) hI ?_
                repeat
                  apply wpSched_q rfl rfl
                  case h =>
                    intro w' hI K hK
                    simp only [quietV, stillV]
                    go_simp
                    exact hK
                  go_simp
                refine wpSched_r rfl rfl ?_ hI
                intro K hK _
                go_simp
                have hI1 : Below w4.heap.size w4 (World.drew (World.alloc w4 (.cells #[] 37))) := (below_alloc' _ _).drew
                refine hK _ _ hI1 ?_
                clear hK K
                have O0 : Hid (Ow cH 37 w4.heap.size (World.drew (World.alloc w4 (.cells #[] 37))) (.slice (some ⟨w4.heap.size, 0, none⟩) 0 0) []) := Lib.hid ((Ow.lit (K := cH) (w := w4) [] rfl rfl (Nat.le_refl _)).drewN 1)
                have SL1 := Lib.hid (SL1.out.below hI1)
                have SL2 := Lib.hid (SL2.out.below hI1)
                generalize World.drew (World.alloc w4 _) = wq at *
                refine wpSched_r rfl rfl ?_ hI1
                intro K hK _
                refine step_slS (K := cH) wq ty_fms rfl _ _ rfl (B := w4.heap.size) (v := .slice (some ⟨w4.heap.size, 0, none⟩) 0 0) (u := .slice (some ⟨b, o, none⟩) j c) (xs := []) (news := (ps.map (·.1)).take j) (by simp [Act.eval, Act.put]; done) O0.out (by simp [Act.eval, Act.put]; done) SL1.out (by simp only [List.length_nil, List.length_take, List.length_map]; omega) hI1.size ?_
                intro v6 w6 ho hg1 hb1 hat
                rw [List.nil_append] at ho
                have hI6 : Below w4.heap.size w4 w6 := hI1.trans hb1
                have SL2 := Lib.hid (SL2.out.keptAt hg1.size fun p hp hv => (hg1.cell_far p hp (fun e => by
                  have h1 : (Value.slice (if c = m1 then some ⟨b, o, none⟩ else some ⟨b, o + m1, none⟩) (ps.length - m1) (c - m1)).ownBlock = some p.block := hv
                  have h2 : b = p.block := by split at h1 <;> simpa [Value.ownBlock] using h1
                  have h3 : some p.block = some w4.heap.size := e
                  injection h3 with h3
                  omega)))
                obtain ⟨A6, c6, e6⟩ := ho.opn
                have hl6 : ((ps.map (·.1)).take j).length = j := by rw [List.length_take, List.length_map]; omega
                rw [hl6] at e6
                subst e6
                refine hK _ _ hI6 ?_
                clear hK K hat hg1 hb1
                refine wpSched_r rfl rfl ?_ hI6
                intro K hK _
                refine step_slS (K := cH) w6 ty_fms rfl _ _ rfl (B := w4.heap.size) (v := .slice A6 j c6) (u := .slice (if c = m1 then some ⟨b, o, none⟩ else some ⟨b, o + m1, none⟩) (ps.length - m1) (c - m1)) (xs := (ps.map (·.1)).take j) (news := (ps.map (·.1)).drop m1) (by simp [Act.eval, Act.put]; done) ho (by simp [Act.eval, Act.put]; done) SL2.out (by simp only [List.length_drop, List.length_take, List.length_map]; omega) hI6.size ?_
                intro v7 w7 ho hg1 hb1 hat
                have hI7 : Below w4.heap.size w4 w7 := hI6.trans hb1
                have er : (ps.map (·.1)).take j ++ (ps.map (·.1)).drop m1 = (rst ps j).map (·.1) := by rw [← HM1.out]; unfold rst; simp
                rw [er] at ho
                refine hK _ _ hI7 ?_
                clear hK K hat hg1 hb1 er
                refine wpSched_nil ?_
                try simp only [List.drop_succ_cons, List.drop_zero]
                have RR : Hid (FsR w7 v7 (rst ps j)) := Lib.hid ⟨ho.sl, fun p hp => (rst_all (P := fun p => Sl cN w4 p.1.val (enc p.2)) R4.out.2 p hp).below hI7⟩
                clear SL2
                generalize (if c = m1 then (some ⟨b, o, none⟩ : Option Addr) else some ⟨b, o + m1, none⟩) = A9 at *
                have E7 := Lib.hid (E4.out.below hI7)
                have A := Lib.hid (bthen B4.out hI7)
                have R7 := Lib.hid (R4.out.below hI7)
                have F7 := Lib.hid (F4.out.below hI7)
                clear X8 hck7 hbk7 hck9 hbk9
                clear hI7 ho hI hc hbl B4 R4 F4 E4 SL1 O0 hI1 hI6 HM1 hm1n hm1z hwr hl6
                obtain ⟨rs, hrs⟩ : ∃ rs, rst ps j = rs := ⟨_, rfl⟩
                rw [hrs] at RR HMm HSW HNX hgr hrl hrlN
                clear hrs
                obtain ⟨Ar, cr, er⟩ := RR.out.opn
                subst er
                go_wp2_with fail
                refine (lftI .imp ((.bin .imp x y)) d _ _ E7.out hfm40).mono ?_
                rintro e wz ⟨Ap10, cp10, rfl, hs, rfl⟩
                have X10 := Lib.hid hs
                clear hs
                go_wp2_with fail
                refine (rgtI .imp ((.bin .imp x y)) d _ _ E7.out hfm40).mono ?_
                rintro e wz ⟨Ap11, cp11, rfl, hs, rfl⟩
                have X11 := Lib.hid hs
                clear hs
                go_wp2_with fail
                refine (rgtI .imp x y _ _ X10.out hxy40).mono ?_
                rintro e wz ⟨Ap12, cp12, rfl, hs, rfl⟩
                have X12 := Lib.hid hs
                clear hs
                go_wp2_with fail
                refine (prI y d _ _ _ X12.out X11.out hy40 hd40).mono ?_
                rintro e w61 ⟨Ap13, cp13, rfl, s13, hb⟩
                replace RR := Lib.hid (RR.out.below hb)
                replace E7 := Lib.hid (E7.out.below hb)
                replace R7 := Lib.hid (R7.out.below hb)
                replace F7 := Lib.hid (F7.out.below hb)
                replace X10 := Lib.hid (X10.out.below hb)
                replace X11 := Lib.hid (X11.out.below hb)
                replace X12 := Lib.hid (X12.out.below hb)
                replace A := Lib.hid (bthen A.out hb)
                clear hb
                have X13 := Lib.hid s13
                clear s13
                go_wp2_with fail
                refine (lftI .imp x y _ _ X10.out hxy40).mono ?_
                rintro e wz ⟨Ap14, cp14, rfl, hs, rfl⟩
                have X14 := Lib.hid hs
                clear hs
                have hb := below_alloc' w61 (.cells #[.slice Ap13 (enc (.bin .imp y d)).length cp13, .slice Ap14 (enc x).length cp14] 37)
                have M15 := Lib.hid (FsR.two X13.out X14.out 37)
                replace RR := Lib.hid (RR.out.below hb)
                replace E7 := Lib.hid (E7.out.below hb)
                replace R7 := Lib.hid (R7.out.below hb)
                replace F7 := Lib.hid (F7.out.below hb)
                replace X10 := Lib.hid (X10.out.below hb)
                replace X11 := Lib.hid (X11.out.below hb)
                replace X12 := Lib.hid (X12.out.below hb)
                replace X13 := Lib.hid (X13.out.below hb)
                replace X14 := Lib.hid (X14.out.below hb)
                replace A := Lib.hid (bthen A.out hb)
                clear hb
                go_wp2_with fail
                refine (spec_l23With rs [(⟨Ap13, (enc (.bin .imp y d)).length, cp13⟩, .bin .imp y d), (⟨Ap14, (enc x).length, cp14⟩, x)] _ _ _ RR.out M15.out (by simp only [List.length_cons, List.length_nil]; omega) hgr (gdI_two hqd hx)).mono ?_
                rintro e w62 ⟨r15, rfl, s15, hb⟩
                replace RR := Lib.hid (RR.out.below hb)
                replace E7 := Lib.hid (E7.out.below hb)
                replace R7 := Lib.hid (R7.out.below hb)
                replace F7 := Lib.hid (F7.out.below hb)
                replace X10 := Lib.hid (X10.out.below hb)
                replace X11 := Lib.hid (X11.out.below hb)
                replace X12 := Lib.hid (X12.out.below hb)
                replace X13 := Lib.hid (X13.out.below hb)
                replace X14 := Lib.hid (X14.out.below hb)
                replace M15 := Lib.hid (M15.out.below hb)
                replace A := Lib.hid (bthen A.out hb)
                clear hb
                have T15 := Lib.hid s15
                clear s15 M15
                go_wp2_with fail
                refine (rgtI .imp x y _ _ X10.out hxy40).mono ?_
                rintro e wz ⟨Ap16, cp16, rfl, hs, rfl⟩
                have X16 := Lib.hid hs
                clear hs
                have HV1 := Lib.hid (wth_ii (rs := rs) (h := ⟨Ap13, (enc (.bin .imp y d)).length, cp13⟩) (h' := ⟨Ap14, (enc x).length, cp14⟩) (x := x) (y := y) (b := d))
                go_wp2_with fail
                refine (IH.out (wth rs [(⟨Ap13, (enc (.bin .imp y d)).length, cp13⟩, .bin .imp y d), (⟨Ap14, (enc x).length, cp14⟩, x)]) y _ _ _ (by rw [HSW.out]; exact wth_meas rs _ (by rw [sw2]; have := sw_ii1 x y d; have := sw_imp x y; omega)) (wth_gd hgr (gdI_two hqd hx)) hy T15.out X16.out).mono ?_
                rintro e w63 ⟨rfl, hb⟩
                replace RR := Lib.hid (RR.out.below hb)
                replace E7 := Lib.hid (E7.out.below hb)
                replace R7 := Lib.hid (R7.out.below hb)
                replace F7 := Lib.hid (F7.out.below hb)
                replace X10 := Lib.hid (X10.out.below hb)
                replace X11 := Lib.hid (X11.out.below hb)
                replace X12 := Lib.hid (X12.out.below hb)
                replace X13 := Lib.hid (X13.out.below hb)
                replace X14 := Lib.hid (X14.out.below hb)
                replace T15 := Lib.hid (T15.out.below hb)
                replace X16 := Lib.hid (X16.out.below hb)
                replace A := Lib.hid (bthen A.out hb)
                clear hb
                rw [← vlB_iff (G := fs2 (wth rs [(⟨Ap13, (enc (.bin .imp y d)).length, cp13⟩, .bin .imp y d), (⟨Ap14, (enc x).length, cp14⟩, x)]))] at HV1
                generalize vlB (fs2 (wth rs [(⟨Ap13, (enc (.bin .imp y d)).length, cp13⟩, .bin .imp y d), (⟨Ap14, (enc x).length, cp14⟩, x)])) y = q1 at *
                cases q1
                case false =>
                  have HN := Lib.hid (HNX.out (fun x1 y1 d1 e hv => by injection e with _ e1 e2; injection e1 with _ e3 e4; subst e2; subst e3; subst e4; have h9 := HV1.out.1 hv.1; cases h9))
                  go_wp2
                  go_roundw
                  case rel => exact ⟨j + 1, by omega, by go_num, HN.out, A.out⟩
                  case measure => simp [intOf]; omega
                case true =>
                  have hb := below_alloc' w63 (.cells #[.slice Ap11 (enc d).length cp11] 37)
                  have M17 := Lib.hid (FsR.one X11.out 37)
                  replace RR := Lib.hid (RR.out.below hb)
                  replace E7 := Lib.hid (E7.out.below hb)
                  replace R7 := Lib.hid (R7.out.below hb)
                  replace F7 := Lib.hid (F7.out.below hb)
                  replace X10 := Lib.hid (X10.out.below hb)
                  replace X11 := Lib.hid (X11.out.below hb)
                  replace X12 := Lib.hid (X12.out.below hb)
                  replace X13 := Lib.hid (X13.out.below hb)
                  replace X14 := Lib.hid (X14.out.below hb)
                  replace T15 := Lib.hid (T15.out.below hb)
                  replace X16 := Lib.hid (X16.out.below hb)
                  replace A := Lib.hid (bthen A.out hb)
                  clear hb
                  go_wp2_with fail
                  refine (spec_l23With rs [(⟨Ap11, (enc d).length, cp11⟩, d)] _ _ _ RR.out M17.out (by simp only [List.length_cons, List.length_nil]; omega) hgr (gdI_one hd)).mono ?_
                  rintro e w64 ⟨r17, rfl, s17, hb⟩
                  replace RR := Lib.hid (RR.out.below hb)
                  replace E7 := Lib.hid (E7.out.below hb)
                  replace R7 := Lib.hid (R7.out.below hb)
                  replace F7 := Lib.hid (F7.out.below hb)
                  replace X10 := Lib.hid (X10.out.below hb)
                  replace X11 := Lib.hid (X11.out.below hb)
                  replace X12 := Lib.hid (X12.out.below hb)
                  replace X13 := Lib.hid (X13.out.below hb)
                  replace X14 := Lib.hid (X14.out.below hb)
                  replace T15 := Lib.hid (T15.out.below hb)
                  replace X16 := Lib.hid (X16.out.below hb)
                  replace M17 := Lib.hid (M17.out.below hb)
                  replace A := Lib.hid (bthen A.out hb)
                  clear hb
                  have T17 := Lib.hid s17
                  clear s17 M17
                  have HV2 := Lib.hid (wth_val1 (h := ⟨Ap11, (enc d).length, cp11⟩) (Iff.refl (Val ([d] ++ fs2 rs) f)))
                  go_wp2_with fail
                  refine (IH.out (wth rs [(⟨Ap11, (enc d).length, cp11⟩, d)]) f _ _ _ (by rw [HSW.out]; exact wth_meas rs _ (by rw [sw1]; have := sw_imp (.bin .imp x y) d; omega)) (wth_gd hgr (gdI_one hd)) HFG.out T17.out F7.out).mono ?_
                  rintro e w65 ⟨rfl, hb⟩
                  replace RR := Lib.hid (RR.out.below hb)
                  replace E7 := Lib.hid (E7.out.below hb)
                  replace R7 := Lib.hid (R7.out.below hb)
                  replace F7 := Lib.hid (F7.out.below hb)
                  replace X10 := Lib.hid (X10.out.below hb)
                  replace X11 := Lib.hid (X11.out.below hb)
                  replace X12 := Lib.hid (X12.out.below hb)
                  replace X13 := Lib.hid (X13.out.below hb)
                  replace X14 := Lib.hid (X14.out.below hb)
                  replace T15 := Lib.hid (T15.out.below hb)
                  replace X16 := Lib.hid (X16.out.below hb)
                  replace T17 := Lib.hid (T17.out.below hb)
                  replace A := Lib.hid (bthen A.out hb)
                  clear hb
                  rw [← vlB_iff (G := fs2 (wth rs [(⟨Ap11, (enc d).length, cp11⟩, d)]))] at HV2
                  generalize vlB (fs2 (wth rs [(⟨Ap11, (enc d).length, cp11⟩, d)])) f = q2 at *
                  cases q2
                  case false =>
                    have HN := Lib.hid (HNX.out (fun x1 y1 d1 e hv => by injection e with _ e1 e2; injection e1 with _ e3 e4; subst e2; subst e3; subst e4; have h9 := HV2.out.1 hv.2; cases h9))
                    go_wp2
                    go_roundw
                    case rel => exact ⟨j + 1, by omega, by go_num, HN.out, A.out⟩
                    case measure => simp [intOf]; omega
                  case true =>
                    have HV : Hid (vlB (fs2 ps) f = true) := Lib.hid (vlB_true (Val.ii HMm.out (HV1.out.2 (by trivial)) (HV2.out.2 (by trivial))))
                    go_wp2
                    go_ret
                    exact ⟨by rw [HV.out]; rfl, A.out⟩
            · obtain rfl : j = ps.length := by omega
              have HV := Lib.hid (noC_all HIRR.out HC.out NOC.out HOR.out)
              go_wp2
              go_ret
              exact ⟨by rw [HV.out]; rfl, B4.out⟩

theorem srOK : ∀ N : Nat, N ≤ 190000 → SrOK N := fun N => by
  induction N using Nat.strongRecOn with
  | ind N ih => exact fun hN => spec_l23Search_step N hN fun M hM => ih M hM (by omega)
theorem spec_l23Search (ps : List (Hd × Fm)) (f : Fm) (v u : Value) (w : World) (hs : swL (fs2 ps) + sw f ≤ 190000) (hg : gdI (fs2 ps)) (hf : gdF1 f) (h : FsR w v ps) (h' : Sl cN w u (enc f)) :
    Calls Tryz.prog 27 #[v, u] w fun e w' => e = .returned (.bool (vlB (fs2 ps) f)) ∧ Below w.heap.size w w' := srOK 190000 (Nat.le_refl _) ps f v u w hs hg hf h h'
end Go.Proofs.YtaigiopoogbbbaaGreat
