/- Joined of several texts: M07X, TL, DP. -/
import Derived.Test.YtnolbgdbboiehaaGreatTM
import Derived.Test.YtnolbgdbboiehaaGreatM07S
import Derived.Test.YtnolbgdbboiehaaGreat06u
import Derived.Test.YtnolbgdbboiehaaGreatM3
namespace Go.Proofs.YtnolbgdbboiehaaGreat
open Go.RowKit
set_option linter.unusedVariables false
set_option linter.unusedSimpArgs false
/- Plain law of FnTelling: a telling formula is true at the one world and not at the other, and no deeper than the rounds. No program in sight. -/
/-- the modal depth -/
def Fm.md : Fm → Nat
  | .var _ => 0
  | .fls => 0
  | .bin _ a b => max a.md b.md
  | .un _ a => a.md + 1
/-- formulas joined from the left -/
def jM (k : BK) (a : Fm) (fs : List Fm) : Fm := fs.foldl (fun a b => .bin k a b) a
theorem jM_enc (k : BK) (a : Fm) (fs : List Fm) : enc (jM k a fs) = joinL k.i ((a :: fs).map enc) := by
  unfold jM joinL
  induction fs generalizing a with
  | nil => simp
  | cons b fs ih =>
    rw [List.foldl_cons, ih]
    simp only [List.map_cons, List.length_cons, List.length_map, List.flatten_cons, Nat.add_sub_cancel, enc, List.replicate_succ', List.append_assoc, List.cons_append, List.nil_append]
theorem jM_ok (k : BK) (a : Fm) (fs : List Fm) (ha : a.ok = true) (h : ∀ f ∈ fs, f.ok = true) : (jM k a fs).ok = true := by
  unfold jM
  induction fs generalizing a with
  | nil => exact ha
  | cons b fs ih =>
    rw [List.foldl_cons]
    exact ih _ (by simp [Fm.ok, ha, h b (List.mem_cons_self ..)]) fun f hf => h f (List.mem_cons_of_mem _ hf)
theorem jM_md (k : BK) (a : Fm) (fs : List Fm) {m : Nat} (ha : a.md ≤ m) (h : ∀ f ∈ fs, f.md ≤ m) : (jM k a fs).md ≤ m := by
  unfold jM
  induction fs generalizing a with
  | nil => exact ha
  | cons b fs ih =>
    rw [List.foldl_cons]
    exact ih _ (by have := h b (List.mem_cons_self ..); simp only [Fm.md]; omega) fun f hf => h f (List.mem_cons_of_mem _ hf)
theorem jM_or (ns us : List Nat) (a : Fm) (fs : List Fm) (x : Nat) : (tv ns us (jM .or a fs)).testBit x = ((tv ns us a).testBit x || fs.any fun f => (tv ns us f).testBit x) := by
  unfold jM
  induction fs generalizing a with
  | nil => simp
  | cons b fs ih => rw [List.foldl_cons, ih, tv, Nat.testBit_or]; simp [Bool.or_assoc]
theorem jM_and (ns us : List Nat) (a : Fm) (fs : List Fm) (x : Nat) : (tv ns us (jM .and a fs)).testBit x = ((tv ns us a).testBit x && fs.all fun f => (tv ns us f).testBit x) := by
  unfold jM
  induction fs generalizing a with
  | nil => simp
  | cons b fs ih => rw [List.foldl_cons, ih, tv, Nat.testBit_and]; simp [Bool.and_assoc]
/-- all together, and one of them -/
def cjF : List Fm → Fm
  | [] => .bin .imp .fls .fls
  | f :: fs => jM .and f fs
def djF : List Fm → Fm
  | [] => .fls
  | f :: fs => jM .or f fs
theorem cjF_enc (fs : List Fm) : enc (cjF fs) = joinA 2 (fs.map enc) := by
  cases fs with
  | nil => rfl
  | cons f fs => rw [cjF, jM_enc, joinA, if_neg (by simp)]; rfl
theorem djF_enc (fs : List Fm) : enc (djF fs) = joinA 3 (fs.map enc) := by
  cases fs with
  | nil => rfl
  | cons f fs => rw [djF, jM_enc, joinA, if_neg (by simp)]; rfl
theorem cjF_ok (fs : List Fm) (h : ∀ f ∈ fs, f.ok = true) : (cjF fs).ok = true := by
  cases fs with
  | nil => rfl
  | cons f fs => exact jM_ok _ _ _ (h f List.mem_cons_self) fun g hg => h g (List.mem_cons_of_mem _ hg)
theorem djF_ok (fs : List Fm) (h : ∀ f ∈ fs, f.ok = true) : (djF fs).ok = true := by
  cases fs with
  | nil => rfl
  | cons f fs => exact jM_ok _ _ _ (h f List.mem_cons_self) fun g hg => h g (List.mem_cons_of_mem _ hg)
theorem cjF_md (fs : List Fm) {m : Nat} (h : ∀ f ∈ fs, f.md ≤ m) : (cjF fs).md ≤ m := by
  cases fs with
  | nil => exact Nat.zero_le _
  | cons f fs => exact jM_md _ _ _ (h f List.mem_cons_self) fun g hg => h g (List.mem_cons_of_mem _ hg)
theorem djF_md (fs : List Fm) {m : Nat} (h : ∀ f ∈ fs, f.md ≤ m) : (djF fs).md ≤ m := by
  cases fs with
  | nil => exact Nat.zero_le _
  | cons f fs => exact jM_md _ _ _ (h f List.mem_cons_self) fun g hg => h g (List.mem_cons_of_mem _ hg)
theorem full_bit {n i : Nat} (h : i < n) : (2 ^ n - 1 : Nat).testBit i = true := by rw [Nat.testBit_two_pow_sub_one, decide_eq_true h]
theorem cjF_tv (ns us : List Nat) (fs : List Fm) {x : Nat} (hx : x < ns.length) : (tv ns us (cjF fs)).testBit x = fs.all fun f => (tv ns us f).testBit x := by
  cases fs with
  | nil => rw [cjF, tv, Nat.testBit_or, andnot_testBit, full_bit hx, tv]; simp
  | cons f fs => rw [cjF, jM_and]; rfl
theorem djF_tv (ns us : List Nat) (fs : List Fm) (x : Nat) : (tv ns us (djF fs)).testBit x = fs.any fun f => (tv ns us f).testBit x := by
  cases fs with
  | nil => rw [djF, tv]; simp
  | cons f fs => rw [djF, jM_or]; rfl
theorem dia_bit (ns us : List Nat) (h : RelN ns) (a : Fm) {x : Nat} (hx : x < ns.length) : (tv ns us (.un .dia a)).testBit x = true ↔ ∃ v, v < ns.length ∧ (ns.getD x 0).testBit v = true ∧ (tv ns us a).testBit v = true := by
  rw [tv, andnot_testBit, full_bit hx, Bool.true_and, Bool.not_eq_true', ← Bool.not_eq_true, bx_bit _ _ _ hx h]
  constructor
  · intro hn
    refine Classical.byContradiction fun hc => hn fun v hv hr => ?_
    rw [andnot_testBit, full_bit hv, Bool.true_and, Bool.not_eq_true']
    cases q : (tv ns us a).testBit v
    · rfl
    · exact absurd ⟨v, hv, hr, q⟩ hc
  · rintro ⟨v, hv, hr, ht⟩ hn
    have := hn v hv hr
    rw [andnot_testBit, ht] at this
    simp at this
theorem joi_some {md op : Int} {parts : List (Option (List Nd))} {xs : List Nd} (h : joi md op parts = some xs) : parts.all Option.isSome = true ∧ xs = (md, 0) :: joinA op (parts.filterMap id) := by
  unfold joi at h
  split at h
  · rename_i hp
    split at h
    · injection h with h
      exact ⟨hp, h.symm⟩
    · cases h
  · cases h
/-- the parts of a joined formula, as formulas -/
theorem parts_fm (P : Nat → Fm → Prop) (T : Nat → Option (List Nd)) (l : List Nat) (h : ∀ j ∈ l, ∀ zs, T j = some zs → ∃ f : Fm, enc f = zs ∧ P j f) (ha : (l.map T).all Option.isSome = true) :
    ∃ fs : List Fm, fs.map enc = (l.map T).filterMap id ∧ (∀ f ∈ fs, ∃ j ∈ l, P j f) ∧ ∀ j ∈ l, ∃ f ∈ fs, P j f := by
  induction l with
  | nil => exact ⟨[], rfl, fun f hf => (by cases hf), fun j hj => (by cases hj)⟩
  | cons j l ih =>
    rw [List.map_cons, List.all_cons, Bool.and_eq_true] at ha
    obtain ⟨fs, h1, h2, h3⟩ := ih (fun i hi => h i (List.mem_cons_of_mem _ hi)) ha.2
    cases hT : T j with
    | none => rw [hT] at ha; simp at ha
    | some zs =>
      obtain ⟨f, hf1, hf2⟩ := h j List.mem_cons_self zs hT
      refine ⟨f :: fs, by simp [hT, hf1, h1], fun g hg => ?_, fun i hi => ?_⟩
      · rcases List.mem_cons.1 hg with rfl | hg
        · exact ⟨j, List.mem_cons_self, hf2⟩
        · obtain ⟨i, hi, hp⟩ := h2 g hg
          exact ⟨i, List.mem_cons_of_mem _ hi, hp⟩
      · rcases List.mem_cons.1 hi with rfl | hi
        · exact ⟨f, List.mem_cons_self, hf2⟩
        · obtain ⟨g, hg, hp⟩ := h3 i hi
          exact ⟨g, List.mem_cons_of_mem _ hg, hp⟩
/-- what a telling formula says -/
def Tls (ns us ks ts : List Nat) (k x y : Nat) (f : Fm) : Prop := f.ok = true ∧ f.md ≤ k ∧ (tv ns us f).testBit x = true ∧ (tv ks ts f).testBit y = false
theorem tab_fm (ns us ks ts : List Nat) (h1 : MdN ns us) (h2 : MdN ks ts) (k : Nat) : ∀ {x y : Nat} {xs : List Nd}, x < ns.length → y < ks.length → tab ns us ks ts k x y = some xs → ∃ f : Fm, enc f = xs ∧ Tls ns us ks ts k x y f := by
  have h8 := h1.r.1
  have h8' := h2.r.1
  induction k with
  | zero =>
    intro x y xs hx hy h
    rw [tab] at h
    split at h
    · unfold atomF at h
      cases hd : dif us ts x y with
      | none => rw [hd] at h; cases h
      | some v =>
        rw [hd] at h
        injection h with h
        have hd1 := List.find?_some hd
        have hv : v < 6 := List.mem_range.1 (List.mem_of_find?_eq_some hd)
        dsimp only [litF] at h
        split at h
        · rename_i hb
          refine ⟨.var v, h, by simp [Fm.ok]; omega, Nat.le_refl _, hb, ?_⟩
          rw [tv]
          rw [hb] at hd1
          simpa using hd1
        · rename_i hb
          have hb' : (us.getD v 0).testBit x = false := by simpa using hb
          rw [hb'] at hd1
          have hd2 : (ts.getD v 0).testBit y = true := by simpa using hd1
          refine ⟨.bin .imp (.var v) .fls, h, by simp [Fm.ok]; omega, Nat.le_refl _, ?_, ?_⟩
          · rw [tv, Nat.testBit_or, andnot_testBit, full_bit hx, tv, hb']; rfl
          · rw [tv, Nat.testBit_or, andnot_testBit, tv, hd2, tv]; simp
    · cases h
  | succ k ih =>
    intro x y xs hx hy h
    rw [tab] at h
    split at h
    · rename_i hrd
      have hk17 : k < 17 := by have := (rd_spec hrd).1; omega
      unfold tstep at h
      split at h
      · rename_i s hs
        obtain ⟨-, hsx, -⟩ := lonW_some hk17 hs
        have hsl : s < ns.length := bit_lt (getD_lt h1.r.2 x) hsx
        obtain ⟨ha, rfl⟩ := joi_some h
        have hmem : ∀ j ∈ mn (ks.getD y 0), j < ks.length ∧ (ks.getD y 0).testBit j = true := fun j hj => ⟨bit_lt (getD_lt h2.r.2 y) (mn_mem.1 hj).2, (mn_mem.1 hj).2⟩
        obtain ⟨fs, e1, e2, e3⟩ := parts_fm (fun j f => Tls ns us ks ts k s j f) (fun j => tab ns us ks ts k s j) _ (fun j hj zs hz => ih hsl (hmem j hj).1 hz) ha
        have hP : ∀ f ∈ fs, f.ok = true ∧ f.md ≤ k ∧ (tv ns us f).testBit s = true := fun f hf => by obtain ⟨j, _, p1, p2, p3, _⟩ := e2 f hf; exact ⟨p1, p2, p3⟩
        refine ⟨.un .dia (cjF fs), by rw [enc, cjF_enc, e1]; rfl, cjF_ok fs fun f hf => (hP f hf).1, by have := cjF_md fs fun f hf => (hP f hf).2.1; simp only [Fm.md]; omega, ?_, ?_⟩
        · rw [dia_bit ns us h1.r _ hx]
          exact ⟨s, hsl, hsx, by rw [cjF_tv ns us fs hsl, List.all_eq_true]; exact fun f hf => (hP f hf).2.2⟩
        · rw [← Bool.not_eq_true, dia_bit ks ts h2.r _ hy]
          rintro ⟨j, hj, hr, ht⟩
          obtain ⟨f, hf, -, -, -, p4⟩ := e3 j (mn_mem.2 ⟨by omega, hr⟩)
          rw [cjF_tv ks ts fs hj, List.all_eq_true] at ht
          have := ht f hf
          rw [p4] at this; cases this
      · split at h
        · rename_i j hj
          obtain ⟨-, hjy, -⟩ := miss_some hk17 (by omega) h1.r.2 hj
          have hjl : j < ks.length := bit_lt (getD_lt h2.r.2 y) hjy
          obtain ⟨ha, rfl⟩ := joi_some h
          have hmem : ∀ i ∈ mn (ns.getD x 0), i < ns.length ∧ (ns.getD x 0).testBit i = true := fun i hi => ⟨bit_lt (getD_lt h1.r.2 x) (mn_mem.1 hi).2, (mn_mem.1 hi).2⟩
          obtain ⟨fs, e1, e2, e3⟩ := parts_fm (fun i f => Tls ns us ks ts k i j f) (fun i => tab ns us ks ts k i j) _ (fun i hi zs hz => ih (hmem i hi).1 hjl hz) ha
          have hP : ∀ f ∈ fs, f.ok = true ∧ f.md ≤ k ∧ (tv ks ts f).testBit j = false := fun f hf => by obtain ⟨i, _, p1, p2, _, p4⟩ := e2 f hf; exact ⟨p1, p2, p4⟩
          refine ⟨.un .box (djF fs), by rw [enc, djF_enc, e1]; rfl, djF_ok fs fun f hf => (hP f hf).1, by have := djF_md fs fun f hf => (hP f hf).2.1; simp only [Fm.md]; omega, ?_, ?_⟩
          · rw [tv, bx_bit _ _ _ hx h1.r]
            intro i hi hr
            obtain ⟨f, hf, -, -, p3, -⟩ := e3 i (mn_mem.2 ⟨by omega, hr⟩)
            rw [djF_tv, List.any_eq_true]
            exact ⟨f, hf, p3⟩
          · rw [tv, ← Bool.not_eq_true, bx_bit _ _ _ hy h2.r]
            intro hn
            have := hn j hjl hjy
            rw [djF_tv, List.any_eq_true] at this
            obtain ⟨f, hf, p⟩ := this
            rw [(hP f hf).2.2] at p; cases p
        · cases h
    · obtain ⟨f, e, p1, p2, p3, p4⟩ := ih hx hy h
      exact ⟨f, e, p1, by omega, p3, p4⟩
/-- worlds that nothing tells apart agree in all formulas -/
theorem rd_tv {ns us ks ts : List Nat} (h1 : MdN ns us) (h2 : MdN ks ts) {x y : Nat} (hx : x < ns.length) (hy : y < ks.length) (h : rd ns us ks ts x y = none) (f : Fm) : (tv ns us f).testBit x = (tv ks ts f).testBit y := by
  refine bz_tv (A := (ns, us)) (B := (ks, ts)) h1.r h2.r h1.l h2.l f hx hy ?_
  unfold rd at h
  rw [List.find?_eq_none] at h
  have := h 16 (by simp)
  unfold bz
  simpa using this
/- RoundsToTell of both sides, IsTrueAt of the program. -/
theorem mkN_okT {n m : Nat} (hn : n ≤ 8) (hm : m < 2 ^ n) : mkOk n (m : Int) = true := by
  rw [mkOk_small (by omega)]
  refine inR_true (Int.natCast_nonneg _) ?_
  rw [Int.toNat_natCast, full_cast (by omega)]
  exact Int.ofNat_le.2 (by omega)
theorem mdN_okT {ns us : List Nat} (h : MdN ns us) : mdOk ns.length (li ns) (li us) = true := by
  have h1 := h.r.1
  have hf : frOk ns.length (li ns) = true := by
    unfold frOk
    rw [inR_true (by omega) (by omega), Bool.true_and, li_length, decide_eq_true rfl, Bool.true_and]
    unfold relOk
    rw [List.all_eq_true]
    intro m hm
    unfold li at hm
    obtain ⟨a, ha, rfl⟩ := List.mem_map.1 hm
    rw [li_length]
    exact mkN_okT h1 (h.r.2 a ha)
  unfold mdOk
  rw [hf, li_length, h.l, decide_eq_true rfl, Bool.true_and, Bool.true_and, List.all_eq_true]
  intro m hm
  unfold li at hm
  obtain ⟨a, ha, rfl⟩ := List.mem_map.1 hm
  exact mkN_okT h.r.1 (h.b a ha)
def rdV (ns us ks ts : List Nat) (x y : Nat) : Int := if rdI ns us ks ts x y < 0 then 0 else rdI ns us ks ts x y
def rdC (ns us ks ts : List Nat) (x y : Nat) : Int := if rdI ns us ks ts x y < 0 then 4 else 0
set_option maxRecDepth 100000 in
theorem impl_RoundsToTell_ok (ns us ks ts : List Nat) (x y : Nat) (A0 A1 B0 B1 : Option Addr) (c0 c1 d0 d1 : Nat) (w : World) (hm : Mdl w (.slice A0 ns.length c0) (.slice A1 6 c1) ns us) (hm2 : Mdl w (.slice B0 ks.length d0) (.slice B1 6 d1) ks ts) (h1 : MdN ns us) (h2 : MdN ks ts) (hc : tcode ns.length (li ns) (li us) x ks.length (li ks) (li ts) y = 0) (hx : x < ns.length) (hy : y < ks.length) :
    Calls Tryz.prog 23 #[.agg #[.int .i64 ns.length, .slice A0 ns.length c0, .slice A1 6 c1], .int .i64 x, .agg #[.int .i64 ks.length, .slice B0 ks.length d0, .slice B1 6 d1], .int .i64 y] w fun e w' => e = .returned (.tuple #[.int .i64 (rdV ns us ks ts x y), .int .i64 (rdC ns us ks ts x y)]) ∧ Below w.heap.size w w' := by
  have hb0 := below_alloc' w (.cells #[.int .i64 ns.length, .slice A0 ns.length c0, .slice A1 6 c1] 28)
  have hk0 := Blk.new w 28 #[.int .i64 ns.length, .slice A0 ns.length c0, .slice A1 6 c1]
  have hb1 := below_alloc' (w.alloc (.cells #[.int .i64 ns.length, .slice A0 ns.length c0, .slice A1 6 c1] 28)) (.cells #[.int .i64 ks.length, .slice B0 ks.length d0, .slice B1 6 d1] 28)
  have hk1 : Blk _ (w.heap.size + 1) _ _ := Blk.new' (w.alloc (.cells #[.int .i64 ns.length, .slice A0 ns.length c0, .slice A1 6 c1] 28)) 28 #[.int .i64 ks.length, .slice B0 ks.length d0, .slice B1 6 d1] (by simp)
  have HB := Lib.hid (bthen hb0 hb1)
  have HK0 := Lib.hid (hk0.below hb1 hk0.lt)
  have HK1 := Lib.hid hk1
  have HC := Lib.hid (fun W (hW : Below w.heap.size w W) => hc ▸ impl_tellingCode ns.length x ks.length y _ _ _ _ (li ns) (li us) (li ks) (li ts) W (hm.a.below hW) (hm.u.below hW) (hm2.a.below hW) (hm2.u.below hW) (by rw [li_length, li_length, h1.l]; have := h1.r.1; omega) (by rw [li_length, li_length, h2.l]; have := h2.r.1; omega))
  have HNew := Lib.hid (fun W (hW : Below w.heap.size w W) => impl_newTeller ns us ks ts A0 A1 B0 B1 c0 c1 d0 d1 W (hm.below hW) (hm2.below hW) h1 h2)
  have HRo := Lib.hid (fun p L lc W hT => impl_rounds p ns us ks ts A0 A1 B0 B1 L c0 c1 d0 d1 lc x y W hT h1 h2 hx hy)
  have HV : Hid (rdV ns us ks ts x y = if rdI ns us ks ts x y < 0 then 0 else rdI ns us ks ts x y) := Lib.hid rfl
  have HCo : Hid (rdC ns us ks ts x y = if rdI ns us ks ts x y < 0 then 4 else 0) := Lib.hid rfl
  clear hb0 hb1 hk0 hk1 hm hm2 h1 h2 hc hx hy
  generalize rdV ns us ks ts x y = rv at *
  generalize rdC ns us ks ts x y = rc at *
  generalize rdI ns us ks ts x y = ri at *
  go_enter Tryz.func23, Tryz.ntmps23
  go_upto_region 1 with fail
  generalize World.alloc (w.alloc _) _ = W at *
  have k0 := HK0.out.cell
  have k1 := HK1.out.cell
  have l0 := HK0.out.lt
  have l1 := HK1.out.lt
  go_wp2_with fail
  refine (HC.out _ HB.out).mono ?_
  rintro e w1 ⟨rfl, hb⟩
  have HB1 := Lib.hid (bthen HB.out hb)
  have hk0 := HK0.out.below hb HK0.out.lt
  have hk1 := HK1.out.below hb HK1.out.lt
  clear hb k0 k1 l0 l1 HK0 HK1
  have k0 := hk0.cell
  have k1 := hk1.cell
  have l0 := hk0.lt
  have l1 := hk1.lt
  clear hk0 hk1
  go_wp2_with fail
  refine (HNew.out _ HB1.out).mono ?_
  rintro e w2 ⟨p, L, lc, rfl, hT, hb⟩
  have HT := Lib.hid hT
  have HB2 := Lib.hid (bthen HB1.out hb)
  clear hb hT k0 k1 l0 l1
  go_wp2_with fail
  refine (HRo.out p L lc _ HT.out).mono ?_
  rintro e w3 ⟨rfl, hb⟩
  have HB3 := Lib.hid (bthen HB2.out hb)
  clear hb HT
  by_cases hr : ri < 0
  · have e1 := HV.out
    have e2 := HCo.out
    rw [if_pos hr] at e1 e2
    subst e1 e2
    clear HV HCo
    go_wp2
    go_ret2
    exact ⟨rfl, HB3.out⟩
  · have e1 := HV.out
    have e2 := HCo.out
    rw [if_neg hr] at e1 e2
    subst e1 e2
    clear HV HCo
    go_wp2
    go_ret2
    exact ⟨rfl, HB3.out⟩
set_option maxRecDepth 100000 in
theorem impl_RoundsToTell_bad (n x k y : Int) (va vu vb vt : Value) (xs vs ys ts : List Int) (w : World) (ha : Sl cI w va xs) (hu : Sl cI w vu vs) (hb : Sl cI w vb ys) (ht : Sl cI w vt ts) (hl : xs.length + vs.length ≤ 1048576) (hl' : ys.length + ts.length ≤ 1048576) (hc : tcode n xs vs x k ys ts y ≠ 0) :
    Calls Tryz.prog 23 #[.agg #[.int .i64 n, va, vu], .int .i64 x, .agg #[.int .i64 k, vb, vt], .int .i64 y] w fun e w' => e = .returned (.tuple #[.int .i64 0, .int .i64 (tcode n xs vs x k ys ts y)]) ∧ Below w.heap.size w w' := by
  obtain ⟨A0, c0, rfl⟩ := ha.opn
  obtain ⟨A1, c1, rfl⟩ := hu.opn
  obtain ⟨B0, d0, rfl⟩ := hb.opn
  obtain ⟨B1, d1, rfl⟩ := ht.opn
  have hb0 := below_alloc' w (.cells #[.int .i64 n, .slice A0 xs.length c0, .slice A1 vs.length c1] 28)
  have hk0 := Blk.new w 28 #[.int .i64 n, .slice A0 xs.length c0, .slice A1 vs.length c1]
  have hb1 := below_alloc' (w.alloc (.cells #[.int .i64 n, .slice A0 xs.length c0, .slice A1 vs.length c1] 28)) (.cells #[.int .i64 k, .slice B0 ys.length d0, .slice B1 ts.length d1] 28)
  have hk1 : Blk _ (w.heap.size + 1) _ _ := Blk.new' (w.alloc (.cells #[.int .i64 n, .slice A0 xs.length c0, .slice A1 vs.length c1] 28)) 28 #[.int .i64 k, .slice B0 ys.length d0, .slice B1 ts.length d1] (by simp)
  have hbb := bthen hb0 hb1
  have HB := Lib.hid hbb
  have HK0 := Lib.hid (hk0.below hb1 hk0.lt)
  have HK1 := Lib.hid hk1
  have HC := Lib.hid (fun W (hW : Below w.heap.size w W) => impl_tellingCode n x k y _ _ _ _ xs vs ys ts W (ha.below hW) (hu.below hW) (hb.below hW) (ht.below hW) hl hl')
  have hc' : (tcode n xs vs x k ys ts y != 0) = true := by simpa using hc
  generalize tcode n xs vs x k ys ts y = q at *
  clear hb0 hb1 hk0 hk1 hbb ha hu hb ht hc
  go_enter Tryz.func23, Tryz.ntmps23
  go_upto_region 1 with fail
  generalize World.alloc (w.alloc _) _ = W at *
  have k0 := HK0.out.cell
  have k1 := HK1.out.cell
  have l0 := HK0.out.lt
  have l1 := HK1.out.lt
  go_wp2_with fail
  refine (HC.out _ HB.out).mono ?_
  rintro e w1 ⟨rfl, hb⟩
  have HB1 := Lib.hid (bthen HB.out hb)
  clear hb k0 k1 l0 l1
  go_wp2
  go_ret2
  exact ⟨rfl, HB1.out⟩
set_option maxRecDepth 100000 in
theorem spec_RoundsToTell_bad (n x k y : Int) (va vu vb vt : Value) (xs vs ys ts : List Int) (w : World) (ha : Sl cI w va xs) (hu : Sl cI w vu vs) (hb : Sl cI w vb ys) (ht : Sl cI w vt ts) (hl : xs.length + vs.length ≤ 1048576) (hl' : ys.length + ts.length ≤ 1048576) (hc : tcode n xs vs x k ys ts y ≠ 0) :
    Calls Tryz.prog 24 #[.agg #[.int .i64 n, va, vu], .int .i64 x, .agg #[.int .i64 k, vb, vt], .int .i64 y] w fun e w' => e = .returned (.tuple #[.int .i64 0, .int .i64 (tcode n xs vs x k ys ts y)]) ∧ Below w.heap.size w w' := by
  obtain ⟨A0, c0, rfl⟩ := ha.opn
  obtain ⟨A1, c1, rfl⟩ := hu.opn
  obtain ⟨B0, d0, rfl⟩ := hb.opn
  obtain ⟨B1, d1, rfl⟩ := ht.opn
  have hb0 := below_alloc' w (.cells #[.int .i64 n, .slice A0 xs.length c0, .slice A1 vs.length c1] 28)
  have hk0 := Blk.new w 28 #[.int .i64 n, .slice A0 xs.length c0, .slice A1 vs.length c1]
  have hb1 := below_alloc' (w.alloc (.cells #[.int .i64 n, .slice A0 xs.length c0, .slice A1 vs.length c1] 28)) (.cells #[.int .i64 k, .slice B0 ys.length d0, .slice B1 ts.length d1] 28)
  have hk1 : Blk _ (w.heap.size + 1) _ _ := Blk.new' (w.alloc (.cells #[.int .i64 n, .slice A0 xs.length c0, .slice A1 vs.length c1] 28)) 28 #[.int .i64 k, .slice B0 ys.length d0, .slice B1 ts.length d1] (by simp)
  have hbb := bthen hb0 hb1
  have HB := Lib.hid hbb
  have HK0 := Lib.hid (hk0.below hb1 hk0.lt)
  have HK1 := Lib.hid hk1
  have HC := Lib.hid (fun W (hW : Below w.heap.size w W) => spec_l07Places n x k y _ _ _ _ xs vs ys ts W (ha.below hW) (hu.below hW) (hb.below hW) (ht.below hW) hl hl')
  have hc' : (tcode n xs vs x k ys ts y != 0) = true := by simpa using hc
  generalize tcode n xs vs x k ys ts y = q at *
  clear hb0 hb1 hk0 hk1 hbb ha hu hb ht hc
  go_enter Tryz.func24, Tryz.ntmps24
  go_upto_region 1 with fail
  generalize World.alloc (w.alloc _) _ = W at *
  have k0 := HK0.out.cell
  have k1 := HK1.out.cell
  have l0 := HK0.out.lt
  have l1 := HK1.out.lt
  go_wp2_with fail
  refine (HC.out _ HB.out).mono ?_
  rintro e w1 ⟨rfl, hb⟩
  have HB1 := Lib.hid (bthen HB.out hb)
  clear hb k0 k1 l0 l1
  go_wp2
  go_ret2
  exact ⟨rfl, HB1.out⟩
set_option maxRecDepth 100000 in
theorem spec_RoundsToTell_ok (ns us ks ts : List Nat) (x y : Nat) (A0 A1 B0 B1 : Option Addr) (c0 c1 d0 d1 : Nat) (w : World) (hm : Mdl w (.slice A0 ns.length c0) (.slice A1 6 c1) ns us) (hm2 : Mdl w (.slice B0 ks.length d0) (.slice B1 6 d1) ks ts) (h1 : MdN ns us) (h2 : MdN ks ts) (hc : tcode ns.length (li ns) (li us) x ks.length (li ks) (li ts) y = 0) (hx : x < ns.length) (hy : y < ks.length) :
    Calls Tryz.prog 24 #[.agg #[.int .i64 ns.length, .slice A0 ns.length c0, .slice A1 6 c1], .int .i64 x, .agg #[.int .i64 ks.length, .slice B0 ks.length d0, .slice B1 6 d1], .int .i64 y] w fun e w' => e = .returned (.tuple #[.int .i64 (rdV ns us ks ts x y), .int .i64 (rdC ns us ks ts x y)]) ∧ Below w.heap.size w w' := by
  have hb0 := below_alloc' w (.cells #[.int .i64 ns.length, .slice A0 ns.length c0, .slice A1 6 c1] 28)
  have hk0 := Blk.new w 28 #[.int .i64 ns.length, .slice A0 ns.length c0, .slice A1 6 c1]
  have hb1 := below_alloc' (w.alloc (.cells #[.int .i64 ns.length, .slice A0 ns.length c0, .slice A1 6 c1] 28)) (.cells #[.int .i64 ks.length, .slice B0 ks.length d0, .slice B1 6 d1] 28)
  have hk1 : Blk _ (w.heap.size + 1) _ _ := Blk.new' (w.alloc (.cells #[.int .i64 ns.length, .slice A0 ns.length c0, .slice A1 6 c1] 28)) 28 #[.int .i64 ks.length, .slice B0 ks.length d0, .slice B1 6 d1] (by simp)
  have HB := Lib.hid (bthen hb0 hb1)
  have HK0 := Lib.hid (hk0.below hb1 hk0.lt)
  have HK1 := Lib.hid hk1
  have HC := Lib.hid (fun W (hW : Below w.heap.size w W) => hc ▸ spec_l07Places ns.length x ks.length y _ _ _ _ (li ns) (li us) (li ks) (li ts) W (hm.a.below hW) (hm.u.below hW) (hm2.a.below hW) (hm2.u.below hW) (by rw [li_length, li_length, h1.l]; have := h1.r.1; omega) (by rw [li_length, li_length, h2.l]; have := h2.r.1; omega))
  have HNew := Lib.hid (fun W (hW : Below w.heap.size w W) => spec_l07Bounded ns us ks ts A0 A1 B0 B1 c0 c1 d0 d1 W (hm.below hW) (hm2.below hW) h1 h2)
  have HRo := Lib.hid (fun v W hv => spec_l07Rounds ns us ks ts x y v W hv hx hy h2.r.1)
  have HV : Hid (rdV ns us ks ts x y = if rdI ns us ks ts x y < 0 then 0 else rdI ns us ks ts x y) := Lib.hid rfl
  have HCo : Hid (rdC ns us ks ts x y = if rdI ns us ks ts x y < 0 then 4 else 0) := Lib.hid rfl
  clear hb0 hb1 hk0 hk1 hm hm2 h1 h2 hc hx hy
  generalize rdV ns us ks ts x y = rv at *
  generalize rdC ns us ks ts x y = rc at *
  generalize rdI ns us ks ts x y = ri at *
  go_enter Tryz.func24, Tryz.ntmps24
  go_upto_region 1 with fail
  generalize World.alloc (w.alloc _) _ = W at *
  have k0 := HK0.out.cell
  have k1 := HK1.out.cell
  have l0 := HK0.out.lt
  have l1 := HK1.out.lt
  go_wp2_with fail
  refine (HC.out _ HB.out).mono ?_
  rintro e w1 ⟨rfl, hb⟩
  have HB1 := Lib.hid (bthen HB.out hb)
  have hk0 := HK0.out.below hb HK0.out.lt
  have hk1 := HK1.out.below hb HK1.out.lt
  clear hb k0 k1 l0 l1 HK0 HK1
  have k0 := hk0.cell
  have k1 := hk1.cell
  have l0 := hk0.lt
  have l1 := hk1.lt
  clear hk0 hk1
  go_wp2_with fail
  refine (HNew.out _ HB1.out).mono ?_
  rintro e w2 ⟨vL, rfl, hL, hb⟩
  have HL := Lib.hid hL
  have HB3 := Lib.hid (bthen HB1.out hb)
  clear hb hL k0 k1 l0 l1
  go_wp2_with fail
  refine (HRo.out _ _ HL.out).mono ?_
  rintro e w3 ⟨rfl, rfl⟩
  clear HL
  by_cases hr : ri < 0
  · have e1 := HV.out
    have e2 := HCo.out
    rw [if_pos hr] at e1 e2
    subst e1 e2
    clear HV HCo
    go_wp2
    go_ret2
    exact ⟨rfl, HB3.out⟩
  · have e1 := HV.out
    have e2 := HCo.out
    rw [if_neg hr] at e1 e2
    subst e1 e2
    clear HV HCo
    go_wp2
    go_ret2
    exact ⟨rfl, HB3.out⟩
set_option maxRecDepth 100000 in
theorem impl_IsTrueAt_ok (ns us : List Nat) (f : Fm) (x : Nat) (A0 A1 : Option Addr) (c0 c1 : Nat) (v : Value) (w : World) (hm : Mdl w (.slice A0 ns.length c0) (.slice A1 6 c1) ns us) (h1 : MdN ns us) (hx : x < ns.length) (h : Sl cN w v (enc f)) (hok : f.ok = true) (hl : (enc f).length ≤ 40) :
    Calls Tryz.prog 26 #[.agg #[.int .i64 ns.length, .slice A0 ns.length c0, .slice A1 6 c1], .int .i64 x, v] w fun e w' => e = .returned (.tuple #[.bool ((tv ns us f).testBit x), .int .i64 0]) ∧ Below w.heap.size w w' := by
  have hmk : mdOk ns.length (li ns) (li us) = true := mdN_okT h1
  have hfk : isF (enc f) = true := (isF_iff _).2 ⟨f, hok, rfl, hl⟩
  have h8 := h1.r.1
  have hb0 := below_alloc' w (.cells #[.int .i64 ns.length, .slice A0 ns.length c0, .slice A1 6 c1] 28)
  have HK0 := Lib.hid (Blk.new w 28 #[.int .i64 ns.length, .slice A0 ns.length c0, .slice A1 6 c1])
  have HB := Lib.hid hb0
  have E : mfC ns.length (li ns) (li us) (enc f) = 0 := by unfold mfC; rw [hmk, hfk]; rfl
  have HC := Lib.hid (fun W (hW : Below w.heap.size w W) => E ▸ impl_modelCode6 ns.length _ _ v (li ns) (li us) (enc f) W (hm.a.below hW) (hm.u.below hW) (h.below hW) (by rw [li_length]; omega) (by rw [li_length, h1.l]; omega) (by omega))
  have HT := Lib.hid (fun W (hW : Below w.heap.size w W) => impl_truthIn6 ns us f A0 A1 c0 c1 v W (hm.below hW) h1 (h.below hW) hok (by omega))
  have hin : inR (x : Int) 0 ((ns.length : Int) - 1) = true := by unfold inR; simp; omega
  have HW := Lib.hid (fun W => hin ▸ impl_hasWorld7 ns.length x (.slice A0 ns.length c0) A0 ns.length c0 rfl W (by omega))
  have ht : tv ns us f < 256 := Nat.lt_of_lt_of_le (tv_lt ns us h1.b f) (two_pow_256 h8)
  have HX := Lib.hid (fun W => impl_has (tv ns us f) x W (by omega) (by omega))
  clear hb0 hm h1 h E hmk hfk hl hin ht hx
  generalize tv ns us f = t at *
  go_enter Tryz.func26, Tryz.ntmps26
  go_upto_region 1 with fail
  generalize World.alloc w _ = W at *
  have k0 := HK0.out.cell
  have l0 := HK0.out.lt
  go_wp2_with fail
  refine (HC.out _ HB.out).mono ?_
  rintro e w1 ⟨rfl, hb⟩
  have HB1 := Lib.hid (bthen HB.out hb)
  replace HK0 := Lib.hid (HK0.out.below hb HK0.out.lt)
  clear hb k0 l0
  have k0 := HK0.out.cell
  have l0 := HK0.out.lt
  go_wp2_with fail
  refine (HW.out _).mono ?_
  rintro e w2 ⟨rfl, hb⟩
  have HB2 := Lib.hid (bthen HB1.out hb)
  replace HK0 := Lib.hid (HK0.out.below hb HK0.out.lt)
  clear hb k0 l0
  have k0 := HK0.out.cell
  have l0 := HK0.out.lt
  go_wp2_with fail
  refine (HT.out _ HB2.out).mono ?_
  rintro e w3 ⟨rfl, hb⟩
  have HB3 := Lib.hid (bthen HB2.out hb)
  clear hb k0 l0
  go_wp2_with fail
  refine (HX.out _).mono ?_
  rintro e w4 ⟨rfl, rfl⟩
  go_wp2
  go_ret2
  exact ⟨rfl, HB3.out⟩
set_option maxRecDepth 100000 in
theorem impl_IsTrueAt_bad (n : Int) (va vu vf : Value) (xs vs : List Int) (zs : List Nd) (w : World) (ha : Sl cI w va xs) (hu : Sl cI w vu vs) (hf : Sl cN w vf zs) (hl : xs.length ≤ 1048576) (hl' : vs.length ≤ 1048576) (hl2 : zs.length ≤ 1048576) (x : Int) (hc : (mdOk n xs vs && isF zs) = false) :
    Calls Tryz.prog 26 #[.agg #[.int .i64 n, va, vu], .int .i64 x, vf] w fun e w' => e = .returned (.tuple #[.bool false, .int .i64 1]) ∧ Below w.heap.size w w' := by
  have E : mfC n xs vs zs = 1 := by unfold mfC; rw [hc]; rfl
  obtain ⟨A0, c0, rfl⟩ := ha.opn
  obtain ⟨A1, c1, rfl⟩ := hu.opn
  have hb0 := below_alloc' w (.cells #[.int .i64 n, .slice A0 xs.length c0, .slice A1 vs.length c1] 28)
  have HK0 := Lib.hid (Blk.new w 28 #[.int .i64 n, .slice A0 xs.length c0, .slice A1 vs.length c1])
  have HB := Lib.hid hb0
  have HC := Lib.hid (fun W (hW : Below w.heap.size w W) => E ▸ impl_modelCode6 n _ _ vf xs vs zs W (ha.below hW) (hu.below hW) (hf.below hW) hl hl' hl2)
  clear hb0 ha hu hf E hc
  go_enter Tryz.func26, Tryz.ntmps26
  go_upto_region 1 with fail
  generalize World.alloc w _ = W at *
  have k0 := HK0.out.cell
  have l0 := HK0.out.lt
  go_wp2_with fail
  refine (HC.out _ HB.out).mono ?_
  rintro e w1 ⟨rfl, hb⟩
  have HB1 := Lib.hid (bthen HB.out hb)
  clear hb k0 l0
  go_wp2
  go_ret2
  exact ⟨rfl, HB1.out⟩
/- DepthsOf of the program: height and modal depth of a formula. -/
/-- the height -/
def Fm.ht : Fm → Nat
  | .var _ => 0
  | .fls => 0
  | .bin _ a b => max (a.ht + 1) (b.ht + 1)
  | .un _ a => a.ht + 1
def mxH (L : List Fm) : Nat → Nat
  | 0 => 0
  | j + 1 => max (mxH L j) ((L.getD j .fls).ht + 1)
def mxM (L : List Fm) : Nat → Nat
  | 0 => 0
  | j + 1 => max (mxM L j) (L.getD j .fls).md
theorem kids_ht (f : Fm) : mxH (kids f) (kids f).length = f.ht := by
  cases f <;> simp [kids, mxH, Fm.ht]
theorem kids_md (f : Fm) : mxM (kids f) (kids f).length + (if isun f then 1 else 0) = f.md := by
  cases f <;> simp [kids, mxM, Fm.md, isun]
theorem md_le_ht : ∀ f : Fm, f.md ≤ f.ht
  | .var _ => Nat.le_refl _
  | .fls => Nat.le_refl _
  | .bin _ a b => by have := md_le_ht a; have := md_le_ht b; simp only [Fm.md, Fm.ht]; omega
  | .un _ a => by have := md_le_ht a; simp only [Fm.md, Fm.ht]; omega
theorem ht_lt : ∀ f : Fm, f.ht < (enc f).length
  | .var _ => by simp [Fm.ht, enc]
  | .fls => by simp [Fm.ht, enc]
  | .bin _ a b => by have := ht_lt a; have := ht_lt b; simp only [Fm.ht, enc, List.length_cons, List.length_append]; omega
  | .un _ a => by have := ht_lt a; simp only [Fm.ht, enc, List.length_cons]; omega
theorem mxH_le (L : List Fm) (m : Nat) (h : ∀ g ∈ L, g.ht + 1 ≤ m) : ∀ j, j ≤ L.length → mxH L j ≤ m
  | 0, _ => Nat.zero_le _
  | j + 1, hj => by
    have h1 := mxH_le L m h j (by omega)
    have h2 := h (L.getD j .fls) (by rw [List.getD_eq_getElem?_getD, List.getElem?_eq_getElem (by omega)]; exact List.getElem_mem _)
    simp only [mxH]; omega
theorem mxM_le (L : List Fm) (m : Nat) (h : ∀ g ∈ L, g.md ≤ m) : ∀ j, j ≤ L.length → mxM L j ≤ m
  | 0, _ => Nat.zero_le _
  | j + 1, hj => by
    have h1 := mxM_le L m h j (by omega)
    have h2 := h (L.getD j .fls) (by rw [List.getD_eq_getElem?_getD, List.getElem?_eq_getElem (by omega)]; exact List.getElem_mem _)
    simp only [mxM]; omega
theorem kid_len (f g : Fm) (h : g ∈ kids f) : (enc g).length < (enc f).length := by
  cases f with
  | var _ => simp [kids] at h
  | fls => simp [kids] at h
  | un k a => simp [kids] at h; subst h; simp [enc]
  | bin k a b => simp [kids] at h; rcases h with rfl | rfl <;> simp [enc] <;> omega
theorem kids_len2 (f : Fm) : (kids f).length ≤ 2 := by cases f <;> simp [kids]
/-- the contract of depths at one formula -/
def DpOK (f : Fm) : Prop := ∀ (v : Value) (w : World), Sl cN w v (enc f) → (enc f).length ≤ 1000000 →
  Calls Tryz.prog 68 #[v] w fun e w' => e = .returned (.tuple #[.int .i64 (f.ht : Nat), .int .i64 (f.md : Nat)]) ∧ Below w.heap.size w w'
theorem impl_isModal_any (k : Int) (w : World) :
    Calls Tryz.prog 135 #[.int .i64 k] w fun e w' => e = .returned (.bool (k == 5 || k == 6)) ∧ w = w' := by
  cases h5 : (k == 5)
  · cases h6 : (k == 6)
    all_goals
      go_enter Tryz.func135, Tryz.ntmps135
      go_wp2
      go_ret
      exact ⟨rfl, rfl⟩
  · go_enter Tryz.func135, Tryz.ntmps135
    go_wp2
    go_ret
    exact ⟨rfl, rfl⟩
set_option maxRecDepth 100000 in
theorem impl_depths_go (f : Fm) (ih : ∀ g ∈ kids f, DpOK g) : DpOK f := by
  intro v w h hl
  have HK := Lib.hid (fun (j : Nat) (hj : j < (kids f).length) (u : Value) (W : World) (hu : Sl cN W u (enc ((kids f).getD j .fls))) => by
    have hm : (kids f).getD j .fls ∈ kids f := by rw [List.getD_eq_getElem?_getD, List.getElem?_eq_getElem hj]; exact List.getElem_mem _
    exact ih _ hm u W hu (by have := kid_len f _ hm; omega))
  have HP := Lib.hid (impl_parts f v w h (by omega))
  have hH := Lib.hid (fun j (hj : j ≤ (kids f).length) => mxH_le (kids f) (enc f).length (fun g hg => by have := ht_lt g; have := kid_len f g hg; omega) j hj)
  have hM := Lib.hid (fun j (hj : j ≤ (kids f).length) => mxM_le (kids f) (enc f).length (fun g hg => by have := ht_lt g; have := md_le_ht g; have := kid_len f g hg; omega) j hj)
  have hG := Lib.hid (fun j (hj : j < (kids f).length) => (show ((kids f).getD j .fls).ht < (enc f).length by
    have hm : (kids f).getD j .fls ∈ kids f := by rw [List.getD_eq_getElem?_getD, List.getElem?_eq_getElem hj]; exact List.getElem_mem _
    have := ht_lt ((kids f).getD j .fls); have := kid_len f _ hm; omega))
  have hGm := Lib.hid (fun j (hj : j < (kids f).length) => (show ((kids f).getD j .fls).md < (enc f).length by have := hG.out j hj; have := md_le_ht ((kids f).getD j .fls); omega))
  have E1 := Lib.hid (kids_ht f)
  have E2 := Lib.hid (kids_md f)
  have K2 := kids_len2 f
  obtain ⟨A, c, rfl⟩ := h.opn
  obtain ⟨k, s, t, he, hun⟩ := isun_head f
  have hL0 : 0 < (enc f).length := enc_pos f
  have h' := h
  rw [he] at h'
  obtain ⟨b, o, rfl, hb, hc0, hc1⟩ := h'.atN0
  have HMo : Hid (∀ W, Calls Tryz.prog 135 #[.int .i64 k] W fun e w' => e = .returned (.bool (isun f)) ∧ W = w') := Lib.hid (fun W => hun ▸ impl_isModal_any k W)
  clear ih h h' he hun hc1
  generalize (enc f).length = L at *
  go_enter Tryz.func68, Tryz.ntmps68
  go_wp2_with fail
  refine HP.out.mono ?_
  rintro e w1 ⟨u, rfl, hs, hbP⟩
  obtain ⟨A2, n2, c2, rfl, hn2⟩ : ∃ A2 n2 c2, u = .slice A2 n2 c2 ∧ n2 = (kids f).length := by
    obtain ⟨hs1, h1, h2, -⟩ := hs
    obtain ⟨A2, c2, rfl⟩ := h1.opn
    exact ⟨A2, _, c2, rfl, by rw [h2]; simp⟩
  subst hn2
  have HS := Lib.hid hs
  have HBP := Lib.hid hbP
  clear hs hbP HP
  go_wp2
  go_loopw [2, 3, 11] (fun a m i wr => ∃ j : Nat, j ≤ (kids f).length ∧ i = .int .i64 (j : Int) ∧ a = .int .i64 (mxH (kids f) j : Nat) ∧ m = .int .i64 (mxM (kids f) j : Nat) ∧ Below w1.heap.size w1 wr) (fun _ _ i _ => (kids f).length - (intOf i).toNat)
  case atStart => exact ⟨0, Nat.zero_le _, rfl, rfl, rfl, Below.refl _ _⟩
  case round =>
    obtain ⟨j, hj, rfl, rfl, rfl, hbl⟩ := hrel
    have HBL := Lib.hid hbl
    clear hbl
    by_cases hlt : j < (kids f).length
    · have hs3 := HS.out.below HBL.out
      obtain ⟨b2, o2, Ai, ni, ci, rfl, hb2, hc2, hsl⟩ := hs3.at_ (k := j) (by simpa using hlt)
      rw [List.getElem_map] at hsl
      have HRun := Lib.hid (HK.out j hlt _ wr (by rw [List.getD_eq_getElem?_getD, List.getElem?_eq_getElem hlt]; exact hsl))
      have e1 : mxH (kids f) (j + 1) = max (mxH (kids f) j) (((kids f).getD j .fls).ht + 1) := rfl
      have e2 : mxM (kids f) (j + 1) = max (mxM (kids f) j) ((kids f).getD j .fls).md := rfl
      have b1 := hG.out j hlt
      have b3 := hGm.out j hlt
      have b4 := hH.out j hj
      have b5 := hM.out j hj
      clear hs3 hsl
      generalize ((kids f).getD j .fls).ht = p at *
      generalize ((kids f).getD j .fls).md = q at *
      have HE1 := Lib.hid e1
      have HE2 := Lib.hid e2
      clear e1 e2
      generalize mxH (kids f) j = mh at *
      generalize mxM (kids f) j = mm at *
      go_wp2_with fail
      refine HRun.out.mono ?_
      rintro e w3 ⟨rfl, hb⟩
      have HB3 := Lib.hid (HBL.out.trans (hb.mono HBL.out.size))
      clear hb HRun
      go_wp2
      go_roundw
      case rel => exact ⟨j + 1, by omega, by go_num, by rw [HE1.out]; go_num, by rw [HE2.out]; go_num, HB3.out⟩
      case measure => simp [intOf]; omega
    · obtain rfl : j = (kids f).length := by omega
      have e1 := E1.out
      have e2 := E2.out
      have b4 := hH.out _ (Nat.le_refl _)
      have b5 := hM.out _ (Nat.le_refl _)
      generalize mxH (kids f) (kids f).length = mh at *
      generalize mxM (kids f) (kids f).length = mm at *
      have HE1 := Lib.hid e1
      have HE2 := Lib.hid e2
      have HB4 := Lib.hid (bthen HBP.out HBL.out)
      have hc3 := (HB4.out.cell (p := ⟨b, o, none⟩) hb).trans hc0
      have hb4 := Nat.lt_of_lt_of_le hb HB4.out.size
      clear e1 e2 hlt hj
      go_wp2_with fail
      refine (HMo.out _).mono ?_
      rintro e w4 ⟨rfl, rfl⟩
      cases hf : isun f
      · go_wp2
        go_ret2
        exact ⟨by rw [← HE1.out, ← HE2.out, hf]; rfl, HB4.out⟩
      · go_wp2
        go_ret2
        exact ⟨by rw [← HE1.out, ← HE2.out, hf]; rfl, HB4.out⟩
theorem impl_depths (f : Fm) : DpOK f := by
  induction f with
  | var s => exact impl_depths_go _ (fun g hg => by simp [kids] at hg)
  | fls => exact impl_depths_go _ (fun g hg => by simp [kids] at hg)
  | un k a ih => exact impl_depths_go _ (fun g hg => by simp only [kids, List.mem_cons, List.not_mem_nil, or_false] at hg; subst hg; exact ih)
  | bin k a b iha ihb => exact impl_depths_go _ (fun g hg => by
      simp only [kids, List.mem_cons, List.not_mem_nil, or_false] at hg
      rcases hg with rfl | rfl
      · exact iha
      · exact ihb)
set_option maxRecDepth 100000 in
theorem impl_DepthsOf_ok (f : Fm) (v : Value) (w : World) (h : Sl cN w v (enc f)) (hok : f.ok = true) (hl : (enc f).length ≤ 40) :
    Calls Tryz.prog 27 #[v] w fun e w' => e = .returned (.tuple #[.int .i64 (f.ht : Nat), .int .i64 (f.md : Nat), .int .i64 0]) ∧ Below w.heap.size w w' := by
  have hfk : isF (enc f) = true := (isF_iff _).2 ⟨f, hok, rfl, hl⟩
  have HF := Lib.hid (hfk ▸ impl_isFormula v (enc f) w h (by omega))
  have HD := Lib.hid (fun W (hW : Below w.heap.size w W) => impl_depths f v W (h.below hW) (by omega))
  clear h hfk hok hl
  go_enter Tryz.func27, Tryz.ntmps27
  go_wp2_with fail
  refine HF.out.mono ?_
  rintro e w1 ⟨rfl, hb⟩
  have HB := Lib.hid hb
  clear hb HF
  go_wp2_with fail
  refine (HD.out _ HB.out).mono ?_
  rintro e w2 ⟨rfl, hb⟩
  have HB2 := Lib.hid (bthen HB.out hb)
  clear hb
  go_wp2
  refine bodyPost_ret (v := .tuple #[.int .i64 (f.ht : Nat), .int .i64 (f.md : Nat), .int .i64 0]) (by simp [results, Tryz.results27, go_sem]) rfl ⟨rfl, HB2.out⟩
end Go.Proofs.YtnolbgdbboiehaaGreat
