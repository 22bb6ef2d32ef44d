/- Joined of several texts: M05, 05a, 05b. -/
import Derived.Test.YtgcoohlakcncbaaGreatB1
import Derived.Test.YtgcoohlakcncbaaGreatB7
import Derived.Deep.RegionWith
namespace Go.Proofs.YtgcoohlakcncbaaGreat
open Go.RowKit
set_option linter.unusedVariables false
set_option linter.unusedSimpArgs false
/- Plain words of chapters 5 and 6: masks, relations, frames, models, truth. No program in sight. -/
/-- a list of naturals as int64s -/
def li (ns : List Nat) : List Int := ns.map fun (i : Nat) => (i : Int)
theorem li_length (ns : List Nat) : (li ns).length = ns.length := by simp [li]
theorem li_get (ns : List Nat) (i : Nat) (h : i < (li ns).length) : (li ns)[i] = ((ns.getD i 0 : Nat) : Int) := by
  have h' : i < ns.length := by simpa [li] using h
  simp [li, h']
theorem li_of {xs : List Int} (h : ∀ x ∈ xs, 0 ≤ x) : xs = li (xs.map Int.toNat) := by
  induction xs with
  | nil => rfl
  | cons x t ih =>
    have h1 := h x List.mem_cons_self
    have h2 := ih fun y hy => h y (List.mem_cons_of_mem _ hy)
    show x :: t = ((x.toNat : Nat) : Int) :: li (t.map Int.toNat)
    rw [← h2, Int.toNat_of_nonneg h1]
/-- is m a mask of n elements? -/
def mkOk (n m : Int) : Bool := inR n 0 30 && inR m 0 (2 ^ n.toNat - 1)
theorem mkOk_small {n m : Int} (h : 0 ≤ n ∧ n ≤ 8) : mkOk n m = inR m 0 (2 ^ n.toNat - 1) := by
  unfold mkOk
  rw [inR_true h.1 (by omega), Bool.true_and]
theorem mkOk_nat {n : Nat} {m : Int} (h : mkOk n m = true) : 0 ≤ m ∧ m.toNat < 2 ^ n := by
  unfold mkOk at h
  rw [Bool.and_eq_true, inR_iff, inR_iff] at h
  obtain ⟨_, h1, h2⟩ := h
  refine ⟨h1, ?_⟩
  rw [Int.toNat_natCast] at h2
  have h3 : (2 : Int) ^ n = ((2 ^ n : Nat) : Int) := by rw [Int.natCast_pow]; rfl
  rw [h3] at h2
  have : 0 < 2 ^ n := Nat.pow_pos (by decide)
  omega
def relOk (xs : List Int) : Bool := xs.all fun m => mkOk xs.length m
def frOk (n : Int) (xs : List Int) : Bool := inR n 0 8 && (decide ((xs.length : Int) = n) && relOk xs)
def mdOk (n : Int) (xs vs : List Int) : Bool := frOk n xs && (decide (vs.length = 6) && vs.all fun m => mkOk n m)
/-- a relation of naturals -/
def RelN (ns : List Nat) : Prop := ns.length ≤ 8 ∧ ∀ x ∈ ns, x < 2 ^ ns.length
theorem frOk_iff {n : Int} {xs : List Int} (h : frOk n xs = true) : ∃ ns : List Nat, xs = li ns ∧ n = ns.length ∧ RelN ns := by
  unfold frOk at h
  simp only [Bool.and_eq_true, decide_eq_true_eq] at h
  obtain ⟨h1, h2, h3⟩ := h
  have h1 := inR_iff.1 h1
  unfold relOk at h3
  rw [List.all_eq_true] at h3
  have hx := fun x hx => mkOk_nat (h3 x hx)
  refine ⟨xs.map Int.toNat, li_of fun x h => (hx x h).1, by simp [h2], by simp; omega, fun y hy => ?_⟩
  rw [List.mem_map] at hy
  obtain ⟨x, hxm, rfl⟩ := hy
  rw [List.length_map]
  exact (hx x hxm).2
theorem mdOk_iff {n : Int} {xs vs : List Int} (h : mdOk n xs vs = true) : ∃ ns us : List Nat, xs = li ns ∧ vs = li us ∧ n = ns.length ∧ RelN ns ∧ us.length = 6 ∧ ∀ x ∈ us, x < 2 ^ ns.length := by
  unfold mdOk at h
  simp only [Bool.and_eq_true, decide_eq_true_eq] at h
  obtain ⟨h1, h2, h3⟩ := h
  obtain ⟨ns, rfl, rfl, hr⟩ := frOk_iff h1
  rw [List.all_eq_true] at h3
  have hx := fun x hx => mkOk_nat (h3 x hx)
  refine ⟨ns, vs.map Int.toNat, rfl, li_of fun x h => (hx x h).1, rfl, hr, by simpa using h2, fun y hy => ?_⟩
  rw [List.mem_map] at hy
  obtain ⟨x, hxm, rfl⟩ := hy
  exact (hx x hxm).2
/-- the elements that are related to members of a mask alone -/
def bx (ns : List Nat) (m : Nat) : Nat := msk (fun i => decide (andnot (ns.getD i 0) m = 0)) ns.length
theorem bx_lt (ns : List Nat) (m : Nat) : bx ns m < 2 ^ ns.length := msk_lt _ _
theorem and_eq_iff (a m : Nat) : (a &&& m = a) ↔ andnot a m = 0 := by
  constructor
  · intro h; unfold andnot; rw [h, Nat.xor_self]
  · intro h
    apply Nat.eq_of_testBit_eq
    intro i
    have := congrArg (fun n => n.testBit i) h
    simp only [andnot_testBit, Nat.zero_testBit] at this
    rw [Nat.testBit_and]
    cases ha : a.testBit i
    · rfl
    · rw [ha] at this
      cases hm : m.testBit i
      · rw [hm] at this; exact absurd this (by decide)
      · rfl
/-- the worlds at which a formula is true -/
def tv (ns us : List Nat) : Fm → Nat
  | .var s => us.getD s 0
  | .fls => 0
  | .bin .and a b => tv ns us a &&& tv ns us b
  | .bin .or a b => tv ns us a ||| tv ns us b
  | .bin .imp a b => andnot (2 ^ ns.length - 1) (tv ns us a) ||| tv ns us b
  | .un .box a => bx ns (tv ns us a)
  | .un .dia a => andnot (2 ^ ns.length - 1) (bx ns (andnot (2 ^ ns.length - 1) (tv ns us a)))
theorem andnot_lt {a b k : Nat} (h : a < 2 ^ k) : andnot a b < 2 ^ k := by
  unfold andnot
  exact Nat.xor_lt_two_pow h (Nat.lt_of_le_of_lt (Nat.and_le_left (n := a) (m := b)) h)
theorem full_lt (k : Nat) : 2 ^ k - 1 < 2 ^ k := Nat.sub_lt (Nat.pow_pos (by decide)) (by decide)
theorem getD_lt {us : List Nat} {k : Nat} (h : ∀ x ∈ us, x < 2 ^ k) (i : Nat) : us.getD i 0 < 2 ^ k := by
  rw [List.getD_eq_getElem?_getD]
  rcases Nat.lt_or_ge i us.length with hi | hi
  · rw [List.getElem?_eq_getElem hi]; exact h _ (List.getElem_mem hi)
  · rw [List.getElem?_eq_none hi]; exact Nat.pow_pos (by decide)
theorem tv_lt (ns us : List Nat) (h : ∀ x ∈ us, x < 2 ^ ns.length) (f : Fm) : tv ns us f < 2 ^ ns.length := by
  induction f with
  | var s => exact getD_lt h s
  | fls => exact Nat.pow_pos (by decide)
  | bin k a b iha ihb =>
    cases k
    · exact Nat.and_lt_two_pow _ ihb
    · exact Nat.or_lt_two_pow iha ihb
    · exact Nat.or_lt_two_pow (andnot_lt (full_lt _)) ihb
  | un k a ih =>
    cases k
    · exact bx_lt _ _
    · exact andnot_lt (full_lt _)
theorem two_pow_256 {k : Nat} (h : k ≤ 8) : 2 ^ k ≤ 256 := Nat.pow_le_pow_right (n := 2) (by decide) h
/- Contracts of chapters 1, 5 and 6: masks, relations, frames, models. -/
theorem impl_isMask (n m : Int) (w : World) :
    Calls Tryz.prog 232 #[.int .i64 n, .int .i64 m] w fun e w' => e = .returned (.bool (mkOk n m)) ∧ w = w' := by
  cases h1 : inR n 0 30
  · have E : Hid (mkOk n m = false) := Lib.hid (by unfold mkOk; rw [h1]; rfl)
    have H1 := Lib.hid h1; clear h1
    go_enter Tryz.func232, Tryz.ntmps232
    go_wp2_with fail
    refine (impl_inRange _ _ _ _).mono ?_
    rintro e w1 ⟨rfl, rfl⟩
    rw [H1.out]
    go_wp2
    go_ret
    exact ⟨by rw [E.out]; rfl, rfl⟩
  · have E : Hid (mkOk n m = inR m 0 (2 ^ n.toNat - 1)) := Lib.hid (by unfold mkOk; rw [h1]; rfl)
    have hr := inR_iff.1 h1
    have e1 := wrap_two_pow (n := n.toNat) (by omega)
    have e2 := two_pow_le (n := n.toNat) (by omega)
    have e3 : (0 : Int) < 2 ^ n.toNat := Int.pow_pos (by decide)
    have hn : 0 ≤ n := hr.1
    have hn2 : n ≤ 30 := hr.2
    have H1 := Lib.hid h1; clear h1 hr
    go_enter Tryz.func232, Tryz.ntmps232
    go_wp2_with fail
    refine (impl_inRange _ _ _ _).mono ?_
    rintro e w1 ⟨rfl, rfl⟩
    rw [H1.out]
    go_wp2_with fail
    refine (impl_inRange _ _ _ _).mono ?_
    rintro e w1 ⟨rfl, rfl⟩
    go_wp2
    go_ret
    exact ⟨by rw [E.out]; rfl, rfl⟩
theorem slices_IndexFunc_ints (v : Value) (xs : List Int) (k : FuncId) (cap : Array Value) (p : Nat → Bool) (w : World) (h : Sl cI w v xs) (hl : xs.length ≤ 1073741824)
    (hk : ∀ (args : Array Value) (w : World), (callFunc k args).run Tryz.prog w = .ok (.enter k args) w)
    (hf : ∀ w', Below w.heap.size w w' → ∀ (i : Nat) (hi : i < xs.length), Calls Tryz.prog k (#[.int .i64 xs[i]] ++ cap) w' fun e w'' => e = .returned (.bool (p i)) ∧ Below w'.heap.size w' w'') :
    Calls Tryz.prog 265 #[v, .func (.func k) #[] cap] w fun e w' => e = .returned (.int .i64 (fidx p xs.length)) ∧ Below w.heap.size w w' := by
  obtain ⟨A, c, rfl⟩ := h.opn
  have HF := Lib.hid hf; clear hf
  go_enter Tryz.func265, Tryz.ntmps265
  go_wp2
  go_loopw [8] (fun i wr => ∃ j : Nat, j ≤ xs.length ∧ i = .int .i64 j ∧ (∀ i < j, p i = false) ∧ Below w.heap.size w wr) (fun i _ => xs.length - (intOf i).toNat)
  case atStart => exact ⟨0, Nat.zero_le _, rfl, fun i hi => by omega, Below.refl _ _⟩
  case round =>
    obtain ⟨j, hj, rfl, hh, hb⟩ := hrel
    have Hh := Lib.hid hh; clear hh
    by_cases hlt : j < xs.length
    · obtain ⟨b, o, rfl, hbl, hc0⟩ := (h.below hb).atI hlt
      go_wp2_with fail
      refine (HF.out wr hb j hlt).mono ?_
      rintro e w1 ⟨rfl, hb1⟩
      have HB : Hid (Below w.heap.size w w1) := Lib.hid (hb.trans (hb1.mono hb.size))
      clear hb1 hb
      by_cases hp : p j = true
      · have HE := Lib.hid (fidx_some hlt Hh.out hp)
        rw [hp]
        have HP := Lib.hid hp; clear hp
        go_wp2
        go_ret
        exact ⟨by rw [HE.out]; rfl, HB.out⟩
      · rw [Bool.not_eq_true] at hp
        rw [hp]
        have HP := Lib.hid hp; clear hp
        go_wp2
        go_roundw
        case rel => exact ⟨j + 1, by omega, by go_num, fun i hi => (Nat.lt_or_ge i j).elim (fun h => Hh.out i h) (fun h => (show i = j by omega) ▸ HP.out), HB.out⟩
        case measure => simp [intOf]; omega
    · have HE : Hid (fidx p xs.length = -1) := Lib.hid (fidx_none fun i hi => Hh.out i (by omega))
      have HB := Lib.hid hb; clear hb
      go_wp2
      go_ret
      exact ⟨by rw [HE.out]; rfl, HB.out⟩
theorem slices_ContainsFunc_ints (v : Value) (xs : List Int) (k : FuncId) (cap : Array Value) (p : Nat → Bool) (w : World) (h : Sl cI w v xs) (hl : xs.length ≤ 1073741824)
    (hk : ∀ (args : Array Value) (w : World), (callFunc k args).run Tryz.prog w = .ok (.enter k args) w)
    (hf : ∀ w', Below w.heap.size w w' → ∀ (i : Nat) (hi : i < xs.length), Calls Tryz.prog k (#[.int .i64 xs[i]] ++ cap) w' fun e w'' => e = .returned (.bool (p i)) ∧ Below w'.heap.size w' w'') :
    Calls Tryz.prog 230 #[v, .func (.func k) #[] cap] w fun e w' => e = .returned (.bool ((List.range xs.length).any p)) ∧ Below w.heap.size w w' := by
  have HI := Lib.hid (slices_IndexFunc_ints v xs k cap p w h hl hk hf)
  have HR := Lib.hid (fidx_any p xs.length)
  clear h hk hf
  go_enter Tryz.func230, Tryz.ntmps230
  go_wp2_with fail
  refine HI.out.mono ?_
  rintro e w1 ⟨rfl, hb⟩
  have HB := Lib.hid hb; clear hb
  go_wp2
  go_ret
  exact ⟨by rw [← HR.out]; rfl, HB.out⟩
theorem impl_isRelation_1 (x : Int) (B : Nat) (A : Option Addr) (n c : Nat) (xs : List Int) (w : World) (hc : w.cell? ⟨B, 0, none⟩ = some (.slice A xs.length c)) (h : Sl cI w (.slice A xs.length c) xs) :
    Calls Tryz.prog 291 #[.int .i64 x, .pointer (some ⟨B, 0, none⟩)] w fun e w' => e = .returned (.bool (!mkOk xs.length x)) ∧ Below w.heap.size w w' := by
  have H := Lib.hid h; clear h
  go_enter Tryz.func291, Tryz.ntmps291
  go_wp2_with fail
  refine (impl_size_int64 _ xs _ H.out).mono ?_
  rintro e w1 ⟨rfl, rfl⟩
  go_wp2_with fail
  refine (impl_isMask _ _ _).mono ?_
  rintro e w1 ⟨rfl, rfl⟩
  go_wp2
  go_ret
  exact ⟨rfl, Below.refl _ _⟩
theorem en_isRelation_1 : ∀ (args : Array Value) (w : World), (callFunc 291 args).run Tryz.prog w = .ok (.enter 291 args) w := enters Tryz.func291 (by kernel_rfl) (by kernel_rfl)
def relBad (xs : List Int) (i : Nat) : Bool := !mkOk xs.length (xs.getD i 0)
theorem relBad_all (xs : List Int) : (!(List.range xs.length).any (relBad xs)) = relOk xs := by
  have h := any_range xs 0 (fun m => !mkOk xs.length m)
  rw [show (List.range xs.length).any (relBad xs) = xs.any fun m => !mkOk xs.length m from h, List.any_eq_not_all_not, Bool.not_not]
  unfold relOk
  congr 1
  funext g
  rw [Bool.not_not]
theorem impl_isRelation (v : Value) (xs : List Int) (w : World) (h : Sl cI w v xs) (hl : xs.length ≤ 1073741824) :
    Calls Tryz.prog 264 #[v] w fun e w' => e = .returned (.bool (relOk xs)) ∧ Below w.heap.size w w' := by
  obtain ⟨A, c, rfl⟩ := h.opn
  have hb0 := below_alloc' w (.cells #[.slice A xs.length c] 50)
  have h0 := h.below hb0
  have hk0 := Bk.new w #[.slice A xs.length c] 50
  have HC := Lib.hid (slices_ContainsFunc_ints _ xs 291 #[.pointer (some ⟨w.heap.size, 0, none⟩)] (relBad xs) _ h0 hl en_isRelation_1 (fun W hW i hi => by
    rw [show (#[Value.int .i64 xs[i]] ++ #[Value.pointer (some ⟨w.heap.size, 0, none⟩)] : Array Value) = #[.int .i64 xs[i], .pointer (some ⟨w.heap.size, 0, none⟩)] from rfl]
    have := impl_isRelation_1 xs[i] w.heap.size A xs.length c xs W ((hW.cell (p := ⟨w.heap.size, 0, none⟩) hk0.1).trans (hk0.2 0)) (h0.below hW)
    rwa [show relBad xs i = !mkOk xs.length xs[i] by unfold relBad; rw [List.getD_eq_getElem?_getD, List.getElem?_eq_getElem hi]; rfl]))
  have E := Lib.hid (relBad_all xs)
  have HB := Lib.hid hb0
  clear h h0 hb0 hk0
  go_enter Tryz.func264, Tryz.ntmps264
  go_wp2_with fail
  refine HC.out.mono ?_
  rintro e w1 ⟨rfl, hb⟩
  have HB1 := Lib.hid (HB.out.trans (hb.mono HB.out.size))
  clear hb
  go_wp2
  go_ret
  exact ⟨by rw [← E.out]; rfl, HB1.out⟩
/-- quiet contracts within regions that draw -/
theorem q_inRange {x l h : Int} {b : Bool} (hq : inR x l h = b) (W : World) (n : Nat) :
    Calls Tryz.prog 117 #[.int .i64 x, .int .i64 l, .int .i64 h] (W.drewN n) fun e w'' => e = .returned (.bool b) ∧ ∃ m, w'' = W.drewN m :=
  (impl_inRange x l h _).mono fun e w' hh => ⟨by rw [hh.1, hq], n, hh.2.symm⟩
theorem q_size {v : Value} {xs : List Int} {W : World} (h : Sl cI W v xs) (n : Nat) :
    Calls Tryz.prog 194 #[v] (W.drewN n) fun e w'' => e = .returned (.int .i64 xs.length) ∧ ∃ m, w'' = W.drewN m :=
  (impl_size_int64 v xs _ (h.drewN n)).mono fun e w' hh => ⟨hh.1, n, hh.2.symm⟩
theorem impl_isFrame (n : Int) (v : Value) (xs : List Int) (w : World) (h : Sl cI w v xs) (hl : xs.length ≤ 1073741824) :
    Calls Tryz.prog 229 #[.agg #[.int .i64 n, v]] w fun e w' => e = .returned (.bool (frOk n xs)) ∧ Below w.heap.size w w' := by
  obtain ⟨A, c, rfl⟩ := h.opn
  have hb0 := below_alloc' w (.cells #[.int .i64 n, .slice A xs.length c] 63)
  have H0 := Lib.hid (h.below hb0)
  have HB := Lib.hid hb0
  have hk0 := Bk.new w #[.int .i64 n, .slice A xs.length c] 63
  clear h hb0
  cases h1 : inR n 0 8
  · have E : Hid (frOk n xs = false) := Lib.hid (by unfold frOk; rw [h1]; rfl)
    have HQ := Lib.hid (fun m => q_inRange h1 (w.alloc (.cells #[.int .i64 n, .slice A xs.length c] 63)) m)
    clear h1 hk0
    go_enter Tryz.func229, Tryz.ntmps229
    go_wp2
    go_quiet ((go_at_call 117; exact HQ.out _))
    go_wp2
    go_ret
    exact ⟨by rw [E.out]; rfl, below_drewN HB.out _⟩
  · by_cases h2 : (xs.length : Int) = n
    · have E : Hid (frOk n xs = relOk xs) := Lib.hid (by unfold frOk; rw [h1, decide_eq_true h2]; rfl)
      have H1 := Lib.hid (fun W => h1 ▸ impl_inRange n 0 8 W)
      subst h2
      have HS := Lib.hid (fun W (hW : Sl cI W (.slice A xs.length c) xs) => impl_size_int64 _ xs W hW)
      have HR := Lib.hid (fun W (hW : Sl cI W (.slice A xs.length c) xs) => impl_isRelation _ xs W hW hl)
      have c0 : (w.alloc (.cells #[.int .i64 (xs.length : Int), .slice A xs.length c] 63)).cell? ⟨w.heap.size, 0, none⟩ = some (.int .i64 xs.length) := hk0.2 0
      have c1 : (w.alloc (.cells #[.int .i64 (xs.length : Int), .slice A xs.length c] 63)).cell? ⟨w.heap.size, 1, none⟩ = some (.slice A xs.length c) := hk0.2 1
      have hlt := hk0.1
      clear h1 hk0
      go_enter Tryz.func229, Tryz.ntmps229
      go_wp2
      first | go_region_held3 (fun w' => w'.cell? ⟨w.heap.size, 0, none⟩ = some (.int .i64 xs.length) ∧ w'.cell? ⟨w.heap.size, 1, none⟩ = some (.slice A xs.length c)) (first | exact ⟨c0', c1'⟩ | exact ⟨c0, c1⟩ | (simp [*]; done)) (first | (go_at_call 117; refine (H1.out _).mono ?_; rintro e w2 ⟨rfl, rfl⟩) | (go_at_call 194; refine (HS.out _ (H0.out.drewN _)).mono ?_; rintro e w2 ⟨rfl, rfl⟩) | (go_at_call 264; refine (HR.out _ (H0.out.drewN _)).mono ?_; rintro e w3 ⟨rfl, hb3⟩; have c0' := (hb3.cell (p := ⟨w.heap.size, 0, none⟩) hlt).trans c0; have c1' := (hb3.cell (p := ⟨w.heap.size, 1, none⟩) hlt).trans c1)) | fail
      all_goals
        have HB3 := Lib.hid (HB.out.trans ((below_drewN (Below.refl _ _) _).trans hb3 |>.mono HB.out.size))
        clear c0' c1' hb3
        go_wp2
        go_ret
        exact ⟨by rw [E.out]; rfl, HB3.out⟩
    · have E : Hid (frOk n xs = false) := Lib.hid (by unfold frOk; rw [decide_eq_false h2]; simp)
      have d2 : ((xs.length : Int) == n) = false := beq_eq_false_iff_ne.2 h2
      have HQ := Lib.hid (fun m => q_inRange h1 (w.alloc (.cells #[.int .i64 n, .slice A xs.length c] 63)) m)
      have HS := Lib.hid (fun m => q_size H0.out m)
      clear h1 h2 hk0
      go_enter Tryz.func229, Tryz.ntmps229
      go_wp2
      go_quiet ((first | (go_at_call 117; exact HQ.out _) | (go_at_call 194; exact HS.out _)))
      go_wp2
      go_ret
      exact ⟨by rw [E.out]; rfl, below_drewN HB.out _⟩
/- Contracts of chapters 1, 5 and 6: models, boxes, of the program and of the reference. -/
theorem impl_isModel_1 (x n : Int) (B : Nat) (w : World) (hc : w.cell? ⟨B, 0, none⟩ = some (.int .i64 n)) :
    Calls Tryz.prog 231 #[.int .i64 x, .pointer (some ⟨B, 0, none⟩)] w fun e w' => e = .returned (.bool (!mkOk n x)) ∧ Below w.heap.size w w' := by
  go_enter Tryz.func231, Tryz.ntmps231
  go_wp2_with fail
  refine (impl_isMask _ _ _).mono ?_
  rintro e w1 ⟨rfl, rfl⟩
  go_wp2
  go_ret
  exact ⟨rfl, Below.refl _ _⟩
theorem en_isModel_1 : ∀ (args : Array Value) (w : World), (callFunc 231 args).run Tryz.prog w = .ok (.enter 231 args) w := enters Tryz.func231 (by kernel_rfl) (by kernel_rfl)
def valBad (n : Int) (vs : List Int) (i : Nat) : Bool := !mkOk n (vs.getD i 0)
theorem valBad_all (n : Int) (vs : List Int) : (!(List.range vs.length).any (valBad n vs)) = vs.all fun m => mkOk n m := by
  have h := any_range vs 0 (fun m => !mkOk n m)
  rw [show (List.range vs.length).any (valBad n vs) = vs.any fun m => !mkOk n m from h, List.any_eq_not_all_not, Bool.not_not]
  congr 1
  funext g
  rw [Bool.not_not]
theorem impl_isModel (n : Int) (v u : Value) (xs vs : List Int) (w : World) (h : Sl cI w v xs) (h' : Sl cI w u vs) (hl : xs.length ≤ 1073741824) (hl' : vs.length ≤ 1073741824) :
    Calls Tryz.prog 197 #[.agg #[.int .i64 n, v, u]] w fun e w' => e = .returned (.bool (mdOk n xs vs)) ∧ Below w.heap.size w w' := by
  obtain ⟨A, c, rfl⟩ := h.opn
  obtain ⟨A', c', rfl⟩ := h'.opn
  have hb0 := below_alloc' w (.cells #[.int .i64 n, .slice A xs.length c, .slice A' vs.length c'] 69)
  have HF := Lib.hid (impl_isFrame n _ xs _ (h.below hb0) hl)
  have h0' := h'.below hb0
  have HB := Lib.hid hb0
  have hk0 := Blk.new w 69 #[.int .i64 n, .slice A xs.length c, .slice A' vs.length c']
  have HK := Lib.hid hk0
  have hkl := hk0.lt
  cases h1 : frOk n xs
  · have E : Hid (mdOk n xs vs = false) := Lib.hid (by unfold mdOk; rw [h1]; rfl)
    rw [h1] at HF
    clear h1 h h' hb0 h0' hk0
    go_enter Tryz.func197, Tryz.ntmps197
    go_wp2_with fail
    refine HF.out.mono ?_
    rintro e w1 ⟨rfl, hb⟩
    have HB1 := Lib.hid (HB.out.trans (hb.mono HB.out.size))
    clear hb
    go_wp2
    go_ret
    exact ⟨by rw [E.out]; rfl, HB1.out⟩
  · rw [h1] at HF
    by_cases h2 : vs.length = 6
    · have E : Hid (mdOk n xs vs = vs.all fun m => mkOk n m) := Lib.hid (by unfold mdOk; rw [h1, decide_eq_true h2]; rfl)
      have EA := Lib.hid (valBad_all n vs)
      have HC := Lib.hid (fun (W1 : World) (hb : Below (w.alloc (.cells #[.int .i64 n, .slice A xs.length c, .slice A' vs.length c'] 69)).heap.size (w.alloc (.cells #[.int .i64 n, .slice A xs.length c, .slice A' vs.length c'] 69)) W1) =>
        slices_ContainsFunc_ints _ vs 231 #[.pointer (some ⟨w.heap.size, 0, none⟩)] (valBad n vs) W1 (h0'.below hb) hl' en_isModel_1 (fun W hW i hi => by
          rw [show (#[Value.int .i64 vs[i]] ++ #[Value.pointer (some ⟨w.heap.size, 0, none⟩)] : Array Value) = #[.int .i64 vs[i], .pointer (some ⟨w.heap.size, 0, none⟩)] from rfl]
          have hk1 := HK.out.below hb hkl
          have := impl_isModel_1 vs[i] n w.heap.size W ((hW.cell (p := ⟨w.heap.size, 0, none⟩) hk1.lt).trans (hk1.cell 0))
          rwa [show valBad n vs i = !mkOk n vs[i] by unfold valBad; rw [List.getD_eq_getElem?_getD, List.getElem?_eq_getElem hi]; rfl]))
      have H2 := Lib.hid h2
      clear h1 h h' hb0 h0' hk0
      go_enter Tryz.func197, Tryz.ntmps197
      rw [H2.out] at HC HK HB HF hkl ⊢
      clear h2
      go_wp2_with fail
      refine HF.out.mono ?_
      rintro e w1 ⟨rfl, hb⟩
      have hk1 := HK.out.below hb hkl
      have k1 := hk1.cell
      have k2 := hk1.lt
      have HB0 := Lib.hid hb
      have HB1 := Lib.hid (HB.out.trans (hb.mono HB.out.size))
      clear hb hk1
      go_wp2_with fail
      refine (HC.out _ HB0.out).mono ?_
      rintro e w2 ⟨rfl, hb2⟩
      have HB2 := Lib.hid (bthen HB1.out hb2)
      rw [← H2.out]
      clear hb2 k1
      go_wp2
      go_ret
      exact ⟨by rw [E.out, ← EA.out]; rfl, HB2.out⟩
    · have E : Hid (mdOk n xs vs = false) := Lib.hid (by unfold mdOk; rw [decide_eq_false h2]; simp)
      have d2 : ((vs.length : Int) == 6) = false := beq_eq_false_iff_ne.2 (by omega)
      clear h1 h h' hb0 h0' hk0 h2
      go_enter Tryz.func197, Tryz.ntmps197
      go_wp2_with fail
      refine HF.out.mono ?_
      rintro e w1 ⟨rfl, hb⟩
      have hk1 := HK.out.below hb hkl
      have k1 := hk1.cell
      have k2 := hk1.lt
      have HB1 := Lib.hid (HB.out.trans (hb.mono HB.out.size))
      clear hb hk1
      go_wp2
      go_ret
      exact ⟨by rw [E.out]; rfl, HB1.out⟩
theorem impl_all (k : Nat) (v : Value) (A : Option Addr) (m c : Nat) (hv : v = .slice A m c) (w : World) (hk : k ≤ 8) :
    Calls Tryz.prog 233 #[.agg #[.int .i64 k, v]] w fun e w' => e = .returned (.int .i64 (2 ^ k - 1 : Nat)) ∧ Below w.heap.size w w' := by
  subst hv
  have e1 := wrap_two_pow (n := k) (by omega)
  have e2 := two_pow_le (n := k) (by omega)
  have e3 : (0 : Int) < 2 ^ k := Int.pow_pos (by decide)
  have HE : Hid (((2 ^ k - 1 : Nat) : Int) = 2 ^ k - 1) := Lib.hid (by rw [Int.ofNat_sub (Nat.pow_pos (by decide)), ← cast_two_pow]; rfl)
  have HB : Hid (Below w.heap.size w (w.alloc (.cells #[.int .i64 (k : Int), .slice A m c] 63))) := Lib.hid (below_alloc' _ _)
  go_enter Tryz.func233, Tryz.ntmps233
  go_wp2
  go_ret
  exact ⟨by rw [HE.out]; rfl, HB.out⟩
theorem msk_bound (p : Nat → Bool) {k n : Nat} (h : k ≤ n) (hn : n ≤ 8) : msk p k < 256 :=
  Nat.lt_of_lt_of_le (msk_lt p k) (Nat.le_trans (Nat.pow_le_pow_right (by decide) h) (two_pow_256 hn))
theorem impl_box (v : Value) (ns : List Nat) (m : Nat) (w : World) (h : Sl cI w v (li ns)) (hr : RelN ns) (hm : m < 256) :
    Calls Tryz.prog 235 #[v, .int .i64 m] w fun e w' => e = .returned (.int .i64 (bx ns m : Nat)) ∧ w = w' := by
  obtain ⟨A, c, rfl⟩ := h.opn
  have hlen := li_length ns
  have h8 := hr.1
  have h256 := fun i => Nat.lt_of_lt_of_le (getD_lt hr.2 i) (two_pow_256 h8)
  rw [hlen] at h ⊢
  go_enter Tryz.func235, Tryz.ntmps235
  have H256 := Lib.hid h256
  have HL := Lib.hid hlen
  clear h256 hlen hr
  go_wp2
  go_loop [5, 10] (fun t i => ∃ j : Nat, j ≤ ns.length ∧ i = .int .i64 j ∧ t = .int .i64 (msk (fun i => decide (andnot (ns.getD i 0) m = 0)) j : Nat)) (fun _ i => ns.length - (intOf i).toNat)
  case atStart => exact ⟨0, Nat.zero_le _, rfl, rfl⟩
  case round =>
    obtain ⟨j, hj, rfl, rfl⟩ := hrel
    by_cases hlt : j < ns.length
    · have hlt' : j < (li ns).length := by rw [HL.out]; exact hlt
      obtain ⟨b, o, rfl, hbl, hc0⟩ := h.atI hlt'
      rw [li_get] at hc0
      have hx := H256.out j
      have HS : Hid (msk (fun i => decide (andnot (ns.getD i 0) m = 0)) (j + 1) = msk (fun i => decide (andnot (ns.getD i 0) m = 0)) j ||| if decide (andnot (ns.getD j 0) m = 0) = true then 2 ^ j else 0) := Lib.hid rfl
      have hb1 := msk_bound (fun i => decide (andnot (ns.getD i 0) m = 0)) hj h8
      generalize msk (fun i => decide (andnot (ns.getD i 0) m = 0)) j = q at *
      generalize ns.getD j 0 = x at *
      go_wp2_with fail
      refine (impl_within x m _ (by omega) (by omega)).mono ?_
      rintro e w1 ⟨rfl, rfl⟩
      cases ht : decide (andnot x m = 0)
      · rw [ht, if_neg (by decide), Nat.or_zero] at HS
        clear ht
        go_wp2
        go_round
        case rel => exact ⟨j + 1, by omega, by go_num, by rw [HS.out]⟩
        case measure => simp [intOf]; omega
      · rw [ht, if_pos rfl] at HS
        have e1 := wrap_two_pow (n := j) (by omega)
        have e2 := i64_or_nat q (2 ^ j) (by omega) (two_pow_lt (by omega))
        rw [← cast_two_pow] at e2
        clear ht
        go_wp2
        go_round
        case rel => exact ⟨j + 1, by omega, by go_num, by rw [HS.out]⟩
        case measure => simp [intOf]; omega
    · obtain rfl : j = ns.length := by omega
      go_wp2
      go_ret
      exact ⟨rfl, rfl⟩
end Go.Proofs.YtgcoohlakcncbaaGreat
