/- Contracts of chapters 1, 5 and 6: masks, relations, frames, models. -/
import Derived.Test.YtbejakkcdbhmaaaM05
import Derived.Test.YtbejakkcdbhmaaaB7
import Derived.Deep.RegionWith
namespace Go.Proofs.Ytbejakkcdbhmaaa
open Go.RowKit
set_option linter.unusedVariables false
set_option linter.unusedSimpArgs false
theorem impl_isMask (n m : Int) (w : World) :
    Calls Try.prog 234 #[.int .i64 n, .int .i64 m] w fun e w' => e = .returned (.bool (mkOk n m)) ∧ w = w' := by
  cases h1 : inR n 0 30
  · have E : Hid (mkOk n m = false) := Lib.hid (by unfold mkOk; rw [h1]; rfl)
    have H1 := Lib.hid h1; clear h1
    go_enter Try.func234, Try.ntmps234
    go_wp2_with fail
    refine (impl_inRange _ _ _ _).mono ?_
    rintro e w1 ⟨rfl, rfl⟩
    rw [H1.out]
    go_wp2
    go_ret
    exact ⟨by rw [E.out]; rfl, rfl⟩
  · have E : Hid (mkOk n m = inR m 0 (2 ^ n.toNat - 1)) := Lib.hid (by unfold mkOk; rw [h1]; rfl)
    have hr := inR_iff.1 h1
    have e1 := wrap_two_pow (n := n.toNat) (by omega)
    have e2 := two_pow_le (n := n.toNat) (by omega)
    have e3 : (0 : Int) < 2 ^ n.toNat := Int.pow_pos (by decide)
    have hn : 0 ≤ n := hr.1
    have hn2 : n ≤ 30 := hr.2
    have H1 := Lib.hid h1; clear h1 hr
    go_enter Try.func234, Try.ntmps234
    go_wp2_with fail
    refine (impl_inRange _ _ _ _).mono ?_
    rintro e w1 ⟨rfl, rfl⟩
    rw [H1.out]
    go_wp2_with fail
    refine (impl_inRange _ _ _ _).mono ?_
    rintro e w1 ⟨rfl, rfl⟩
    go_wp2
    go_ret
    exact ⟨by rw [E.out]; rfl, rfl⟩
theorem slices_IndexFunc_ints (v : Value) (xs : List Int) (k : FuncId) (cap : Array Value) (p : Nat → Bool) (w : World) (h : Sl cI w v xs) (hl : xs.length ≤ 1073741824)
    (hk : ∀ (args : Array Value) (w : World), (callFunc k args).run Try.prog w = .ok (.enter k args) w)
    (hf : ∀ w', Below w.heap.size w w' → ∀ (i : Nat) (hi : i < xs.length), Calls Try.prog k (#[.int .i64 xs[i]] ++ cap) w' fun e w'' => e = .returned (.bool (p i)) ∧ Below w'.heap.size w' w'') :
    Calls Try.prog 256 #[v, .func (.func k) #[] cap] w fun e w' => e = .returned (.int .i64 (fidx p xs.length)) ∧ Below w.heap.size w w' := by
  obtain ⟨A, c, rfl⟩ := h.opn
  have HF := Lib.hid hf; clear hf
  go_enter Try.func256, Try.ntmps256
  go_wp2
  go_loopw [8] (fun i wr => ∃ j : Nat, j ≤ xs.length ∧ i = .int .i64 j ∧ (∀ i < j, p i = false) ∧ Below w.heap.size w wr) (fun i _ => xs.length - (intOf i).toNat)
  case atStart => exact ⟨0, Nat.zero_le _, rfl, fun i hi => by omega, Below.refl _ _⟩
  case round =>
    obtain ⟨j, hj, rfl, hh, hb⟩ := hrel
    have Hh := Lib.hid hh; clear hh
    by_cases hlt : j < xs.length
    · obtain ⟨b, o, rfl, hbl, hc0⟩ := (h.below hb).atI hlt
      go_wp2_with fail
      refine (HF.out wr hb j hlt).mono ?_
      rintro e w1 ⟨rfl, hb1⟩
      have HB : Hid (Below w.heap.size w w1) := Lib.hid (hb.trans (hb1.mono hb.size))
      clear hb1 hb
      by_cases hp : p j = true
      · have HE := Lib.hid (fidx_some hlt Hh.out hp)
        rw [hp]
        have HP := Lib.hid hp; clear hp
        go_wp2
        go_ret
        exact ⟨by rw [HE.out]; rfl, HB.out⟩
      · rw [Bool.not_eq_true] at hp
        rw [hp]
        have HP := Lib.hid hp; clear hp
        go_wp2
        go_roundw
        case rel => exact ⟨j + 1, by omega, by go_num, fun i hi => (Nat.lt_or_ge i j).elim (fun h => Hh.out i h) (fun h => (show i = j by omega) ▸ HP.out), HB.out⟩
        case measure => simp [intOf]; omega
    · have HE : Hid (fidx p xs.length = -1) := Lib.hid (fidx_none fun i hi => Hh.out i (by omega))
      have HB := Lib.hid hb; clear hb
      go_wp2
      go_ret
      exact ⟨by rw [HE.out]; rfl, HB.out⟩
theorem slices_ContainsFunc_ints (v : Value) (xs : List Int) (k : FuncId) (cap : Array Value) (p : Nat → Bool) (w : World) (h : Sl cI w v xs) (hl : xs.length ≤ 1073741824)
    (hk : ∀ (args : Array Value) (w : World), (callFunc k args).run Try.prog w = .ok (.enter k args) w)
    (hf : ∀ w', Below w.heap.size w w' → ∀ (i : Nat) (hi : i < xs.length), Calls Try.prog k (#[.int .i64 xs[i]] ++ cap) w' fun e w'' => e = .returned (.bool (p i)) ∧ Below w'.heap.size w' w'') :
    Calls Try.prog 232 #[v, .func (.func k) #[] cap] w fun e w' => e = .returned (.bool ((List.range xs.length).any p)) ∧ Below w.heap.size w w' := by
  have HI := Lib.hid (slices_IndexFunc_ints v xs k cap p w h hl hk hf)
  have HR := Lib.hid (fidx_any p xs.length)
  clear h hk hf
  go_enter Try.func232, Try.ntmps232
  go_wp2_with fail
  refine HI.out.mono ?_
  rintro e w1 ⟨rfl, hb⟩
  have HB := Lib.hid hb; clear hb
  go_wp2
  go_ret
  exact ⟨by rw [← HR.out]; rfl, HB.out⟩
theorem impl_isRelation_1 (x : Int) (B : Nat) (A : Option Addr) (n c : Nat) (xs : List Int) (w : World) (hc : w.cell? ⟨B, 0, none⟩ = some (.slice A xs.length c)) (h : Sl cI w (.slice A xs.length c) xs) :
    Calls Try.prog 295 #[.int .i64 x, .pointer (some ⟨B, 0, none⟩)] w fun e w' => e = .returned (.bool (!mkOk xs.length x)) ∧ Below w.heap.size w w' := by
  have H := Lib.hid h; clear h
  go_enter Try.func295, Try.ntmps295
  go_wp2_with fail
  refine (impl_size_int64 _ xs _ H.out).mono ?_
  rintro e w1 ⟨rfl, rfl⟩
  go_wp2_with fail
  refine (impl_isMask _ _ _).mono ?_
  rintro e w1 ⟨rfl, rfl⟩
  go_wp2
  go_ret
  exact ⟨rfl, Below.refl _ _⟩
theorem en_isRelation_1 : ∀ (args : Array Value) (w : World), (callFunc 295 args).run Try.prog w = .ok (.enter 295 args) w := enters Try.func295 (by kernel_rfl) (by kernel_rfl)
def relBad (xs : List Int) (i : Nat) : Bool := !mkOk xs.length (xs.getD i 0)
theorem relBad_all (xs : List Int) : (!(List.range xs.length).any (relBad xs)) = relOk xs := by
  have h := any_range xs 0 (fun m => !mkOk xs.length m)
  rw [show (List.range xs.length).any (relBad xs) = xs.any fun m => !mkOk xs.length m from h, List.any_eq_not_all_not, Bool.not_not]
  unfold relOk
  congr 1
  funext g
  rw [Bool.not_not]
theorem impl_isRelation (v : Value) (xs : List Int) (w : World) (h : Sl cI w v xs) (hl : xs.length ≤ 1073741824) :
    Calls Try.prog 273 #[v] w fun e w' => e = .returned (.bool (relOk xs)) ∧ Below w.heap.size w w' := by
  obtain ⟨A, c, rfl⟩ := h.opn
  have hb0 := below_alloc' w (.cells #[.slice A xs.length c] 31)
  have h0 := h.below hb0
  have hk0 := Bk.new w #[.slice A xs.length c] 31
  have HC := Lib.hid (slices_ContainsFunc_ints _ xs 295 #[.pointer (some ⟨w.heap.size, 0, none⟩)] (relBad xs) _ h0 hl en_isRelation_1 (fun W hW i hi => by
    rw [show (#[Value.int .i64 xs[i]] ++ #[Value.pointer (some ⟨w.heap.size, 0, none⟩)] : Array Value) = #[.int .i64 xs[i], .pointer (some ⟨w.heap.size, 0, none⟩)] from rfl]
    have := impl_isRelation_1 xs[i] w.heap.size A xs.length c xs W ((hW.cell (p := ⟨w.heap.size, 0, none⟩) hk0.1).trans (hk0.2 0)) (h0.below hW)
    rwa [show relBad xs i = !mkOk xs.length xs[i] by unfold relBad; rw [List.getD_eq_getElem?_getD, List.getElem?_eq_getElem hi]; rfl]))
  have E := Lib.hid (relBad_all xs)
  have HB := Lib.hid hb0
  clear h h0 hb0 hk0
  go_enter Try.func273, Try.ntmps273
  go_wp2_with fail
  refine HC.out.mono ?_
  rintro e w1 ⟨rfl, hb⟩
  have HB1 := Lib.hid (HB.out.trans (hb.mono HB.out.size))
  clear hb
  go_wp2
  go_ret
  exact ⟨by rw [← E.out]; rfl, HB1.out⟩
/-- quiet contracts within regions that draw -/
theorem q_inRange {x l h : Int} {b : Bool} (hq : inR x l h = b) (W : World) (n : Nat) :
    Calls Try.prog 145 #[.int .i64 x, .int .i64 l, .int .i64 h] (W.drewN n) fun e w'' => e = .returned (.bool b) ∧ ∃ m, w'' = W.drewN m :=
  (impl_inRange x l h _).mono fun e w' hh => ⟨by rw [hh.1, hq], n, hh.2.symm⟩
theorem q_size {v : Value} {xs : List Int} {W : World} (h : Sl cI W v xs) (n : Nat) :
    Calls Try.prog 272 #[v] (W.drewN n) fun e w'' => e = .returned (.int .i64 xs.length) ∧ ∃ m, w'' = W.drewN m :=
  (impl_size_int64 v xs _ (h.drewN n)).mono fun e w' hh => ⟨hh.1, n, hh.2.symm⟩
theorem impl_isFrame (n : Int) (v : Value) (xs : List Int) (w : World) (h : Sl cI w v xs) (hl : xs.length ≤ 1073741824) :
    Calls Try.prog 231 #[.agg #[.int .i64 n, v]] w fun e w' => e = .returned (.bool (frOk n xs)) ∧ Below w.heap.size w w' := by
  obtain ⟨A, c, rfl⟩ := h.opn
  have hb0 := below_alloc' w (.cells #[.int .i64 n, .slice A xs.length c] 37)
  have H0 := Lib.hid (h.below hb0)
  have HB := Lib.hid hb0
  have hk0 := Bk.new w #[.int .i64 n, .slice A xs.length c] 37
  clear h hb0
  cases h1 : inR n 0 8
  · have E : Hid (frOk n xs = false) := Lib.hid (by unfold frOk; rw [h1]; rfl)
    have HQ := Lib.hid (fun m => q_inRange h1 (w.alloc (.cells #[.int .i64 n, .slice A xs.length c] 37)) m)
    clear h1 hk0
    go_enter Try.func231, Try.ntmps231
    go_wp2
    go_quiet ((go_at_call 145; exact HQ.out _))
    go_wp2
    go_ret
    exact ⟨by rw [E.out]; rfl, below_drewN HB.out _⟩
  · by_cases h2 : (xs.length : Int) = n
    · have E : Hid (frOk n xs = relOk xs) := Lib.hid (by unfold frOk; rw [h1, decide_eq_true h2]; rfl)
      have H1 := Lib.hid (fun W => h1 ▸ impl_inRange n 0 8 W)
      subst h2
      have HS := Lib.hid (fun W (hW : Sl cI W (.slice A xs.length c) xs) => impl_size_int64 _ xs W hW)
      have HR := Lib.hid (fun W (hW : Sl cI W (.slice A xs.length c) xs) => impl_isRelation _ xs W hW hl)
      have c0 : (w.alloc (.cells #[.int .i64 (xs.length : Int), .slice A xs.length c] 37)).cell? ⟨w.heap.size, 0, none⟩ = some (.int .i64 xs.length) := hk0.2 0
      have c1 : (w.alloc (.cells #[.int .i64 (xs.length : Int), .slice A xs.length c] 37)).cell? ⟨w.heap.size, 1, none⟩ = some (.slice A xs.length c) := hk0.2 1
      have hlt := hk0.1
      clear h1 hk0
      go_enter Try.func231, Try.ntmps231
      go_wp2
      first | go_region_held3 (fun w' => w'.cell? ⟨w.heap.size, 0, none⟩ = some (.int .i64 xs.length) ∧ w'.cell? ⟨w.heap.size, 1, none⟩ = some (.slice A xs.length c)) (first | exact ⟨c0', c1'⟩ | exact ⟨c0, c1⟩ | (simp [*]; done)) (first | (go_at_call 145; refine (H1.out _).mono ?_; rintro e w2 ⟨rfl, rfl⟩) | (go_at_call 272; refine (HS.out _ (H0.out.drewN _)).mono ?_; rintro e w2 ⟨rfl, rfl⟩) | (go_at_call 273; refine (HR.out _ (H0.out.drewN _)).mono ?_; rintro e w3 ⟨rfl, hb3⟩; have c0' := (hb3.cell (p := ⟨w.heap.size, 0, none⟩) hlt).trans c0; have c1' := (hb3.cell (p := ⟨w.heap.size, 1, none⟩) hlt).trans c1)) | fail
      all_goals
        have HB3 := Lib.hid (HB.out.trans ((below_drewN (Below.refl _ _) _).trans hb3 |>.mono HB.out.size))
        clear c0' c1' hb3
        go_wp2
        go_ret
        exact ⟨by rw [E.out]; rfl, HB3.out⟩
    · have E : Hid (frOk n xs = false) := Lib.hid (by unfold frOk; rw [decide_eq_false h2]; simp)
      have d2 : ((xs.length : Int) == n) = false := beq_eq_false_iff_ne.2 h2
      have HQ := Lib.hid (fun m => q_inRange h1 (w.alloc (.cells #[.int .i64 n, .slice A xs.length c] 37)) m)
      have HS := Lib.hid (fun m => q_size H0.out m)
      clear h1 h2 hk0
      go_enter Try.func231, Try.ntmps231
      go_wp2
      go_quiet ((first | (go_at_call 145; exact HQ.out _) | (go_at_call 272; exact HS.out _)))
      go_wp2
      go_ret
      exact ⟨by rw [E.out]; rfl, below_drewN HB.out _⟩
end Go.Proofs.Ytbejakkcdbhmaaa
