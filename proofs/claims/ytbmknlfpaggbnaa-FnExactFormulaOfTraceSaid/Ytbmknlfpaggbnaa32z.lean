/- Contracts of BoxTrace and what it calls, of the program and of the reference. -/
import Derived.Test.Ytbmknlfpaggbnaa32y
namespace Go.Proofs.Ytbmknlfpaggbnaa
open Go.RowKit
set_option linter.unusedVariables false
set_option linter.unusedSimpArgs false
def shL (n : Nat) : List Int := (List.range n).map fun (i : Nat) => (i : Int)
theorem shL_length (n : Nat) : (shL n).length = n := by simp [shL]
theorem shL_snoc (n : Nat) : shL (n + 1) = shL n ++ [(n : Int)] := by simp [shL, List.range_succ]
theorem impl_shifted (n : Nat) (w : World) (hn : n ≤ 1048576) :
    Calls Try.prog 75 #[.int .i64 n, .int .i64 0] w fun e w' => ∃ u, e = .returned u ∧ Ow cI 2 w.heap.size w' u (shL n) ∧ Below w.heap.size w w' := by
  go_enter Try.func75, Try.ntmps75
  go_wp2
  go_loopw [5, 8] (fun v i wr => ∃ k : Nat, k ≤ n ∧ i = .int .i64 k ∧ Ow cI 2 w.heap.size wr v (shL k) ∧ Below w.heap.size w wr) (fun _ i _ => n - (intOf i).toNat)
  case atStart => exact ⟨0, Nat.zero_le _, rfl, Ow.nil _ _, Below.refl _ _⟩
  case round =>
    obtain ⟨k, hk, rfl, ho, hb⟩ := hrel
    by_cases hlt : k < n
    · have hsz := hb.size
      go_wp2_with (at_builtin; refine stopHere ?_)
      refine goHere ?_
      refine ap_one (K := cI) _ ty_int64 rfl _ _ rfl (xs := shL k) rfl ho k rfl rfl (by simp [shL_length]; omega) (by omega) ?_
      intro v1 w1 ho1 hg1 hb1 hat1
      rw [← shL_snoc] at ho1
      have hb2 := hb.trans hb1
      clear ho hb hb1 hg1 hat1
      go_wp2
      go_roundw
      case rel => exact ⟨k + 1, by omega, by go_num, ho1, hb2⟩
      case measure => simp [intOf]; omega
    · obtain rfl : k = n := by omega
      have O := Lib.hid ho; have HB := Lib.hid hb; clear ho hb
      go_wp2
      go_ret
      exact ⟨_, rfl, O.out, HB.out⟩
theorem spec_l01Has (v : Value) (xs : List Int) (x : Int) (w : World) (h : Sl cI w v xs) (hl : xs.length ≤ 1048576) :
    Calls Try.prog 97 #[v, .int .i64 x] w fun e w' => e = .returned (.bool (decide (x ∈ xs))) ∧ w = w' := by
  obtain ⟨A, c, rfl⟩ := h.opn
  have H := Lib.hid h; clear h
  go_enter Try.func97, Try.ntmps97
  go_wp2
  go_loop [5] (fun i => ∃ j : Nat, j ≤ xs.length ∧ i = .int .i64 j ∧ x ∉ xs.take j) (fun i => xs.length - (intOf i).toNat)
  case atStart => exact ⟨0, Nat.zero_le _, rfl, by simp⟩
  case round =>
    obtain ⟨j, hj, rfl, hh⟩ := hrel
    have Hh := Lib.hid hh; clear hh
    by_cases hlt : j < xs.length
    · obtain ⟨g, o, rfl, hb, hc0⟩ := H.out.atI hlt
      by_cases hx : xs[j] = x
      · have hx' : (xs[j] == x) = true := by simpa using hx
        have HM : Hid (decide (x ∈ xs) = true) := Lib.hid (by rw [← hx]; simp)
        clear hx
        go_wp2
        go_ret
        exact ⟨by rw [HM.out]; rfl, rfl⟩
      · have hx' : (xs[j] == x) = false := by simpa using hx
        have HM : Hid (x ∉ xs.take (j + 1)) := Lib.hid (by
          rw [List.take_succ_eq_append_getElem hlt, List.mem_append, List.mem_singleton]
          rintro (h | h)
          · exact Hh.out h
          · exact hx h.symm)
        clear hx
        go_wp2
        go_round
        case rel => exact ⟨j + 1, by omega, by go_num, HM.out⟩
        case measure => simp [intOf]; omega
    · obtain rfl : j = xs.length := by omega
      have HM : Hid (decide (x ∈ xs) = false) := Lib.hid (by have := Hh.out; rw [List.take_length] at this; exact decide_eq_false this)
      go_wp2
      go_ret
      exact ⟨by rw [HM.out]; rfl, rfl⟩
theorem q_l01Has {v : Value} {xs : List Int} {W : World} (h : Sl cI W v xs) (hl : xs.length ≤ 1048576) (x : Int) (n : Nat) :
    Calls Try.prog 97 #[v, .int .i64 x] (W.drewN n) fun e w'' => e = .returned (.bool (decide (x ∈ xs))) ∧ ∃ m, w'' = W.drewN m :=
  (spec_l01Has v xs x _ (h.drewN n) hl).mono fun e w' hh => ⟨hh.1, n, hh.2.symm⟩
theorem spec_l32Has (v : Value) (b : Bool) (xs : List Int) (x : Int) (w : World) (h : Sl cI w v xs) (hl : xs.length ≤ 1048576) :
    Calls Try.prog 72 #[.agg #[.bool b, v], .int .i64 x] w fun e w' => e = .returned (.bool (decide (x ∈ xs) == b)) ∧ Below w.heap.size w w' := by
  obtain ⟨A, c, rfl⟩ := h.opn
  have HB : Hid (Below w.heap.size w (w.alloc (.cells #[.bool b, .slice A xs.length c] 33))) := Lib.hid ((Below.refl _ _).alloc (Nat.le_refl _) _)
  have HQ := Lib.hid (fun n => q_l01Has (h.alloc (.cells #[.bool b, .slice A xs.length c] 33)) hl x n)
  clear h
  go_enter Try.func72, Try.ntmps72
  go_wp2
  go_quiet ((go_at_call 97; exact HQ.out _))
  go_wp2
  go_ret
  exact ⟨rfl, below_drewN HB.out _⟩
/-- the first rank that does not belong to a Trace, as the reference seeks it: to 62 -/
def fsT (b : Bool) (xs : List Int) : Nat → Nat → Nat
  | 0, n => n
  | k + 1, n => if (decide ((n : Int) ∈ xs) == b) = true then fsT b xs k (n + 1) else n
theorem fsT_le (b : Bool) (xs : List Int) (k : Nat) : ∀ n, fsT b xs k n ≤ n + k := by
  induction k with
  | zero => intro n; simp [fsT]
  | succ k ih => intro n; rw [fsT]; split; have := ih (n + 1); omega; omega
theorem impl_BoxTrace_bad (v : Value) (b : Bool) (xs : List Int) (w : World) (h : Sl cI w v xs) (hl : xs.length ≤ 1048576) (hc : okT xs = false) :
    Calls Try.prog 33 #[.agg #[.bool b, v]] w fun e w' => e = .returned (.tuple #[.agg #[.bool false, .slice none 0 0], .int .i64 1]) ∧ Below w.heap.size w w' := by
  obtain ⟨A, c, rfl⟩ := h.opn
  have H1 := Lib.hid (hc ▸ impl_isTrace _ b xs _ ((h.alloc (.cells #[.bool b, .slice A xs.length c] 33)).alloc (.cells #[.bool false, .slice none 0 0] 33)) hl)
  clear hc h
  go_enter Try.func33, Try.ntmps33
  go_wp2_with fail
  refine H1.out.mono ?_
  rintro e w1 ⟨rfl, hb⟩
  have f1 : Blk w1 (w.heap.size + 1) 33 #[.bool false, .slice none 0 0] := (Blk.new' (w.alloc (.cells #[.bool b, .slice A xs.length c] 33)) 33 #[.bool false, .slice none 0 0] (by simp)).below hb (by simp <;> omega)
  obtain ⟨k1, k2, k3⟩ := And.intro f1.cell (And.intro f1.frozen f1.lt)
  have HB : Hid (Below w.heap.size w w1) := Lib.hid ((((Below.refl _ _).alloc (Nat.le_refl _) _).alloc (by simp) _).trans (hb.mono (by simp <;> omega)))
  clear hb f1
  go_wp2
  refine bodyPost_ret (v := .tuple #[.agg #[.bool false, .slice none 0 0], .int .i64 1]) (by simp [results, Try.results33, go_sem, k1, k2, k3]) rfl ⟨rfl, ?_⟩
  exact (HB.out.setCell (by show w.heap.size ≤ w.heap.size + 1; omega) _).setCell (by show w.heap.size ≤ w.heap.size + 1; omega) _
theorem impl_BoxTrace_all (v : Value) (b : Bool) (xs : List Int) (w : World) (h : Sl cI w v xs) (hl : xs.length ≤ 1048576) (hc : okT xs = true) (t k : Int) (ht : ffT b xs = t) (q : (t < 0 ∧ k = 0) ∨ (60 < t ∧ k = 3)) :
    Calls Try.prog 33 #[.agg #[.bool b, v]] w fun e w' => e = .returned (.tuple #[.agg #[.bool false, .slice none 0 0], .int .i64 k]) ∧ Below w.heap.size w w' := by
  obtain ⟨A, c, rfl⟩ := h.opn
  have h2 := (h.alloc (.cells #[.bool b, .slice A xs.length c] 33)).alloc (.cells #[.bool false, .slice none 0 0] 33)
  have H1 := Lib.hid (hc ▸ impl_isTrace _ b xs _ h2 hl)
  have HC := Lib.hid (fun W (hW : Sl cI W (.slice A xs.length c) xs) => ht ▸ impl_firstFalse _ b xs W hW hl)
  have H2 := Lib.hid h2
  clear hc h h2 ht
  go_enter Try.func33, Try.ntmps33
  go_wp2_with fail
  refine H1.out.mono ?_
  rintro e w1 ⟨rfl, hb⟩
  have f0 : Blk w1 w.heap.size 33 #[.bool b, .slice A xs.length c] := ((Blk.new w 33 #[.bool b, .slice A xs.length c]).alloc (.cells #[.bool false, .slice none 0 0] 33)).below hb (by simp <;> omega)
  have F1 : Hid (Blk w1 (w.heap.size + 1) 33 #[.bool false, .slice none 0 0]) := Lib.hid ((Blk.new' (w.alloc (.cells #[.bool b, .slice A xs.length c] 33)) 33 #[.bool false, .slice none 0 0] (by simp)).below hb (by simp <;> omega))
  obtain ⟨i1, i2, i3⟩ := And.intro f0.cell (And.intro f0.frozen f0.lt)
  have HS := Lib.hid (H2.out.below hb)
  have HB : Hid (Below w.heap.size w w1) := Lib.hid ((((Below.refl _ _).alloc (Nat.le_refl _) _).alloc (by simp) _).trans (hb.mono (by simp <;> omega)))
  clear hb f0
  go_wp2_with fail
  refine (HC.out _ HS.out).mono ?_
  rintro e w2 ⟨rfl, hb⟩
  have f1 := F1.out.below hb F1.out.lt
  obtain ⟨k1, k2, k3⟩ := And.intro f1.cell (And.intro f1.frozen f1.lt)
  have HB2 := Lib.hid (bthen HB.out hb)
  clear hb f1 i1 i2 i3
  rcases q with ⟨q1, rfl⟩ | ⟨q1, rfl⟩
  · go_wp2
    refine bodyPost_ret (v := .tuple #[.agg #[.bool false, .slice none 0 0], .int .i64 0]) (by simp [results, Try.results33, go_sem, k1, k2, k3]) rfl ⟨rfl, ?_⟩
    exact (HB2.out.setCell (by show w.heap.size ≤ w.heap.size + 1; omega) _).setCell (by show w.heap.size ≤ w.heap.size + 1; omega) _
  · go_wp2
    refine bodyPost_ret (v := .tuple #[.agg #[.bool false, .slice none 0 0], .int .i64 3]) (by simp [results, Try.results33, go_sem, k1, k2, k3]) rfl ⟨rfl, ?_⟩
    exact (HB2.out.setCell (by show w.heap.size ≤ w.heap.size + 1; omega) _).setCell (by show w.heap.size ≤ w.heap.size + 1; omega) _
theorem impl_BoxTrace_ok (v : Value) (b : Bool) (xs : List Int) (w : World) (h : Sl cI w v xs) (hl : xs.length ≤ 1048576) (hc : okT xs = true) (t : Nat) (ht : ffT b xs = t) (q : t ≤ 60) :
    Calls Try.prog 33 #[.agg #[.bool b, v]] w fun e w' => ∃ u, e = .returned (.tuple #[.agg #[.bool true, u], .int .i64 0]) ∧ Ow cI 2 w.heap.size w' u (shL (t + 1)) ∧ Below w.heap.size w w' := by
  obtain ⟨A, c, rfl⟩ := h.opn
  have h2 := (h.alloc (.cells #[.bool b, .slice A xs.length c] 33)).alloc (.cells #[.bool false, .slice none 0 0] 33)
  have H1 := Lib.hid (hc ▸ impl_isTrace _ b xs _ h2 hl)
  have HC := Lib.hid (fun W (hW : Sl cI W (.slice A xs.length c) xs) => ht ▸ impl_firstFalse _ b xs W hW hl)
  have H2 := Lib.hid h2
  clear hc h h2 ht
  go_enter Try.func33, Try.ntmps33
  go_wp2_with fail
  refine H1.out.mono ?_
  rintro e w1 ⟨rfl, hb⟩
  have f0 : Blk w1 w.heap.size 33 #[.bool b, .slice A xs.length c] := ((Blk.new w 33 #[.bool b, .slice A xs.length c]).alloc (.cells #[.bool false, .slice none 0 0] 33)).below hb (by simp <;> omega)
  have F1 : Hid (Blk w1 (w.heap.size + 1) 33 #[.bool false, .slice none 0 0]) := Lib.hid ((Blk.new' (w.alloc (.cells #[.bool b, .slice A xs.length c] 33)) 33 #[.bool false, .slice none 0 0] (by simp)).below hb (by simp <;> omega))
  obtain ⟨i1, i2, i3⟩ := And.intro f0.cell (And.intro f0.frozen f0.lt)
  have HS := Lib.hid (H2.out.below hb)
  have HB : Hid (Below w.heap.size w w1) := Lib.hid ((((Below.refl _ _).alloc (Nat.le_refl _) _).alloc (by simp) _).trans (hb.mono (by simp <;> omega)))
  clear hb f0
  go_wp2_with fail
  refine (HC.out _ HS.out).mono ?_
  rintro e w2 ⟨rfl, hb⟩
  have F2 := Lib.hid (F1.out.below hb F1.out.lt)
  have HB2 := Lib.hid (bthen HB.out hb)
  clear hb i1 i2 i3
  go_wp2_with fail
  refine (impl_shifted (t + 1) _ (by omega)).mono ?_
  rintro e w3 ⟨u, rfl, ho, hb⟩
  obtain ⟨A2, c2, rfl⟩ := ho.opn
  have f1 := F2.out.below hb F2.out.lt
  obtain ⟨k1, k2, k3⟩ := And.intro f1.cell (And.intro f1.frozen f1.lt)
  have HB3 := Lib.hid (bthen HB2.out hb)
  have HO := Lib.hid ho
  clear hb f1 ho
  rw [shL_length]
  go_wp2
  refine bodyPost_ret (v := .tuple #[.agg #[.bool true, .slice A2 (t + 1) c2], .int .i64 0]) (by simp [results, Try.results33, go_sem, k1, k2, k3]) rfl ⟨_, rfl, ?_, ?_⟩
  · have hz := F2.out.lt
    have ho := HO.out
    rw [shL_length] at ho
    exact ((ho.setBelow (by show w.heap.size + 1 < w2.heap.size; omega) _).setBelow (by show w.heap.size + 1 < w2.heap.size; omega) _).mono (by omega)
  · exact (HB3.out.setCell (by show w.heap.size ≤ w.heap.size + 1; omega) _).setCell (by show w.heap.size ≤ w.heap.size + 1; omega) _
end Go.Proofs.Ytbmknlfpaggbnaa
