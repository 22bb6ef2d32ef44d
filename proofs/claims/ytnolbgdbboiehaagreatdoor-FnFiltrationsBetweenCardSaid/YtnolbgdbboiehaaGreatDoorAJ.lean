/- Joined of several texts: 14J, 14K. -/
import Derived.Test.YtnolbgdbboiehaaGreatDoorM14t
import Derived.Test.YtnolbgdbboiehaaGreatDoorM07T
import Derived.Test.YtnolbgdbboiehaaGreatDoorAZ
import Derived.Shelf.SlSortCmp.Whole1
namespace Go.Proofs.YtnolbgdbboiehaaGreatDoor
open Go.RowKit
set_option linter.unusedVariables false
set_option linter.unusedSimpArgs false
/- Joined of two texts: all masks within a mask in plain words; their contracts, of the program and of the reference. -/
/-- the sums of some powers of two, ascending -/
def sbM (ms : List Nat) : List Nat := ms.foldl (fun out m => out ++ out.map (· ||| 2 ^ m)) [0]
theorem sbM_snoc (ms : List Nat) (m : Nat) : sbM (ms ++ [m]) = sbM ms ++ (sbM ms).map (· ||| 2 ^ m) := by
  unfold sbM; rw [List.foldl_append]; rfl
theorem sbM_length_rev (ms : List Nat) : (sbM ms.reverse).length = 2 ^ ms.length := by
  induction ms with
  | nil => rfl
  | cons m ms ih =>
    rw [List.reverse_cons, sbM_snoc, List.length_append, List.length_map, ih, List.length_cons, Nat.pow_succ]
    omega
theorem sbM_length (ms : List Nat) : (sbM ms).length = 2 ^ ms.length := by
  have := sbM_length_rev ms.reverse
  rwa [List.reverse_reverse, List.length_reverse] at this
/-- the masks within a mask -/
def sbs (b : Nat) : List Nat := sbM (mn b)
theorem mn_pc : ∀ b : Nat, b < 256 → (mn b).length = pc b := by decide +kernel
theorem sbs_length {b : Nat} (h : b < 256) : (sbs b).length = 2 ^ pc b := by
  unfold sbs; rw [sbM_length, mn_pc b h]
/-- ascending, and the next one is what the program computes -/
def asc : List Nat → Bool
  | x :: y :: l => decide (x < y) && asc (y :: l)
  | _ => true
theorem asc_pairwise : ∀ (l : List Nat), asc l = true → l.Pairwise (· < ·)
  | [], _ => List.Pairwise.nil
  | [x], _ => List.pairwise_singleton _ _
  | x :: y :: l, h => by
    rw [asc, Bool.and_eq_true, decide_eq_true_eq] at h
    have ih := asc_pairwise (y :: l) h.2
    refine List.pairwise_cons.2 ⟨fun a ha => ?_, ih⟩
    rcases List.mem_cons.1 ha with rfl | ha
    · exact h.1
    · exact Nat.lt_trans h.1 ((List.pairwise_cons.1 ih).1 a ha)
theorem asc_at : ∀ (l : List Nat) (j : Nat), asc l = true → j + 1 < l.length → l.getD j 0 < l.getD (j + 1) 0
  | x :: y :: l, 0, h, _ => by
    rw [asc, Bool.and_eq_true, decide_eq_true_eq] at h
    exact h.1
  | x :: y :: l, j + 1, h, hj => by
    rw [asc, Bool.and_eq_true] at h
    have := asc_at (y :: l) j h.2 (by simpa using hj)
    simpa using this
theorem sbs_asc : ∀ b : Nat, b < 256 → asc (sbs b) = true := by decide +kernel
theorem sbs_within : ∀ b : Nat, b < 256 → ((sbs b).all fun s => s &&& b == s) = true := by decide +kernel
theorem sbs_ends : ∀ b : Nat, b < 256 → (sbs b).getD 0 1 = 0 ∧ (sbs b).getD (2 ^ pc b - 1) 0 = b := by decide +kernel
theorem or_add : ∀ (a b : Nat), a &&& b = 0 → a ||| b = a + b := by
  intro a
  induction a using Nat.strongRecOn with
  | ind a ih =>
    intro b h
    rcases Nat.eq_zero_or_pos a with rfl | ha
    · simp
    · have h1 : a / 2 &&& b / 2 = 0 := by rw [← Nat.and_div_two, h]
      have h2 := ih (a / 2) (by omega) (b / 2) h1
      have h3 : (a ||| b) / 2 = a / 2 + b / 2 := by rw [Nat.or_div_two, h2]
      have h4 : (a ||| b) % 2 = 1 ↔ a % 2 = 1 ∨ b % 2 = 1 := Nat.or_mod_two_eq_one
      have h5 : (a &&& b) % 2 = 1 ↔ a % 2 = 1 ∧ b % 2 = 1 := Nat.and_mod_two_eq_one
      rw [h] at h5
      omega
/-- all lists between two ones, in ascending order -/
def cds (lo hi : List Nat) : Nat → List (List Nat)
  | 0 => [[]]
  | i + 1 => (cds lo hi i).flatMap fun c => (sbs (andnot (hi.getD i 0) (lo.getD i 0))).map fun s => c ++ [lo.getD i 0 ||| s]
theorem cds_len (lo hi : List Nat) (i : Nat) : ∀ c ∈ cds lo hi i, c.length = i := by
  induction i with
  | zero => intro c hc; simp [cds] at hc; simp [hc]
  | succ i ih =>
    intro c hc
    rw [cds, List.mem_flatMap] at hc
    obtain ⟨d, hd, hc⟩ := hc
    obtain ⟨s, -, rfl⟩ := List.mem_map.1 hc
    simp [ih d hd]
theorem cds_length (lo hi : List Nat) (h : ∀ i, hi.getD i 0 < 256) (i : Nat) : (cds lo hi i).length = 2 ^ chTo lo hi i := by
  induction i with
  | zero => rfl
  | succ i ih =>
    have hz : andnot (hi.getD i 0) (lo.getD i 0) < 256 := andnot_lt (k := 8) (h i)
    rw [cds, chTo, List.length_flatMap]
    simp only [List.length_map, sbs_length hz]
    rw [List.map_const', List.sum_replicate_nat, ih, Nat.pow_add]
theorem chTo_mono (lo hi : List Nat) {i j : Nat} (h : i ≤ j) : chTo lo hi i ≤ chTo lo hi j := by
  induction j with
  | zero => obtain rfl : i = 0 := by omega
            exact Nat.le_refl _
  | succ j ih =>
    rcases Nat.lt_or_ge j i with h1 | h1
    · obtain rfl : i = j + 1 := by omega
      exact Nat.le_refl _
    · rw [chTo]; have := ih h1; omega
/-- less, element by element -/
def ltl : List Nat → List Nat → Prop
  | x :: a, y :: b => x < y ∨ (x = y ∧ ltl a b)
  | _, _ => False
theorem ltl_snoc : ∀ {a b : List Nat} {x y : Nat}, ltl a b → a.length = b.length → ltl (a ++ [x]) (b ++ [y])
  | x :: a, y :: b, _, _, h, hl => by
    rcases h with h | ⟨h1, h2⟩
    · exact .inl h
    · exact .inr ⟨h1, ltl_snoc h2 (by simpa using hl)⟩
theorem ltl_last : ∀ (a : List Nat) {x y : Nat}, x < y → ltl (a ++ [x]) (a ++ [y])
  | [], _, _, h => .inl h
  | z :: a, _, _, h => .inr ⟨rfl, ltl_last a h⟩
theorem cds_asc (lo hi : List Nat) (h : ∀ i, hi.getD i 0 < 256) (i : Nat) : (cds lo hi i).Pairwise ltl := by
  induction i with
  | zero => exact List.pairwise_singleton _ _
  | succ i ih =>
    have hz : andnot (hi.getD i 0) (lo.getD i 0) < 256 := andnot_lt (k := 8) (h i)
    rw [cds, List.pairwise_flatMap]
    refine ⟨fun c hc => ?_, (List.Pairwise.and_mem.1 ih).imp ?_⟩
    · rw [List.pairwise_map]
      have hw := List.all_eq_true.1 (sbs_within _ hz)
      have hd : ∀ s ∈ sbs (andnot (hi.getD i 0) (lo.getD i 0)), lo.getD i 0 &&& s = 0 := fun s hs => by
        have e := eq_of_beq (hw s hs)
        apply Nat.eq_of_testBit_eq
        intro k
        rw [Nat.zero_testBit, ← e, Nat.testBit_and, Nat.testBit_and, andnot_testBit]
        cases (lo.getD i 0).testBit k <;> simp
      refine (List.Pairwise.and_mem.1 (asc_pairwise _ (sbs_asc _ hz))).imp ?_
      rintro s t ⟨hs, ht, hst⟩
      refine ltl_last c ?_
      rw [or_add _ _ (hd s hs), or_add _ _ (hd t ht)]
      omega
    · rintro c d ⟨hc, hd, hcd⟩ x hx y hy
      obtain ⟨s, -, rfl⟩ := List.mem_map.1 hx
      obtain ⟨t, -, rfl⟩ := List.mem_map.1 hy
      exact ltl_snoc hcd (by rw [cds_len lo hi i c hc, cds_len lo hi i d hd])
/-- the program's step from one mask to the next -/
def nxS (s b : Nat) : Int := bits .and .i64 ((s : Int) - (b : Int)) (b : Int)
def stp (b : Nat) : List Nat → Bool
  | x :: y :: l => decide (nxS x b = (y : Int)) && decide (x < b) && stp b (y :: l)
  | [x] => decide (x = b)
  | [] => true
theorem sbs_stp : ∀ b : Nat, b < 256 → stp b (sbs b) = true := by decide +kernel
theorem stp_at (b : Nat) : ∀ (l : List Nat) (j : Nat), stp b l = true → j < l.length → (l.getD j 0 = b ∧ j + 1 = l.length) ∨ (l.getD j 0 < b ∧ j + 1 < l.length ∧ nxS (l.getD j 0) b = (l.getD (j + 1) 0 : Nat))
  | [x], 0, h, _ => by
    rw [stp, decide_eq_true_eq] at h
    exact .inl ⟨h, rfl⟩
  | x :: y :: l, 0, h, _ => by
    rw [stp, Bool.and_eq_true, Bool.and_eq_true, decide_eq_true_eq, decide_eq_true_eq] at h
    exact .inr ⟨h.1.2, by simp, h.1.1⟩
  | x :: y :: l, j + 1, h, hj => by
    rw [stp, Bool.and_eq_true] at h
    have := stp_at b (y :: l) j h.2 (by simpa using hj)
    simpa using this
theorem sbs_zero {b : Nat} (h : b < 256) : (sbs b).getD 0 0 = 0 := by
  have h1 := (sbs_ends b h).1
  have h2 : 0 < (sbs b).length := by rw [sbs_length h]; exact Nat.pow_pos (by omega)
  rw [List.getD_eq_getElem?_getD, List.getElem?_eq_getElem h2] at h1 ⊢
  exact h1
theorem sbs_one {b : Nat} (h : b < 256) : (sbs b).take 1 = [0] := by
  have h1 := sbs_zero h
  have h2 : 0 < (sbs b).length := by rw [sbs_length h]; exact Nat.pow_pos (by omega)
  generalize sbs b = l at *
  cases l with
  | nil => simp at h2
  | cons x l => simp at h1; simp [h1]
theorem pc_le8 (b : Nat) : pc b ≤ 8 := pcTo_le b 8
theorem sbs_len {b : Nat} (h : b < 256) : (sbs b).length ≤ 256 := by
  rw [sbs_length h]
  exact Nat.pow_le_pow_right (n := 2) (by omega) (pc_le8 b)
theorem take_snoc (l : List Nat) {j : Nat} (h : j < l.length) : l.take (j + 1) = l.take j ++ [l.getD j 0] := by
  rw [List.take_succ_eq_append_getElem h]
  simp [List.getD_eq_getElem?_getD, h]
theorem li_at4 {w : World} {A : Option Addr} {n c : Nat} {X : List Nat} (h : Sl cI w (.slice A n c) (li X)) {k : Nat} (hk : k < X.length) :
    ∃ b o, A = some ⟨b, o, none⟩ ∧ b < w.heap.size ∧ w.cell? ⟨b, o + k, none⟩ = some (.int .i64 (X[k] : Nat)) := by
  obtain ⟨b, o, e, hb, hc⟩ := h.atI (k := k) (by rw [li_length]; exact hk)
  rw [li_get, show X.getD k 0 = X[k] by simp [List.getD_eq_getElem?_getD, hk]] at hc
  exact ⟨b, o, e, hb, hc⟩
theorem li_app (a b : List Nat) : li (a ++ b) = li a ++ li b := by simp [li]
set_option maxRecDepth 100000 in
theorem impl_subMasks (b : Nat) (w : World) (hb : b < 256) :
    Calls Tryz.prog 77 #[.int .i64 b] w fun e w' => ∃ u, e = .returned u ∧ Ow cI 2 w.heap.size w' u (li (sbs b)) ∧ Below w.heap.size w w' := by
  have HSt := Lib.hid (fun j hj => stp_at b (sbs b) j (sbs_stp b hb) hj)
  have HAs := Lib.hid (fun j hj => asc_at (sbs b) j (sbs_asc b hb) hj)
  have HOne := Lib.hid (sbs_one hb)
  have HZ := Lib.hid (sbs_zero hb)
  have HTk := Lib.hid (fun j => take_snoc (sbs b) (j := j))
  have HNx : Hid (∀ s : Nat, nxS s b = bits .and .i64 ((s : Int) - (b : Int)) (b : Int)) := Lib.hid fun _ => rfl
  have HLn := Lib.hid (sbs_len hb)
  have HLn0 : Hid (0 < (sbs b).length) := Lib.hid (by rw [sbs_length hb]; exact Nat.pow_pos (by omega))
  generalize sbs b = l at *
  have hO : Ow cI 2 w.heap.size (w.alloc (.cells #[.int .i64 0] 2)) (.slice (some ⟨w.heap.size, 0, none⟩) 1 1) [0] := Ow.lit [0] rfl rfl (Nat.le_refl _)
  have HO0 : Hid (Ow cI 2 w.heap.size (w.alloc (.cells #[.int .i64 0] 2)) (.slice (some ⟨w.heap.size, 0, none⟩) 1 1) (li (l.take (0 + 1)))) := Lib.hid (by rw [Nat.zero_add, HOne.out]; exact hO)
  have HB0 := Lib.hid (below_alloc' w (.cells #[.int .i64 0] 2))
  clear hO
  go_enter Tryz.func77, Tryz.ntmps77
  go_wp2
  go_loopw [3, 4] (fun v s wr => ∃ j : Nat, j < l.length ∧ s = .int .i64 (l.getD j 0 : Nat) ∧ Ow cI 2 w.heap.size wr v (li (l.take (j + 1))) ∧ Below w.heap.size w wr) (fun _ s _ => b - (intOf s).toNat)
  case atStart => exact ⟨0, HLn0.out, by rw [HZ.out]; rfl, HO0.out, HB0.out⟩
  case round =>
    obtain ⟨j, hj, rfl, ho, hb⟩ := hrel
    have HO := Lib.hid ho
    have HB := Lib.hid hb
    have hsz := hb.size
    have hl6 := HLn.out
    clear ho hb
    rcases HSt.out j hj with ⟨h1, h2⟩ | ⟨h1, h2, h3⟩
    · have hE : l.take (j + 1) = l := by rw [h2, List.take_length]
      rw [hE] at HO
      rw [h1]
      have hne : (((b : Nat) : Int) != (b : Int)) = false := by simp
      clear h1 h2
      go_wp2
      go_ret
      exact ⟨_, rfl, HO.out, HB.out⟩
    · have HTj := Lib.hid (HTk.out (j + 1) h2)
      have HLj : Hid ((li (l.take (j + 1))).length = j + 1) := Lib.hid (by rw [li_length, List.length_take]; omega)
      rw [HNx.out] at h3
      have hm1 : l.getD (j + 1) 0 < b + 1 := by
        rcases HSt.out (j + 1) h2 with ⟨q1, q2⟩ | ⟨q1, q2, q3⟩ <;> omega
      have HGt : Hid (l.getD j 0 < l.getD (j + 1) 0) := Lib.hid (HAs.out j h2)
      generalize ht : l.getD (j + 1) 0 = t at *
      have HT := Lib.hid ht
      clear ht
      generalize l.getD j 0 = s at *
      have hne : (((s : Nat) : Int) != (b : Int)) = true := by simp; omega
      have hw1 : IntKind.i64.wrap ((s : Int) - (b : Int)) = (s : Int) - b := IntWalk.i64_in _ ⟨by omega, by omega⟩
      have hw2 : wrap64 ((s : Int) - (b : Int)) = (s : Int) - b := IntWalk.wrap64_in _ ⟨by omega, by omega⟩
      have HG := HGt.out
      go_wp2_with (at_builtin; refine stopHere ?_)
      refine goHere ?_
      refine ap_one (K := cI) _ ty_int64 rfl _ _ rfl (xs := li (l.take (j + 1))) rfl HO.out (t : Int) rfl rfl (by rw [HLj.out]; omega) hsz ?_
      intro v1 w6 ho1 hg1 hb1 hat1
      have HO6 : Hid (Ow cI 2 w.heap.size w6 v1 (li (l.take (j + 1 + 1)))) := Lib.hid (by rw [HTj.out, li_app]; exact ho1)
      have HB6 : Hid (Below w.heap.size w w6) := Lib.hid (HB.out.trans hb1)
      clear ho1 hg1 hb1 hat1
      go_wp2
      go_roundw
      case rel => exact ⟨j + 1, h2, by rw [HT.out], HO6.out, HB6.out⟩
      case measure => simp [intOf]; omega
theorem mems_mnl (b : Nat) : mems b = li (mn b) := mems_mn b
set_option maxRecDepth 100000 in
set_option maxHeartbeats 1000000 in
theorem spec_l01Subs (b : Nat) (w : World) (hb : b < 256) :
    Calls Tryz.prog 82 #[.int .i64 b] w fun e w' => ∃ u, e = .returned u ∧ Ow cI 2 w.heap.size w' u (li (sbs b)) ∧ Below w.heap.size w w' := by
  have HLi := Lib.hid (fun W => spec_l01List b W (by omega))
  rw [mems_mnl] at HLi
  have HE : Hid (sbs b = sbM (mn b)) := Lib.hid rfl
  have HM8 : Hid (∀ m ∈ mn b, m < 8) := Lib.hid fun m hm => bit_lt (n := 8) hb (mn_mem.1 hm).2
  have HL8 : Hid ((mn b).length ≤ 8) := Lib.hid (by rw [mn_pc b hb]; exact pc_le8 b)
  have HS256 : Hid (∀ i, i ≤ (mn b).length → ∀ x ∈ sbM ((mn b).take i), x < 256) := Lib.hid fun i _ => by
    have h8 : ∀ m ∈ (mn b).take i, m < 8 := fun m hm => HM8.out m (List.mem_of_mem_take hm)
    generalize (mn b).take i = ms at *
    obtain ⟨ns, rfl⟩ : ∃ ns, ms = ns.reverse := ⟨ms.reverse, by simp⟩
    induction ns with
    | nil => intro x hx; simp [sbM] at hx; omega
    | cons m ns ih =>
      rw [List.reverse_cons] at h8 ⊢
      rw [sbM_snoc]
      intro x hx
      rcases List.mem_append.1 hx with hx | hx
      · exact ih (fun m hm => h8 m (by simp at hm ⊢; exact .inl hm)) x hx
      · obtain ⟨y, hy, rfl⟩ := List.mem_map.1 hx
        have h1 := ih (fun m hm => h8 m (by simp at hm ⊢; exact .inl hm)) y hy
        have h2 : 2 ^ m < 2 ^ 8 := Nat.pow_lt_pow_right (by omega) (h8 m (by simp))
        exact Nat.or_lt_two_pow (n := 8) h1 h2
  have HNx : Hid (∀ i (hi : i < (mn b).length), sbM ((mn b).take (i + 1)) = sbM ((mn b).take i) ++ (sbM ((mn b).take i)).map (· ||| 2 ^ (mn b).getD i 0)) := Lib.hid fun i hi => by rw [take_snoc _ hi, sbM_snoc]
  have HZ : Hid (sbM ((mn b).take 0) = [0]) := Lib.hid rfl
  have HLn : Hid (∀ i, i ≤ (mn b).length → (sbM ((mn b).take i)).length ≤ 256) := Lib.hid fun i hi => by
    rw [sbM_length]
    exact Nat.pow_le_pow_right (n := 2) (j := 8) (by omega) (by rw [List.length_take]; have := HL8.out; omega)
  have HG8 : Hid (∀ i, i < (mn b).length → (mn b).getD i 0 < 8) := Lib.hid fun i hi => HM8.out _ (by rw [List.getD_eq_getElem?_getD, List.getElem?_eq_getElem hi]; exact List.getElem_mem hi)
  rw [HE.out]
  clear HE HM8
  generalize mn b = ms at *
  have hO : Ow cI 2 w.heap.size (w.alloc (.cells #[.int .i64 0] 2)) (.slice (some ⟨w.heap.size, 0, none⟩) 1 1) [0] := Ow.lit [0] rfl rfl (Nat.le_refl _)
  have HO0 := Lib.hid hO
  have HB0 := Lib.hid (below_alloc' w (.cells #[.int .i64 0] 2))
  clear hO
  go_enter Tryz.func82, Tryz.ntmps82
  go_wp2_with fail
  refine (HLi.out _).mono ?_
  rintro e w1 ⟨u, rfl, ho, hb⟩
  obtain ⟨Am, cm, rfl⟩ := ho.opn
  rw [li_length] at ho ⊢
  have HSm := Lib.hid ho.sl
  have HO1 : Hid (Ow cI 2 w.heap.size w1 (.slice (some ⟨w.heap.size, 0, none⟩) 1 1) (li (sbM (ms.take 0)))) := Lib.hid (HO0.out.below hb)
  have HB1 := Lib.hid (bthen HB0.out hb)
  have HAp : Hid (∀ g, (Value.slice Am ms.length cm).ownBlock = some g → g < w1.heap.size ∧ (Value.slice (some ⟨w.heap.size, 0, none⟩) 1 1).ownBlock ≠ some g) := Lib.hid fun g hg => ⟨(ho.block g hg).2, fun e => by
    have h1 := (ho.block g hg).1
    have h2 : w.heap.size = g := Option.some.inj e
    simp at h1
    omega⟩
  clear ho hb
  go_wp2
  go_loopw [3, 5, 6, 7] (fun v i _ _ wr => ∃ j : Nat, j ≤ ms.length ∧ i = .int .i64 j ∧ Ow cI 2 w.heap.size wr v (li (sbM (ms.take j))) ∧ Sl cI wr (.slice Am ms.length cm) (li ms) ∧ (∀ g, (Value.slice Am ms.length cm).ownBlock = some g → g < wr.heap.size ∧ v.ownBlock ≠ some g) ∧ Below w.heap.size w wr) (fun _ i _ _ _ => ms.length - (intOf i).toNat)
  case atStart => exact ⟨0, Nat.zero_le _, rfl, HO1.out, HSm.out, HAp.out, HB1.out⟩
  case round =>
    obtain ⟨j, hj, rfl, ho, hs, hap, hb⟩ := hrel
    have HO := Lib.hid ho
    have HS := Lib.hid hs
    have HB := Lib.hid hb
    have HA := Lib.hid hap
    have hl8 := HL8.out
    clear hap
    by_cases hlt : j < ms.length
    · have HX := Lib.hid (HNx.out j hlt)
      have HLb := Lib.hid (HLn.out j (by omega))
      have HV := Lib.hid (HS256.out j (by omega))
      obtain ⟨Av, cv, rfl⟩ := ho.opn
      obtain ⟨m, hm⟩ : ∃ m, ms.getD j 0 = m := ⟨_, rfl⟩
      have hm8 := HG8.out j hlt
      rw [hm] at HX hm8
      obtain ⟨bm, om, e1, hbm, hcm⟩ := li_at4 hs hlt
      subst e1
      have hcm' : wr.cell? ⟨bm, om + j, none⟩ = some (.int .i64 (m : Nat)) := by rw [hcm]; simp [← hm, List.getD_eq_getElem?_getD, hlt]
      have HCm := Lib.hid hcm'
      have HAb := Lib.hid (HA.out bm rfl)
      have hl2 : (li (sbM (ms.take j))).length = (sbM (ms.take j)).length := li_length _
      rw [hl2] at HO HAb ⊢
      generalize sbM (ms.take j) = base at *
      clear ho hs hb hcm hcm' hm hl2 hbm
      have hlb := HLb.out
      generalize wr = wo at *
      go_wp2
      go_loopw [3, 7] (fun v i wr => ∃ k : Nat, k ≤ base.length ∧ i = .int .i64 k ∧ Ow cI 2 w.heap.size wr v (li (base ++ (base.take k).map (· ||| 2 ^ m))) ∧ Sl cI wr (.slice (some ⟨bm, om, none⟩) ms.length cm) (li ms) ∧ wr.cell? ⟨bm, om + j, none⟩ = some (.int .i64 (m : Nat)) ∧ (bm < wr.heap.size ∧ v.ownBlock ≠ some bm) ∧ Below w.heap.size w wr) (fun _ i _ => base.length - (intOf i).toNat)
      case atStart => exact ⟨0, Nat.zero_le _, rfl, by simpa using HO.out, HS.out, HCm.out, HAb.out, HB.out⟩
      case round =>
        obtain ⟨k, hk, rfl, ho, hs, hcm, ⟨hbm, hne⟩, hb⟩ := hrel
        have HNe := Lib.hid hne
        clear hne
        have HO := Lib.hid ho
        have HS := Lib.hid hs
        have HB := Lib.hid hb
        have hsz := hb.size
        obtain ⟨Av, cv, rfl⟩ := ho.opn
        by_cases hltk : k < base.length
        · have hll : (li (base ++ (base.take k).map (· ||| 2 ^ m))).length = base.length + k := by rw [li_length, List.length_append, List.length_map, List.length_take]; omega
          have hsv := ho.sl
          rw [hll] at hsv ⊢
          obtain ⟨bv, ov, e2, hbv, hcv⟩ := li_at4 hsv (k := k) (by rw [List.length_append]; omega)
          subst e2
          have eg : (base ++ (base.take k).map (· ||| 2 ^ m))[k]'(by rw [List.length_append]; omega) = base.getD k 0 := by rw [List.getElem_append_left hltk]; simp [List.getD_eq_getElem?_getD, hltk]
          rw [eg] at hcv
          have hx : base.getD k 0 < 256 := HV.out _ (by rw [List.getD_eq_getElem?_getD, List.getElem?_eq_getElem hltk]; exact List.getElem_mem hltk)
          have HTk : Hid (base ++ (base.take (k + 1)).map (· ||| 2 ^ m) = (base ++ (base.take k).map (· ||| 2 ^ m)) ++ [base.getD k 0 ||| 2 ^ m]) := Lib.hid (by rw [take_snoc _ hltk, List.map_append, List.append_assoc]; rfl)
          have HLL := Lib.hid hll
          clear ho hs hb hsv eg hll
          generalize base.getD k 0 = x at *
          generalize base ++ (base.take k).map (· ||| 2 ^ m) = cur at *
          have or1 := i64_or_nat x (2 ^ m) (by omega) (two_pow_lt (by omega))
          rw [← cast_two_pow] at or1
          have HOne : Hid (∀ W, Calls Tryz.prog 40 #[.int .i64 (m : Int)] W fun e w' => e = .returned (.int .i64 (2 ^ m)) ∧ W = w') := Lib.hid (fun W => by
            have := spec_l01One (m : Int) W (by omega) (by omega)
            rwa [Int.toNat_natCast] at this)
          generalize x ||| 2 ^ m = y at *
          have hkk : k < base.length + k := by omega
          have hki : ((k : Nat) : Int) < ((base.length : Nat) : Int) + ((k : Nat) : Int) := by omega
          have hb0 : 0 < base.length := by omega
          go_upto_region 10 with fail
          refine wp_region_sched (Below wr.heap.size wr) 12 [0, 1, 2, 3, 4, 5, 6, 7, 8, 10] (List.range 12) (by kernel_rfl) (by kernel_rfl) (Below.refl _ _).drew ?_
          simp only [show List.range 12 = [0, 1, 2, 3, 4, 5, 6, 7, 8, 9, 10, 11] from rfl]
          repeat
            apply wpSched_q rfl rfl
            case h =>
              intro w' hI K hK
              have hcv' := (hI.cell (p := ⟨bv, ov + k, none⟩) hbv).trans hcv
              have hcm' := (hI.cell (p := ⟨bm, om + j, none⟩) hbm).trans hcm
              simp only [quietV, stillV]
              go_simp
              exact hK
            go_simp
          refine wpSched_r rfl rfl ?_ (Below.refl _ _).drew
          intro K hK hI
          go_simp
          refine (HOne.out _).mono ?_
          rintro e w4 ⟨rfl, rfl⟩
          refine hK _ _ hI ?_
          clear hK K
          repeat
            apply wpSched_q rfl rfl
            case h =>
              intro w' hI K hK
              simp only [quietV, stillV]
              go_simp
              exact hK
            go_simp
          refine wpSched_r rfl rfl ?_ hI
          intro K hK _
          go_simp
          refine hK _ _ (hI.alloc hI.size _) ?_
          clear hK K
          refine wpSched_nil ?_
          try simp only [List.drop_succ_cons, List.drop_zero, List.drop_nil]
          have HO5 := Lib.hid (HO.out.below hI)
          refine ap_one (K := cI) _ ty_int64 rfl _ _ rfl (B := w.heap.size) (xs := li cur) (by rw [HLL.out]; rfl) HO5.out (y : Int) rfl rfl (by rw [HLL.out]; omega) hsz ?_
          intro v1 w6 ho1 hg1 hb1 hat1
          have HO6 : Hid (Ow cI 2 w.heap.size w6 v1 (li (base ++ (base.take (k + 1)).map (· ||| 2 ^ m)))) := Lib.hid (by rw [HTk.out, li_app]; exact ho1)
          have HB6 : Hid (Below w.heap.size w w6) := Lib.hid ((HB.out.trans (hI.mono hsz)).trans hb1)
          have hg2 := grown_alloc _ hg1
          have hgr : wr.grownBy w6 (Value.slice (some ⟨bv, ov, none⟩) (base.length + k) cv).ownBlock := ⟨hg2.os, hg2.tape, hg2.output, hg2.size, hg2.block⟩
          have HS6 := Lib.hid (HS.out.grown hgr (.inr fun e => HNe.out e.symm))
          have HC6 := Lib.hid ((hgr.cell_far ⟨bm, om + j, none⟩ hbm (fun e => HNe.out e.symm)).trans hcm)
          have HL6 : Hid (bm < w6.heap.size ∧ v1.ownBlock ≠ some bm) := Lib.hid ⟨Nat.lt_of_lt_of_le hbm hgr.size, fun e => by
            rcases hat1 with e2 | e2
            · exact HNe.out (e2 ▸ e)
            · rw [e2] at e; injection e with e
              have : wr.drew.heap.size = wr.heap.size := rfl
              omega⟩
          clear ho1 hg1 hg2 hgr hb1 hat1 hI HO5 hcv hbv
          go_wp2
          go_roundw
          case rel => exact ⟨k + 1, by omega, by go_num, HO6.out, HS6.out, HC6.out, HL6.out, HB6.out⟩
          case measure => simp [intOf]; omega
        · obtain rfl : k = base.length := by omega
          have HO2 : Hid (Ow cI 2 w.heap.size wr (.slice Av (li (base ++ (base.take base.length).map (· ||| 2 ^ m))).length cv) (li (sbM (ms.take (j + 1))))) := Lib.hid (by rw [HX.out]; rw [List.take_length] at HO; rw [List.take_length]; exact HO.out)
          have HA2 : Hid (∀ g, (Value.slice (some ⟨bm, om, none⟩) ms.length cm).ownBlock = some g → g < wr.heap.size ∧ (Value.slice Av (li (base ++ (base.take base.length).map (· ||| 2 ^ m))).length cv).ownBlock ≠ some g) := Lib.hid fun g hg => by
            injection hg with hg
            subst hg
            exact ⟨hbm, HNe.out⟩
          clear ho hs hb
          go_wp2
          go_roundw
          case rel => exact ⟨j + 1, by omega, by go_num, HO2.out, HS.out, HA2.out, HB.out⟩
          case measure => simp [intOf]; omega
    · obtain rfl : j = ms.length := by omega
      rw [List.take_length] at HO
      clear ho hs hb
      go_wp2
      go_ret
      exact ⟨_, rfl, HO.out, HB.out⟩
/- Joined of two texts: slices.Compare, CompactFunc and SortFunc at lists of numbers; sortedLists. -/
/-- a list of lists of numbers, whose headers are the call's own -/
def OwR (t : TypeId) (B : Nat) (w : World) (v : Value) (xss : List (List Int)) : Prop :=
  ∃ hs : List Hd, Ow cH t B w v hs ∧ hs.length = xss.length ∧ ∀ i (a : i < hs.length) (b : i < xss.length), Sl cI w hs[i].val xss[i] ∧ ∀ k, hs[i].val.ownBlock = some k → k < w.heap.size ∧ v.ownBlock ≠ some k
theorem OwR.below {t : TypeId} {B : Nat} {w w' : World} {v : Value} {xss : List (List Int)} (h : OwR t B w v xss) (hb : Below w.heap.size w w') : OwR t B w' v xss := by
  obtain ⟨hs, h1, h2, h3⟩ := h
  exact ⟨hs, h1.below hb, h2, fun i a b => ⟨(h3 i a b).1.below hb, fun k hk => ⟨Nat.lt_of_lt_of_le ((h3 i a b).2 k hk).1 hb.size, ((h3 i a b).2 k hk).2⟩⟩⟩
theorem OwR.sl2 {t : TypeId} {B : Nat} {w : World} {v : Value} {xss : List (List Int)} (h : OwR t B w v xss) : Sl2 cI w v xss := by
  obtain ⟨hs, h1, h2, h3⟩ := h
  exact ⟨hs, h1.sl, h2, fun i a b => (h3 i a b).1⟩
theorem OwR.nil {t : TypeId} {B : Nat} {w : World} : OwR t B w (.slice none 0 0) [] := ⟨[], Ow.nil _ _, rfl, fun i a => (by simp at a)⟩
theorem OwR.push {t : TypeId} {B : Nat} {w : World} {v : Value} {xss : List (List Int)} (h : OwR t B w v xss) {A : Option Addr} {n c : Nat} {row : List Int} (hu : Sl cI w (.slice A n c) row) (hk : ∀ k, (Value.slice A n c).ownBlock = some k → k < w.heap.size ∧ v.ownBlock ≠ some k) :
    ∃ hs : List Hd, Ow cH t B w v hs ∧ hs.length = xss.length ∧ ∀ w' v' W, w.grownBy W none → W.heap.size = w.heap.size + 1 → Ow cH t B w' v' (hs ++ [⟨A, n, c⟩]) → W.grownBy w' v.ownBlock →
      (v'.ownBlock = v.ownBlock ∨ v'.ownBlock = some (w.heap.size + 1)) → OwR t B w' v' (xss ++ [row]) := by
  obtain ⟨hs, h1, h2, h3⟩ := h
  refine ⟨hs, h1, h2, fun w' v' W hw hWz ho hg hat => ?_⟩
  have hsz : w.heap.size < w'.heap.size := by have := hg.size; omega
  have key : ∀ (u : Value) (ys : List Int), Sl cI w u ys → (∀ k, u.ownBlock = some k → k < w.heap.size ∧ v.ownBlock ≠ some k) →
      Sl cI w' u ys ∧ ∀ k, u.ownBlock = some k → k < w'.heap.size ∧ v'.ownBlock ≠ some k := by
    intro u ys hu hk
    refine ⟨(hu.grown hw ?_).grown hg ?_, fun k e => ⟨by have := (hk k e).1; omega, fun e3 => ?_⟩⟩
    · cases hq : u.ownBlock with
      | none => exact .inl rfl
      | some k => exact .inr (by simp)
    · cases hq : u.ownBlock with
      | none => exact .inl rfl
      | some k => exact .inr fun e => (hk k hq).2 e.symm
    · rcases hat with e2 | e2
      · exact (hk k e).2 (e2 ▸ e3)
      · rw [e2] at e3; injection e3 with e3; have := (hk k e).1; omega
  refine ⟨_, ho, by simp [h2], fun i a b => ?_⟩
  by_cases hi : i < hs.length
  · rw [List.getElem_append_left hi, List.getElem_append_left (by omega)]
    exact key _ _ (h3 i hi (by omega)).1 (h3 i hi (by omega)).2
  · have e : i = hs.length := by simp at a; omega
    subst e
    have e2 : (xss ++ [row])[hs.length] = row := by
      rw [List.getElem_append_right (by omega)]; simp [h2]
    have e3 : (hs ++ [(⟨A, n, c⟩ : Hd)])[hs.length] = ⟨A, n, c⟩ := by simp
    rw [e2, e3]
    exact key (.slice A n c) _ hu hk
/-- the order of two lists of numbers -/
def cml : List Nat → List Nat → Int
  | [], [] => 0
  | [], _ :: _ => -1
  | _ :: _, [] => 1
  | x :: a, y :: b => if x < y then -1 else if y < x then 1 else cml a b
theorem cml_refl : ∀ a, cml a a = 0
  | [] => rfl
  | x :: a => by rw [cml, if_neg (by omega), if_neg (by omega), cml_refl a]
theorem cml_lt : ∀ {a b : List Nat}, ltl a b → cml a b = -1 ∧ cml b a = 1
  | x :: a, y :: b, h => by
    rcases h with h | ⟨rfl, h⟩
    · exact ⟨by rw [cml, if_pos h], by rw [cml, if_neg (by omega), if_pos h]⟩
    · exact ⟨by rw [cml, if_neg (by omega), if_neg (by omega), (cml_lt h).1], by rw [cml, if_neg (by omega), if_neg (by omega), (cml_lt h).2]⟩
theorem cml_drop (a b : List Nat) (j : Nat) (ha : j < a.length) (hb : j < b.length) : cml (a.drop j) (b.drop j) = if a.getD j 0 < b.getD j 0 then -1 else if b.getD j 0 < a.getD j 0 then 1 else cml (a.drop (j + 1)) (b.drop (j + 1)) := by
  rw [List.drop_eq_getElem_cons ha, List.drop_eq_getElem_cons hb, cml]
  simp [List.getD_eq_getElem?_getD, ha, hb]
theorem cmp_isNaN_int64 (x : Int) (w : World) : Calls Tryz.prog 194 #[.int .i64 x] w fun e w' => e = .returned (.bool false) ∧ w = w' := by
  go_enter Tryz.func194, Tryz.ntmps194
  go_wp2
  go_ret
  exact ⟨by simp, rfl⟩
theorem cmp_Compare_int64 (x y : Nat) (w : World) :
    Calls Tryz.prog 159 #[.int .i64 x, .int .i64 y] w fun e w' => e = .returned (.int .i64 (if x < y then -1 else if y < x then 1 else 0)) ∧ w = w' := by
  have HN := Lib.hid (fun (z : Int) (W : World) => cmp_isNaN_int64 z W)
  obtain ⟨r, hr⟩ : ∃ r, (if x < y then (-1 : Int) else if y < x then 1 else 0) = r := ⟨_, rfl⟩
  rw [hr]
  have HR := Lib.hid hr
  clear hr
  have hc : (x < y ∧ ¬ y < x) ∨ (¬ x < y ∧ y < x) ∨ (¬ x < y ∧ ¬ y < x) := by omega
  rcases hc with ⟨h1, h2⟩ | ⟨h1, h2⟩ | ⟨h1, h2⟩
  all_goals
    have h3 := HR.out
    first | rw [if_pos h1] at h3 | (rw [if_neg h1] at h3; first | rw [if_pos h2] at h3 | rw [if_neg h2] at h3)
    subst h3
    clear HR
    have h1' : decide ((x : Int) < (y : Int)) = decide (x < y) := by simp
    have h2' : decide ((y : Int) < (x : Int)) = decide (y < x) := by simp
    first | rw [decide_eq_true h1] at h1' | rw [decide_eq_false h1] at h1'
    first | rw [decide_eq_true h2] at h2' | rw [decide_eq_false h2] at h2'
    go_enter Tryz.func159, Tryz.ntmps159
    go_wp2_with fail
    refine (HN.out _ _).mono ?_
    rintro e w2 ⟨rfl, rfl⟩
    go_wp2_with fail
    refine (HN.out _ _).mono ?_
    rintro e w2 ⟨rfl, rfl⟩
    go_wp2
    go_ret
    exact ⟨rfl, rfl⟩
set_option maxRecDepth 100000 in
theorem slices_Compare_int64 (xs ys : List Nat) (v u : Value) (w : World) (hx : Sl cI w v (li xs)) (hy : Sl cI w u (li ys)) (hl : xs.length ≤ 1000) (hl2 : ys.length ≤ 1000) :
    Calls Tryz.prog 128 #[v, u] w fun e w' => e = .returned (.int .i64 (cml xs ys)) ∧ w = w' := by
  obtain ⟨A, c, rfl⟩ := hx.opn
  obtain ⟨B, d, rfl⟩ := hy.opn
  rw [li_length] at hx ⊢
  rw [li_length] at hy ⊢
  have HX := Lib.hid hx
  have HY := Lib.hid hy
  have H0 : Hid (cml xs ys = cml (xs.drop 0) (ys.drop 0)) := Lib.hid rfl
  have HD := Lib.hid (cml_drop xs ys)
  have HA : Hid (∀ j, xs.length ≤ j → j < ys.length → cml (xs.drop j) (ys.drop j) = -1) := Lib.hid fun j h1 h2 => by
    rw [List.drop_eq_nil_of_le h1, List.drop_eq_getElem_cons h2]; rfl
  have HC : Hid (∀ j, xs.length ≤ j → ys.length ≤ j → cml (xs.drop j) (ys.drop j) = 0) := Lib.hid fun j h1 h2 => by
    rw [List.drop_eq_nil_of_le h1, List.drop_eq_nil_of_le h2]; rfl
  have HE : Hid (∀ j, j < xs.length → ys.length ≤ j → cml (xs.drop j) (ys.drop j) = 1) := Lib.hid fun j h1 h2 => by
    rw [List.drop_eq_nil_of_le h2, List.drop_eq_getElem_cons h1]; rfl
  clear hx hy
  generalize cml xs ys = res at *
  go_enter Tryz.func128, Tryz.ntmps128
  go_wp2
  go_loop [5, 6, 7, 8, 11] (fun _ _ _ _ i => ∃ j : Nat, j ≤ xs.length ∧ i = .int .i64 j ∧ res = cml (xs.drop j) (ys.drop j)) (fun _ _ _ _ i => xs.length - (intOf i).toNat)
  case atStart => exact ⟨0, Nat.zero_le _, rfl, H0.out⟩
  case round =>
    obtain ⟨j, hj, rfl, hr⟩ := hrel
    have HR := Lib.hid hr
    clear hr H0
    by_cases hlt : j < xs.length
    · have hx := HX.out
      obtain ⟨b1, o1, e1, hb1, hc1⟩ := li_at4 hx hlt
      subst e1
      by_cases hlt2 : j < ys.length
      · have hy := HY.out
        obtain ⟨b2, o2, e2, hb2, hc2⟩ := li_at4 hy hlt2
        subst e2
        have HDj := Lib.hid (HD.out j hlt hlt2)
        rw [show xs[j] = xs.getD j 0 by simp [List.getD_eq_getElem?_getD, hlt]] at hc1
        rw [show ys[j] = ys.getD j 0 by simp [List.getD_eq_getElem?_getD, hlt2]] at hc2
        generalize xs.getD j 0 = a at *
        generalize ys.getD j 0 = b at *
        have HCm := Lib.hid (cmp_Compare_int64 a b w)
        have hn : decide ((ys.length : Int) ≤ (j : Int)) = false := decide_eq_false (by omega)
        clear hx hy
        rcases Nat.lt_trichotomy a b with h | h | h
        · have HF : Hid (res = -1) := Lib.hid (by rw [HR.out, HDj.out, if_pos h])
          rw [if_pos h] at HCm
          go_wp2_with fail
          refine HCm.out.mono ?_
          rintro e w2 ⟨rfl, rfl⟩
          go_wp2
          go_ret
          exact ⟨by rw [HF.out]; rfl, rfl⟩
        · subst h
          have HF : Hid (res = cml (xs.drop (j + 1)) (ys.drop (j + 1))) := Lib.hid (by rw [HR.out, HDj.out, if_neg (by omega), if_neg (by omega)])
          rw [if_neg (by omega), if_neg (by omega)] at HCm
          go_wp2_with fail
          refine HCm.out.mono ?_
          rintro e w2 ⟨rfl, rfl⟩
          go_wp2
          go_round
          case rel => exact ⟨j + 1, by omega, by go_num, HF.out⟩
          case measure => simp [intOf]; omega
        · have HF : Hid (res = 1) := Lib.hid (by rw [HR.out, HDj.out, if_neg (by omega), if_pos h])
          rw [if_neg (by omega), if_pos h] at HCm
          go_wp2_with fail
          refine HCm.out.mono ?_
          rintro e w2 ⟨rfl, rfl⟩
          go_wp2
          go_ret
          exact ⟨by rw [HF.out]; rfl, rfl⟩
      · have HF : Hid (res = 1) := Lib.hid (by rw [HR.out, HE.out j hlt (by omega)])
        have hn : decide ((ys.length : Int) ≤ (j : Int)) = true := decide_eq_true (by omega)
        clear hx
        go_wp2
        go_ret
        exact ⟨by rw [HF.out]; rfl, rfl⟩
    · obtain rfl : j = xs.length := by omega
      by_cases hlt2 : xs.length < ys.length
      · have HF : Hid (res = -1) := Lib.hid (by rw [HR.out, HA.out _ (Nat.le_refl _) hlt2])
        go_wp2
        go_ret
        exact ⟨by rw [HF.out]; rfl, rfl⟩
      · have HF : Hid (res = 0) := Lib.hid (by rw [HR.out, HC.out _ (Nat.le_refl _) (by omega)])
        go_wp2
        go_ret
        exact ⟨by rw [HF.out]; rfl, rfl⟩
set_option maxRecDepth 100000 in
theorem slices_CompactFunc_asc (xss : List (List Int)) (m : Nat) (hm : m ≤ 1000) (hn : xss.length ≤ 1000) (hlen : ∀ i (hi : i < xss.length), xss[i].length = m) (hne : ∀ i (hi : i + 1 < xss.length), xss[i + 1] ≠ xss[i]) (v : Value) (w : World) (h : Sl2 cI w v xss) :
    Calls Tryz.prog 129 #[v, .func (.func 130) #[] #[]] w fun e w' => e = .returned v ∧ Below w.heap.size w w' := by
  obtain ⟨A, c, rfl⟩ := h.opn
  have HS := Lib.hid h
  have HL := Lib.hid hlen
  have HNe := Lib.hid hne
  clear h hlen hne
  by_cases h2 : xss.length < 2
  · have h2' : (xss.length : Int) < 2 := by omega
    go_enter Tryz.func129, Tryz.ntmps129
    go_wp2
    go_ret
    exact ⟨rfl, Below.refl _ _⟩
  · have h2' : ¬ (xss.length : Int) < 2 := by omega
    go_enter Tryz.func129, Tryz.ntmps129
    go_wp2
    go_loopw [5] (fun i wr => ∃ j : Nat, 1 ≤ j ∧ j ≤ xss.length ∧ i = .int .i64 j ∧ Below w.heap.size w wr) (fun i _ => xss.length - (intOf i).toNat)
    case atStart => exact ⟨1, Nat.le_refl _, by omega, rfl, Below.refl _ _⟩
    case round =>
      obtain ⟨j, hj1, hj, rfl, hb⟩ := hrel
      have HB := Lib.hid hb
      by_cases hlt : j < xss.length
      · have hs := HS.out.below hb
        obtain ⟨p, hp⟩ : ∃ p, p + 1 = j := ⟨j - 1, by omega⟩
        obtain ⟨b, o, A1, n1, c1, e1, hbl, hc1, hs1⟩ := hs.at_ hlt
        obtain ⟨b', o', A2, n2, c2, e2, hbl', hc2, hs2⟩ := hs.at_ (k := p) (by omega)
        subst e1
        injection e2 with e2
        injection e2 with e3 e4
        subst e3
        subst e4
        have hN := HNe.out p (by omega)
        have HEq := Lib.hid (fun W (hW : Below wr.heap.size wr W) => slices_Equal_int64 (.slice A1 n1 c1) (.slice A2 n2 c2) xss[j] xss[p] W (hs1.below hW) (hs2.below hW) (by rw [HL.out]; omega) (by rw [HL.out, HL.out]))
        have hdec : decide (xss[j] = xss[p]) = false := decide_eq_false (by subst hp; exact hN)
        rw [hdec] at HEq
        have hjp : ((j : Nat) : Int) - 1 = ((p : Nat) : Int) := by omega
        have hp2 : p < xss.length := by omega
        have hpw : IntKind.i64.wrap ((p : Nat) : Int) = ((p : Nat) : Int) := IntWalk.i64_in _ ⟨by omega, by omega⟩
        have hpx : ((p : Nat) : Int) < ((xss.length : Nat) : Int) := by omega
        clear hs hs1 hs2 hN hdec hb
        go_upto_region 10 with fail
        refine wp_region_sched (Below wr.heap.size wr) 11 [0, 1, 2, 3, 4, 5, 6, 7, 8, 9] (List.range 11) (by kernel_rfl) (by kernel_rfl) (Below.refl _ _).drew ?_
        simp only [show List.range 11 = [0, 1, 2, 3, 4, 5, 6, 7, 8, 9, 10] from rfl]
        repeat
          apply wpSched_q rfl rfl
          case h =>
            intro w' hI K hK
            have hc1' := (hI.cell (p := ⟨b, o + j, none⟩) hbl).trans hc1
            have hc2' := (hI.cell (p := ⟨b, o + p, none⟩) hbl).trans hc2
            simp only [quietV, stillV]
            go_simp
            exact hK
          go_simp
        refine wpSched_r rfl rfl ?_ (Below.refl _ _).drew
        intro K hK hI
        go_simp
        refine (HEq.out _ hI).mono ?_
        rintro e w2 ⟨rfl, hb2⟩
        have hI2 := hI.trans (hb2.mono hI.size)
        refine hK _ _ hI2 ?_
        clear hK K
        have HB2 := Lib.hid (bthen HB.out hI2)
        clear hI hI2 hb2 hc1 hc2
        refine wpSched_nil ?_
        try simp only [List.drop_succ_cons, List.drop_zero, List.drop_nil]
        go_wp2
        go_roundw
        case rel => exact ⟨j + 1, by omega, by omega, by go_num, HB2.out⟩
        case measure => simp [intOf]; omega
      · obtain rfl : j = xss.length := by omega
        clear hb
        go_wp2
        go_ret
        exact ⟨rfl, HB.out⟩
theorem Sl.keepAt {α : Type} {K : Cod α} {w w' : World} {v : Value} {xs : List α} (h : Sl K w v xs) (hs : w.heap.size ≤ w'.heap.size) (hk : ∀ p : Addr, p.block < w.heap.size → v.ownBlock = some p.block → w'.cell? p = w.cell? p) : Sl K w' v xs := by
  obtain ⟨A, c, rfl, hc, hm, hr⟩ := h
  refine ⟨A, c, rfl, hc, hm, ?_⟩
  rcases hr with hr | ⟨b, o, rfl, hb, hcell⟩
  · exact .inl hr
  · exact .inr ⟨b, o, rfl, by omega, fun k x hx => (hk ⟨b, o + k, none⟩ hb rfl).trans (hcell k x hx)⟩
theorem below_grow_ahead (w : World) (n : Nat) (os : Array Obj) : Below w.heap.size w (Go.Sort.grow (Go.Sort.ahead w n) os) :=
  ⟨rfl, rfl, rfl, by simp [Go.Sort.grow, Go.Sort.ahead], fun k hk => by simp [Go.Sort.grow, Go.Sort.ahead, Array.getElem?_append_left hk]⟩
theorem cml_asc {xss : List (List Nat)} (h : xss.Pairwise ltl) {i j : Nat} (hi : i < xss.length) (hj : j < xss.length) : (cml xss[i] xss[j] < 0) ↔ i < j := by
  rw [List.pairwise_iff_getElem] at h
  rcases Nat.lt_trichotomy i j with h1 | h1 | h1
  · rw [(cml_lt (h i j hi hj h1)).1]; simp [h1]
  · subst h1; rw [cml_refl]; simp
  · rw [(cml_lt (h j i hj hi h1)).2]; simp; omega
/- The shelf's laying, written out by the shelf's own program. -/
def Tryz.lSrt_ren : Go.Shelf.Ren := ⟨fun | 6 => 127 | 15 => 144 | 14 => 158 | 28 => 176 | 29 => 177 | 20 => 186 | 21 => 187 | 22 => 188 | 23 => 189 | 24 => 190 | 25 => 191 | 26 => 192 | 27 => 193 | 46 => 206 | 47 => 196 | 48 => 197 | 49 => 207 | 50 => 208 | 57 => 213 | n => n, fun | 22 => 106 | 24 => 24 | 25 => 142 | 3 => 3 | 39 => 132 | 0 => 0 | 53 => 177 | 55 => 92 | 4 => 4 | 46 => 169 | 45 => 168 | 50 => 174 | 5 => 5 | 9 => 9 | 66 => 190 | 70 => 194 | 76 => 204 | 77 => 205 | n => n, fun | n => n⟩
theorem Tryz.lSrt : Go.Proofs.SlLaysF.n6 Tryz.prog Tryz.lSrt_ren := {
  mixed := by kernel_rfl
  f6 := ⟨Tryz.f127.name, by decide, Tryz.func127.trans (congrArg some (by kernel_rfl))⟩
  f14 := ⟨Tryz.f158.name, by decide, Tryz.func158.trans (congrArg some (by kernel_rfl))⟩
  f15 := Tryz.func144.trans (congrArg some (by kernel_rfl))
  f20 := ⟨Tryz.f186.name, by decide, Tryz.func186.trans (congrArg some (by kernel_rfl))⟩
  f21 := ⟨Tryz.f187.name, by decide, Tryz.func187.trans (congrArg some (by kernel_rfl))⟩
  f22 := ⟨Tryz.f188.name, by decide, Tryz.func188.trans (congrArg some (by kernel_rfl))⟩
  f23 := ⟨Tryz.f189.name, by decide, Tryz.func189.trans (congrArg some (by kernel_rfl))⟩
  f24 := ⟨Tryz.f190.name, by decide, Tryz.func190.trans (congrArg some (by kernel_rfl))⟩
  f25 := ⟨Tryz.f191.name, by decide, Tryz.func191.trans (congrArg some (by kernel_rfl))⟩
  f26 := ⟨Tryz.f192.name, by decide, Tryz.func192.trans (congrArg some (by kernel_rfl))⟩
  f27 := ⟨Tryz.f193.name, by decide, Tryz.func193.trans (congrArg some (by kernel_rfl))⟩
  f28 := Tryz.func176.trans (congrArg some (by kernel_rfl))
  f29 := Tryz.func177.trans (congrArg some (by kernel_rfl))
  f46 := ⟨Tryz.f206.name, by decide, Tryz.func206.trans (congrArg some (by kernel_rfl))⟩
  f47 := Tryz.func196.trans (congrArg some (by kernel_rfl))
  f48 := Tryz.func197.trans (congrArg some (by kernel_rfl))
  f49 := ⟨Tryz.f207.name, by decide, Tryz.func207.trans (congrArg some (by kernel_rfl))⟩
  f50 := ⟨Tryz.f208.name, by decide, Tryz.func208.trans (congrArg some (by kernel_rfl))⟩
  f57 := ⟨Tryz.f213.name, by decide, Tryz.func213.trans (congrArg some (by kernel_rfl))⟩
  t0 := Tryz.underlying0
  a0 := Tryz.isAgg0
  z0 := Tryz.sizeOf0
  v0 := Tryz.zeroValue0
  t3 := Tryz.underlying3
  a3 := Tryz.isAgg3
  z3 := Tryz.sizeOf3
  v3 := Tryz.zeroValue3
  t4 := Tryz.underlying4
  a4 := Tryz.isAgg4
  z4 := Tryz.sizeOf4
  v4 := Tryz.zeroValue4
  t5 := Tryz.underlying5
  a5 := Tryz.isAgg5
  z5 := Tryz.sizeOf5
  v5 := Tryz.zeroValue5
  t9 := Tryz.underlying9
  a9 := Tryz.isAgg9
  z9 := Tryz.sizeOf9
  v9 := Tryz.zeroValue9
  t22 := Tryz.underlying106
  a22 := Tryz.isAgg106
  z22 := Tryz.sizeOf106
  v22 := Tryz.zeroValue106
  a24 := Tryz.isAgg24
  z24 := Tryz.sizeOf24
  t25 := Tryz.underlying142
  a25 := Tryz.isAgg142
  z25 := Tryz.sizeOf142
  v25 := Tryz.zeroValue142
  t39 := Tryz.underlying132
  a39 := Tryz.isAgg132
  z39 := Tryz.sizeOf132
  v39 := Tryz.zeroValue132
  t45 := Tryz.underlying168
  a45 := Tryz.isAgg168
  z45 := Tryz.sizeOf168
  v45 := Tryz.zeroValue168
  t46 := Tryz.underlying169
  a46 := Tryz.isAgg169
  z46 := Tryz.sizeOf169
  v46 := Tryz.zeroValue169
  t50 := Tryz.underlying174
  a50 := Tryz.isAgg174
  z50 := Tryz.sizeOf174
  v50 := Tryz.zeroValue174
  t53 := Tryz.underlying177
  a53 := Tryz.isAgg177
  z53 := Tryz.sizeOf177
  v53 := Tryz.zeroValue177
  t55 := Tryz.underlying92
  a55 := Tryz.isAgg92
  z55 := Tryz.sizeOf92
  v55 := Tryz.zeroValue92
  t66 := Tryz.underlying190
  a66 := Tryz.isAgg190
  z66 := Tryz.sizeOf190
  v66 := Tryz.zeroValue190
  t70 := Tryz.underlying194
  a70 := Tryz.isAgg194
  z70 := Tryz.sizeOf194
  v70 := Tryz.zeroValue194
  t76 := Tryz.underlying204
  a76 := Tryz.isAgg204
  z76 := Tryz.sizeOf204
  v76 := Tryz.zeroValue204
  t77 := Tryz.underlying205
  a77 := Tryz.isAgg205
  z77 := Tryz.sizeOf205
  v77 := Tryz.zeroValue205 }
set_option maxRecDepth 100000 in
set_option maxHeartbeats 1000000 in
theorem slices_SortFunc_asc (xss : List (List Nat)) (hasc : xss.Pairwise ltl) (hn : 0 < xss.length) (hn2 : xss.length ≤ 1000) (hlen : ∀ i (hi : i < xss.length), xss[i].length ≤ 1000) (t : TypeId) (B : Nat) (v : Value) (w : World) (h : OwR t B w v (xss.map li)) :
    Calls Tryz.prog 127 #[v, .func (.func 128) #[] #[]] w fun e w' => e = .returned (.tuple #[]) ∧ Below w.heap.size w w' := by
  obtain ⟨hs, h1, h2, h3⟩ := h
  rw [List.length_map] at h2
  obtain ⟨g, c, rfl, hgB, hgz, hfz, hcell⟩ := h1.form (by omega)
  have hN : ∀ i : Fin xss.length, i.val < hs.length := fun i => by rw [h2]; exact i.isLt
  let enc : Fin xss.length → Value := fun i => (hs[i.val]'(hN i)).val
  let cf : Fin xss.length → Fin xss.length → Int := fun i j => cml (xss[i.val]'i.isLt) (xss[j.val]'j.isLt)
  haveI : Inhabited (Fin xss.length) := ⟨⟨0, hn⟩⟩
  have hcf : ∀ i j, ltOf cf i j = decide (i.val < j.val) := fun i j => by
    unfold ltOf
    exact decide_eq_decide.2 (cml_asc hasc i.isLt j.isLt)
  have hO : Go.Sort.SWO (ltOf cf) := ⟨fun x => by rw [hcf]; simp, fun x y z a b => by rw [hcf] at *; simp at *; omega, fun x y z a b => by rw [hcf] at *; simp at *; omega⟩
  let d : Array (Fin xss.length) := Array.ofFn (fun i => i)
  have hd : d.size = xss.length := Array.size_ofFn
  have hdj : ∀ j (hj : j < xss.length), d[j]! = ⟨j, hj⟩ := fun j hj => by
    rw [getElem!_pos d j (by rw [hd]; exact hj)]
    exact Array.getElem_ofFn _
  have hH : Go.Sort.Holds enc w g 0 d := fun j hj => by
    rw [hd] at hj
    rw [hdj j hj, Nat.zero_add]
    refine ⟨?_, hfz j⟩
    rw [hcell j (by rw [h2]; show j < xss.length * 1; omega)]
    have := flat_get (K := cH) hs j (by omega) 0 (by decide)
    simpa [cH] using this
  have hcmp : CmpLays1 Tryz.prog 128 #[] enc cf g 0 d.size w := fun m os dk hsz x y => by
    have key : ∀ i : Fin xss.length, Sl cI (sortWorld enc w g 0 m dk os) (enc i) (li xss[i.val]) := fun i => by
      obtain ⟨q1, q2⟩ := h3 i.val (hN i) (by simp)
      rw [List.getElem_map] at q1
      refine q1.keepAt (by simp [sortWorld, Go.Sort.grow, Go.Sort.ahead]) fun p hp hpb => ?_
      have hne : p.block ≠ g := fun e => (q2 _ hpb).2 (by rw [e]; rfl)
      unfold sortWorld
      rw [Go.Sort.cell?_grow _ _ _ (by simpa [Go.Sort.ahead] using hp), Go.Sort.cell?_putRow_other _ _ _ _ _ _ (.inl hne)]
      rfl
    exact (slices_Compare_int64 _ _ _ _ _ (key x) (key y) (hlen _ x.isLt) (hlen _ y.isLt)).mono fun e w' ⟨he, hw⟩ => ⟨he, 0, #[], by rw [← hw, Go.Sort.grow_empty]; rfl⟩
  have hS := Any.slices_SortFunc Tryz.lSrt enc (fun x => rfl) cf hO 128 #[] g 0 c d w (fun args w => rfl) hcmp hH hgz (by rw [hd]; omega)
  rw [hd] at hS
  rw [h2]
  refine hS.mono fun e w' ⟨he, d', n, os, hp, hso, hw⟩ => ⟨he, ?_⟩
  have hanti : ∀ x y, ltOf cf x y = false → ltOf cf y x = false → x = y := fun x y a b => by
    rw [hcf] at a b
    simp at a b
    exact Fin.ext (by omega)
  have e1 := Go.Sort.sorted_unique_holds hO hanti d d' (by rw [hd]; exact hp) (by rw [hd]; exact hso)
  have e2 := Go.Sort.sorted_unique_holds hO hanti d d (Go.Sort.permIn_refl d 0 d.size) (fun i j h0 hij hj => by
    rw [hd] at hj
    rw [hdj i (by omega), hdj j hj, hcf]
    simp; omega)
  have e3 : d' = d := Array.toList_inj.1 (e1.trans e2.symm)
  rw [hw, e3]
  unfold sortWorld
  rw [Go.Sort.putRow_self enc (Go.Sort.ahead w n) g 0 d hH]
  exact below_grow_ahead w n os
set_option maxRecDepth 100000 in
set_option maxHeartbeats 1000000 in
theorem impl_sortedLists (xss : List (List Nat)) (m : Nat) (hm : m ≤ 1000) (hasc : xss.Pairwise ltl) (hn : 0 < xss.length) (hn2 : xss.length ≤ 1000) (hlen : ∀ c ∈ xss, c.length = m) (t : TypeId) (B : Nat) (v : Value) (w : World) (h : OwR t B w v (xss.map li)) :
    Calls Tryz.prog 79 #[v] w fun e w' => e = .returned v ∧ Below w.heap.size w w' := by
  obtain ⟨A, c, rfl⟩ := h.sl2.opn
  have HS := Lib.hid (slices_SortFunc_asc xss hasc hn hn2 (fun i hi => by rw [hlen _ (List.getElem_mem hi)]; exact hm) t B _ w h)
  have HC := Lib.hid (fun W (hW : Below w.heap.size w W) => slices_CompactFunc_asc (xss.map li) m hm (by rw [List.length_map]; exact hn2) (fun i hi => by
    rw [List.getElem_map, li_length]
    exact hlen _ (List.getElem_mem _)) (fun i hi e => by
    rw [List.length_map] at hi
    rw [List.getElem_map, List.getElem_map] at e
    have h5 := (List.pairwise_iff_getElem.1 hasc) i (i + 1) (by omega) hi (by omega)
    have e6 : xss[i + 1] = xss[i] := by
      have := congrArg (List.map Int.toNat) e
      simpa [li, Function.comp_def] using this
    have h7 := (cml_lt h5).1
    rw [e6, cml_refl] at h7
    exact absurd h7 (by decide)) _ W (h.below hW).sl2)
  clear h
  generalize (xss.map li).length = n at *
  go_enter Tryz.func79, Tryz.ntmps79
  go_wp2_with fail
  refine HS.out.mono ?_
  rintro e w1 ⟨rfl, hb⟩
  have HB1 := Lib.hid hb
  clear hb
  go_wp2_with fail
  refine (HC.out _ HB1.out).mono ?_
  rintro e w2 ⟨rfl, hb⟩
  have HB2 := Lib.hid (bthen HB1.out hb)
  clear hb
  go_wp2
  go_ret
  exact ⟨rfl, HB2.out⟩
end Go.Proofs.YtnolbgdbboiehaaGreatDoor
