/- Joined of two texts: all masks within a mask in plain words; their contracts, of the program and of the reference. -/
import Derived.Test.YtgdmfihnbbgcoaaGreatDoorM14t
import Derived.Test.YtgdmfihnbbgcoaaGreatDoorM07T
import Derived.Test.YtgdmfihnbbgcoaaGreatDoor14A
namespace Go.Proofs.YtgdmfihnbbgcoaaGreatDoor
set_option linter.unusedVariables false
set_option linter.unusedSimpArgs false
/-- the sums of some powers of two, ascending -/
def sbM (ms : List Nat) : List Nat := ms.foldl (fun out m => out ++ out.map (· ||| 2 ^ m)) [0]
theorem sbM_snoc (ms : List Nat) (m : Nat) : sbM (ms ++ [m]) = sbM ms ++ (sbM ms).map (· ||| 2 ^ m) := by
  unfold sbM; rw [List.foldl_append]; rfl
theorem sbM_length_rev (ms : List Nat) : (sbM ms.reverse).length = 2 ^ ms.length := by
  induction ms with
  | nil => rfl
  | cons m ms ih =>
    rw [List.reverse_cons, sbM_snoc, List.length_append, List.length_map, ih, List.length_cons, Nat.pow_succ]
    omega
theorem sbM_length (ms : List Nat) : (sbM ms).length = 2 ^ ms.length := by
  have := sbM_length_rev ms.reverse
  rwa [List.reverse_reverse, List.length_reverse] at this
/-- the masks within a mask -/
def sbs (b : Nat) : List Nat := sbM (mn b)
theorem mn_pc : ∀ b : Nat, b < 256 → (mn b).length = pc b := by decide +kernel
theorem sbs_length {b : Nat} (h : b < 256) : (sbs b).length = 2 ^ pc b := by
  unfold sbs; rw [sbM_length, mn_pc b h]
/-- ascending, and the next one is what the program computes -/
def asc : List Nat → Bool
  | x :: y :: l => decide (x < y) && asc (y :: l)
  | _ => true
theorem asc_pairwise : ∀ (l : List Nat), asc l = true → l.Pairwise (· < ·)
  | [], _ => List.Pairwise.nil
  | [x], _ => List.pairwise_singleton _ _
  | x :: y :: l, h => by
    rw [asc, Bool.and_eq_true, decide_eq_true_eq] at h
    have ih := asc_pairwise (y :: l) h.2
    refine List.pairwise_cons.2 ⟨fun a ha => ?_, ih⟩
    rcases List.mem_cons.1 ha with rfl | ha
    · exact h.1
    · exact Nat.lt_trans h.1 ((List.pairwise_cons.1 ih).1 a ha)
theorem asc_at : ∀ (l : List Nat) (j : Nat), asc l = true → j + 1 < l.length → l.getD j 0 < l.getD (j + 1) 0
  | x :: y :: l, 0, h, _ => by
    rw [asc, Bool.and_eq_true, decide_eq_true_eq] at h
    exact h.1
  | x :: y :: l, j + 1, h, hj => by
    rw [asc, Bool.and_eq_true] at h
    have := asc_at (y :: l) j h.2 (by simpa using hj)
    simpa using this
theorem sbs_asc : ∀ b : Nat, b < 256 → asc (sbs b) = true := by decide +kernel
theorem sbs_within : ∀ b : Nat, b < 256 → ((sbs b).all fun s => s &&& b == s) = true := by decide +kernel
theorem sbs_ends : ∀ b : Nat, b < 256 → (sbs b).getD 0 1 = 0 ∧ (sbs b).getD (2 ^ pc b - 1) 0 = b := by decide +kernel
theorem or_add : ∀ (a b : Nat), a &&& b = 0 → a ||| b = a + b := by
  intro a
  induction a using Nat.strongRecOn with
  | ind a ih =>
    intro b h
    rcases Nat.eq_zero_or_pos a with rfl | ha
    · simp
    · have h1 : a / 2 &&& b / 2 = 0 := by rw [← Nat.and_div_two, h]
      have h2 := ih (a / 2) (by omega) (b / 2) h1
      have h3 : (a ||| b) / 2 = a / 2 + b / 2 := by rw [Nat.or_div_two, h2]
      have h4 : (a ||| b) % 2 = 1 ↔ a % 2 = 1 ∨ b % 2 = 1 := Nat.or_mod_two_eq_one
      have h5 : (a &&& b) % 2 = 1 ↔ a % 2 = 1 ∧ b % 2 = 1 := Nat.and_mod_two_eq_one
      rw [h] at h5
      omega
/-- all lists between two ones, in ascending order -/
def cds (lo hi : List Nat) : Nat → List (List Nat)
  | 0 => [[]]
  | i + 1 => (cds lo hi i).flatMap fun c => (sbs (andnot (hi.getD i 0) (lo.getD i 0))).map fun s => c ++ [lo.getD i 0 ||| s]
theorem cds_len (lo hi : List Nat) (i : Nat) : ∀ c ∈ cds lo hi i, c.length = i := by
  induction i with
  | zero => intro c hc; simp [cds] at hc; simp [hc]
  | succ i ih =>
    intro c hc
    rw [cds, List.mem_flatMap] at hc
    obtain ⟨d, hd, hc⟩ := hc
    obtain ⟨s, -, rfl⟩ := List.mem_map.1 hc
    simp [ih d hd]
theorem cds_length (lo hi : List Nat) (h : ∀ i, hi.getD i 0 < 256) (i : Nat) : (cds lo hi i).length = 2 ^ chTo lo hi i := by
  induction i with
  | zero => rfl
  | succ i ih =>
    have hz : andnot (hi.getD i 0) (lo.getD i 0) < 256 := andnot_lt (k := 8) (h i)
    rw [cds, chTo, List.length_flatMap]
    simp only [List.length_map, sbs_length hz]
    rw [List.map_const', List.sum_replicate_nat, ih, Nat.pow_add]
theorem chTo_mono (lo hi : List Nat) {i j : Nat} (h : i ≤ j) : chTo lo hi i ≤ chTo lo hi j := by
  induction j with
  | zero => obtain rfl : i = 0 := by omega
            exact Nat.le_refl _
  | succ j ih =>
    rcases Nat.lt_or_ge j i with h1 | h1
    · obtain rfl : i = j + 1 := by omega
      exact Nat.le_refl _
    · rw [chTo]; have := ih h1; omega
/-- less, element by element -/
def ltl : List Nat → List Nat → Prop
  | x :: a, y :: b => x < y ∨ (x = y ∧ ltl a b)
  | _, _ => False
theorem ltl_snoc : ∀ {a b : List Nat} {x y : Nat}, ltl a b → a.length = b.length → ltl (a ++ [x]) (b ++ [y])
  | x :: a, y :: b, _, _, h, hl => by
    rcases h with h | ⟨h1, h2⟩
    · exact .inl h
    · exact .inr ⟨h1, ltl_snoc h2 (by simpa using hl)⟩
theorem ltl_last : ∀ (a : List Nat) {x y : Nat}, x < y → ltl (a ++ [x]) (a ++ [y])
  | [], _, _, h => .inl h
  | z :: a, _, _, h => .inr ⟨rfl, ltl_last a h⟩
theorem cds_asc (lo hi : List Nat) (h : ∀ i, hi.getD i 0 < 256) (i : Nat) : (cds lo hi i).Pairwise ltl := by
  induction i with
  | zero => exact List.pairwise_singleton _ _
  | succ i ih =>
    have hz : andnot (hi.getD i 0) (lo.getD i 0) < 256 := andnot_lt (k := 8) (h i)
    rw [cds, List.pairwise_flatMap]
    refine ⟨fun c hc => ?_, (List.Pairwise.and_mem.1 ih).imp ?_⟩
    · rw [List.pairwise_map]
      have hw := List.all_eq_true.1 (sbs_within _ hz)
      have hd : ∀ s ∈ sbs (andnot (hi.getD i 0) (lo.getD i 0)), lo.getD i 0 &&& s = 0 := fun s hs => by
        have e := eq_of_beq (hw s hs)
        apply Nat.eq_of_testBit_eq
        intro k
        rw [Nat.zero_testBit, ← e, Nat.testBit_and, Nat.testBit_and, andnot_testBit]
        cases (lo.getD i 0).testBit k <;> simp
      refine (List.Pairwise.and_mem.1 (asc_pairwise _ (sbs_asc _ hz))).imp ?_
      rintro s t ⟨hs, ht, hst⟩
      refine ltl_last c ?_
      rw [or_add _ _ (hd s hs), or_add _ _ (hd t ht)]
      omega
    · rintro c d ⟨hc, hd, hcd⟩ x hx y hy
      obtain ⟨s, -, rfl⟩ := List.mem_map.1 hx
      obtain ⟨t, -, rfl⟩ := List.mem_map.1 hy
      exact ltl_snoc hcd (by rw [cds_len lo hi i c hc, cds_len lo hi i d hd])
open Go.RowKit
/-- the program's step from one mask to the next -/
def nxS (s b : Nat) : Int := bits .and .i64 ((s : Int) - (b : Int)) (b : Int)
def stp (b : Nat) : List Nat → Bool
  | x :: y :: l => decide (nxS x b = (y : Int)) && decide (x < b) && stp b (y :: l)
  | [x] => decide (x = b)
  | [] => true
theorem sbs_stp : ∀ b : Nat, b < 256 → stp b (sbs b) = true := by decide +kernel
theorem stp_at (b : Nat) : ∀ (l : List Nat) (j : Nat), stp b l = true → j < l.length → (l.getD j 0 = b ∧ j + 1 = l.length) ∨ (l.getD j 0 < b ∧ j + 1 < l.length ∧ nxS (l.getD j 0) b = (l.getD (j + 1) 0 : Nat))
  | [x], 0, h, _ => by
    rw [stp, decide_eq_true_eq] at h
    exact .inl ⟨h, rfl⟩
  | x :: y :: l, 0, h, _ => by
    rw [stp, Bool.and_eq_true, Bool.and_eq_true, decide_eq_true_eq, decide_eq_true_eq] at h
    exact .inr ⟨h.1.2, by simp, h.1.1⟩
  | x :: y :: l, j + 1, h, hj => by
    rw [stp, Bool.and_eq_true] at h
    have := stp_at b (y :: l) j h.2 (by simpa using hj)
    simpa using this
theorem sbs_zero {b : Nat} (h : b < 256) : (sbs b).getD 0 0 = 0 := by
  have h1 := (sbs_ends b h).1
  have h2 : 0 < (sbs b).length := by rw [sbs_length h]; exact Nat.pow_pos (by omega)
  rw [List.getD_eq_getElem?_getD, List.getElem?_eq_getElem h2] at h1 ⊢
  exact h1
theorem sbs_one {b : Nat} (h : b < 256) : (sbs b).take 1 = [0] := by
  have h1 := sbs_zero h
  have h2 : 0 < (sbs b).length := by rw [sbs_length h]; exact Nat.pow_pos (by omega)
  generalize sbs b = l at *
  cases l with
  | nil => simp at h2
  | cons x l => simp at h1; simp [h1]
theorem pc_le8 (b : Nat) : pc b ≤ 8 := pcTo_le b 8
theorem sbs_len {b : Nat} (h : b < 256) : (sbs b).length ≤ 256 := by
  rw [sbs_length h]
  exact Nat.pow_le_pow_right (n := 2) (by omega) (pc_le8 b)
theorem take_snoc (l : List Nat) {j : Nat} (h : j < l.length) : l.take (j + 1) = l.take j ++ [l.getD j 0] := by
  rw [List.take_succ_eq_append_getElem h]
  simp [List.getD_eq_getElem?_getD, h]
theorem li_at4 {w : World} {A : Option Addr} {n c : Nat} {X : List Nat} (h : Sl cI w (.slice A n c) (li X)) {k : Nat} (hk : k < X.length) :
    ∃ b o, A = some ⟨b, o, none⟩ ∧ b < w.heap.size ∧ w.cell? ⟨b, o + k, none⟩ = some (.int .i64 (X[k] : Nat)) := by
  obtain ⟨b, o, e, hb, hc⟩ := h.atI (k := k) (by rw [li_length]; exact hk)
  rw [li_get, show X.getD k 0 = X[k] by simp [List.getD_eq_getElem?_getD, hk]] at hc
  exact ⟨b, o, e, hb, hc⟩
theorem li_app (a b : List Nat) : li (a ++ b) = li a ++ li b := by simp [li]
set_option maxRecDepth 100000 in
theorem impl_subMasks (b : Nat) (w : World) (hb : b < 256) :
    Calls Tryz.prog 87 #[.int .i64 b] w fun e w' => ∃ u, e = .returned u ∧ Ow cI 2 w.heap.size w' u (li (sbs b)) ∧ Below w.heap.size w w' := by
  have HSt := Lib.hid (fun j hj => stp_at b (sbs b) j (sbs_stp b hb) hj)
  have HAs := Lib.hid (fun j hj => asc_at (sbs b) j (sbs_asc b hb) hj)
  have HOne := Lib.hid (sbs_one hb)
  have HZ := Lib.hid (sbs_zero hb)
  have HTk := Lib.hid (fun j => take_snoc (sbs b) (j := j))
  have HNx : Hid (∀ s : Nat, nxS s b = bits .and .i64 ((s : Int) - (b : Int)) (b : Int)) := Lib.hid fun _ => rfl
  have HLn := Lib.hid (sbs_len hb)
  have HLn0 : Hid (0 < (sbs b).length) := Lib.hid (by rw [sbs_length hb]; exact Nat.pow_pos (by omega))
  generalize sbs b = l at *
  have hO : Ow cI 2 w.heap.size (w.alloc (.cells #[.int .i64 0] 2)) (.slice (some ⟨w.heap.size, 0, none⟩) 1 1) [0] := Ow.lit [0] rfl rfl (Nat.le_refl _)
  have HO0 : Hid (Ow cI 2 w.heap.size (w.alloc (.cells #[.int .i64 0] 2)) (.slice (some ⟨w.heap.size, 0, none⟩) 1 1) (li (l.take (0 + 1)))) := Lib.hid (by rw [Nat.zero_add, HOne.out]; exact hO)
  have HB0 := Lib.hid (below_alloc' w (.cells #[.int .i64 0] 2))
  clear hO
  go_enter Tryz.func87, Tryz.ntmps87
  go_wp2
  go_loopw [3, 4] (fun v s wr => ∃ j : Nat, j < l.length ∧ s = .int .i64 (l.getD j 0 : Nat) ∧ Ow cI 2 w.heap.size wr v (li (l.take (j + 1))) ∧ Below w.heap.size w wr) (fun _ s _ => b - (intOf s).toNat)
  case atStart => exact ⟨0, HLn0.out, by rw [HZ.out]; rfl, HO0.out, HB0.out⟩
  case round =>
    obtain ⟨j, hj, rfl, ho, hb⟩ := hrel
    have HO := Lib.hid ho
    have HB := Lib.hid hb
    have hsz := hb.size
    have hl6 := HLn.out
    clear ho hb
    rcases HSt.out j hj with ⟨h1, h2⟩ | ⟨h1, h2, h3⟩
    · have hE : l.take (j + 1) = l := by rw [h2, List.take_length]
      rw [hE] at HO
      rw [h1]
      have hne : (((b : Nat) : Int) != (b : Int)) = false := by simp
      clear h1 h2
      go_wp2
      go_ret
      exact ⟨_, rfl, HO.out, HB.out⟩
    · have HTj := Lib.hid (HTk.out (j + 1) h2)
      have HLj : Hid ((li (l.take (j + 1))).length = j + 1) := Lib.hid (by rw [li_length, List.length_take]; omega)
      rw [HNx.out] at h3
      have hm1 : l.getD (j + 1) 0 < b + 1 := by
        rcases HSt.out (j + 1) h2 with ⟨q1, q2⟩ | ⟨q1, q2, q3⟩ <;> omega
      have HGt : Hid (l.getD j 0 < l.getD (j + 1) 0) := Lib.hid (HAs.out j h2)
      generalize ht : l.getD (j + 1) 0 = t at *
      have HT := Lib.hid ht
      clear ht
      generalize l.getD j 0 = s at *
      have hne : (((s : Nat) : Int) != (b : Int)) = true := by simp; omega
      have hw1 : IntKind.i64.wrap ((s : Int) - (b : Int)) = (s : Int) - b := IntWalk.i64_in _ ⟨by omega, by omega⟩
      have hw2 : wrap64 ((s : Int) - (b : Int)) = (s : Int) - b := IntWalk.wrap64_in _ ⟨by omega, by omega⟩
      have HG := HGt.out
      go_wp2_with (at_builtin; refine stopHere ?_)
      refine goHere ?_
      refine ap_one (K := cI) _ ty_int64 rfl _ _ rfl (xs := li (l.take (j + 1))) rfl HO.out (t : Int) rfl rfl (by rw [HLj.out]; omega) hsz ?_
      intro v1 w6 ho1 hg1 hb1 hat1
      have HO6 : Hid (Ow cI 2 w.heap.size w6 v1 (li (l.take (j + 1 + 1)))) := Lib.hid (by rw [HTj.out, li_app]; exact ho1)
      have HB6 : Hid (Below w.heap.size w w6) := Lib.hid (HB.out.trans hb1)
      clear ho1 hg1 hb1 hat1
      go_wp2
      go_roundw
      case rel => exact ⟨j + 1, h2, by rw [HT.out], HO6.out, HB6.out⟩
      case measure => simp [intOf]; omega
theorem mems_mnl (b : Nat) : mems b = li (mn b) := mems_mn b
set_option maxRecDepth 100000 in
set_option maxHeartbeats 1000000 in
theorem spec_l01Subs (b : Nat) (w : World) (hb : b < 256) :
    Calls Tryz.prog 85 #[.int .i64 b] w fun e w' => ∃ u, e = .returned u ∧ Ow cI 2 w.heap.size w' u (li (sbs b)) ∧ Below w.heap.size w w' := by
  have HLi := Lib.hid (fun W => spec_l01List b W (by omega))
  rw [mems_mnl] at HLi
  have HE : Hid (sbs b = sbM (mn b)) := Lib.hid rfl
  have HM8 : Hid (∀ m ∈ mn b, m < 8) := Lib.hid fun m hm => bit_lt (n := 8) hb (mn_mem.1 hm).2
  have HL8 : Hid ((mn b).length ≤ 8) := Lib.hid (by rw [mn_pc b hb]; exact pc_le8 b)
  have HS256 : Hid (∀ i, i ≤ (mn b).length → ∀ x ∈ sbM ((mn b).take i), x < 256) := Lib.hid fun i _ => by
    have h8 : ∀ m ∈ (mn b).take i, m < 8 := fun m hm => HM8.out m (List.mem_of_mem_take hm)
    generalize (mn b).take i = ms at *
    obtain ⟨ns, rfl⟩ : ∃ ns, ms = ns.reverse := ⟨ms.reverse, by simp⟩
    induction ns with
    | nil => intro x hx; simp [sbM] at hx; omega
    | cons m ns ih =>
      rw [List.reverse_cons] at h8 ⊢
      rw [sbM_snoc]
      intro x hx
      rcases List.mem_append.1 hx with hx | hx
      · exact ih (fun m hm => h8 m (by simp at hm ⊢; exact .inl hm)) x hx
      · obtain ⟨y, hy, rfl⟩ := List.mem_map.1 hx
        have h1 := ih (fun m hm => h8 m (by simp at hm ⊢; exact .inl hm)) y hy
        have h2 : 2 ^ m < 2 ^ 8 := Nat.pow_lt_pow_right (by omega) (h8 m (by simp))
        exact Nat.or_lt_two_pow (n := 8) h1 h2
  have HNx : Hid (∀ i (hi : i < (mn b).length), sbM ((mn b).take (i + 1)) = sbM ((mn b).take i) ++ (sbM ((mn b).take i)).map (· ||| 2 ^ (mn b).getD i 0)) := Lib.hid fun i hi => by rw [take_snoc _ hi, sbM_snoc]
  have HZ : Hid (sbM ((mn b).take 0) = [0]) := Lib.hid rfl
  have HLn : Hid (∀ i, i ≤ (mn b).length → (sbM ((mn b).take i)).length ≤ 256) := Lib.hid fun i hi => by
    rw [sbM_length]
    exact Nat.pow_le_pow_right (n := 2) (j := 8) (by omega) (by rw [List.length_take]; have := HL8.out; omega)
  have HG8 : Hid (∀ i, i < (mn b).length → (mn b).getD i 0 < 8) := Lib.hid fun i hi => HM8.out _ (by rw [List.getD_eq_getElem?_getD, List.getElem?_eq_getElem hi]; exact List.getElem_mem hi)
  rw [HE.out]
  clear HE HM8
  generalize mn b = ms at *
  have hO : Ow cI 2 w.heap.size (w.alloc (.cells #[.int .i64 0] 2)) (.slice (some ⟨w.heap.size, 0, none⟩) 1 1) [0] := Ow.lit [0] rfl rfl (Nat.le_refl _)
  have HO0 := Lib.hid hO
  have HB0 := Lib.hid (below_alloc' w (.cells #[.int .i64 0] 2))
  clear hO
  go_enter Tryz.func85, Tryz.ntmps85
  go_wp2_with fail
  refine (HLi.out _).mono ?_
  rintro e w1 ⟨u, rfl, ho, hb⟩
  obtain ⟨Am, cm, rfl⟩ := ho.opn
  rw [li_length] at ho ⊢
  have HSm := Lib.hid ho.sl
  have HO1 : Hid (Ow cI 2 w.heap.size w1 (.slice (some ⟨w.heap.size, 0, none⟩) 1 1) (li (sbM (ms.take 0)))) := Lib.hid (HO0.out.below hb)
  have HB1 := Lib.hid (bthen HB0.out hb)
  have HAp : Hid (∀ g, (Value.slice Am ms.length cm).ownBlock = some g → g < w1.heap.size ∧ (Value.slice (some ⟨w.heap.size, 0, none⟩) 1 1).ownBlock ≠ some g) := Lib.hid fun g hg => ⟨(ho.block g hg).2, fun e => by
    have h1 := (ho.block g hg).1
    have h2 : w.heap.size = g := Option.some.inj e
    simp at h1
    omega⟩
  clear ho hb
  go_wp2
  go_loopw [3, 5, 6, 7] (fun v i _ _ wr => ∃ j : Nat, j ≤ ms.length ∧ i = .int .i64 j ∧ Ow cI 2 w.heap.size wr v (li (sbM (ms.take j))) ∧ Sl cI wr (.slice Am ms.length cm) (li ms) ∧ (∀ g, (Value.slice Am ms.length cm).ownBlock = some g → g < wr.heap.size ∧ v.ownBlock ≠ some g) ∧ Below w.heap.size w wr) (fun _ i _ _ _ => ms.length - (intOf i).toNat)
  case atStart => exact ⟨0, Nat.zero_le _, rfl, HO1.out, HSm.out, HAp.out, HB1.out⟩
  case round =>
    obtain ⟨j, hj, rfl, ho, hs, hap, hb⟩ := hrel
    have HO := Lib.hid ho
    have HS := Lib.hid hs
    have HB := Lib.hid hb
    have HA := Lib.hid hap
    have hl8 := HL8.out
    clear hap
    by_cases hlt : j < ms.length
    · have HX := Lib.hid (HNx.out j hlt)
      have HLb := Lib.hid (HLn.out j (by omega))
      have HV := Lib.hid (HS256.out j (by omega))
      obtain ⟨Av, cv, rfl⟩ := ho.opn
      obtain ⟨m, hm⟩ : ∃ m, ms.getD j 0 = m := ⟨_, rfl⟩
      have hm8 := HG8.out j hlt
      rw [hm] at HX hm8
      obtain ⟨bm, om, e1, hbm, hcm⟩ := li_at4 hs hlt
      subst e1
      have hcm' : wr.cell? ⟨bm, om + j, none⟩ = some (.int .i64 (m : Nat)) := by rw [hcm]; simp [← hm, List.getD_eq_getElem?_getD, hlt]
      have HCm := Lib.hid hcm'
      have HAb := Lib.hid (HA.out bm rfl)
      have hl2 : (li (sbM (ms.take j))).length = (sbM (ms.take j)).length := li_length _
      rw [hl2] at HO HAb ⊢
      generalize sbM (ms.take j) = base at *
      clear ho hs hb hcm hcm' hm hl2 hbm
      have hlb := HLb.out
      generalize wr = wo at *
      go_wp2
      go_loopw [3, 7] (fun v i wr => ∃ k : Nat, k ≤ base.length ∧ i = .int .i64 k ∧ Ow cI 2 w.heap.size wr v (li (base ++ (base.take k).map (· ||| 2 ^ m))) ∧ Sl cI wr (.slice (some ⟨bm, om, none⟩) ms.length cm) (li ms) ∧ wr.cell? ⟨bm, om + j, none⟩ = some (.int .i64 (m : Nat)) ∧ (bm < wr.heap.size ∧ v.ownBlock ≠ some bm) ∧ Below w.heap.size w wr) (fun _ i _ => base.length - (intOf i).toNat)
      case atStart => exact ⟨0, Nat.zero_le _, rfl, by simpa using HO.out, HS.out, HCm.out, HAb.out, HB.out⟩
      case round =>
        obtain ⟨k, hk, rfl, ho, hs, hcm, ⟨hbm, hne⟩, hb⟩ := hrel
        have HNe := Lib.hid hne
        clear hne
        have HO := Lib.hid ho
        have HS := Lib.hid hs
        have HB := Lib.hid hb
        have hsz := hb.size
        obtain ⟨Av, cv, rfl⟩ := ho.opn
        by_cases hltk : k < base.length
        · have hll : (li (base ++ (base.take k).map (· ||| 2 ^ m))).length = base.length + k := by rw [li_length, List.length_append, List.length_map, List.length_take]; omega
          have hsv := ho.sl
          rw [hll] at hsv ⊢
          obtain ⟨bv, ov, e2, hbv, hcv⟩ := li_at4 hsv (k := k) (by rw [List.length_append]; omega)
          subst e2
          have eg : (base ++ (base.take k).map (· ||| 2 ^ m))[k]'(by rw [List.length_append]; omega) = base.getD k 0 := by rw [List.getElem_append_left hltk]; simp [List.getD_eq_getElem?_getD, hltk]
          rw [eg] at hcv
          have hx : base.getD k 0 < 256 := HV.out _ (by rw [List.getD_eq_getElem?_getD, List.getElem?_eq_getElem hltk]; exact List.getElem_mem hltk)
          have HTk : Hid (base ++ (base.take (k + 1)).map (· ||| 2 ^ m) = (base ++ (base.take k).map (· ||| 2 ^ m)) ++ [base.getD k 0 ||| 2 ^ m]) := Lib.hid (by rw [take_snoc _ hltk, List.map_append, List.append_assoc]; rfl)
          have HLL := Lib.hid hll
          clear ho hs hb hsv eg hll
          generalize base.getD k 0 = x at *
          generalize base ++ (base.take k).map (· ||| 2 ^ m) = cur at *
          have or1 := i64_or_nat x (2 ^ m) (by omega) (two_pow_lt (by omega))
          rw [← cast_two_pow] at or1
          have HOne : Hid (∀ W, Calls Tryz.prog 37 #[.int .i64 (m : Int)] W fun e w' => e = .returned (.int .i64 (2 ^ m)) ∧ W = w') := Lib.hid (fun W => by
            have := spec_l01One (m : Int) W (by omega) (by omega)
            rwa [Int.toNat_natCast] at this)
          generalize x ||| 2 ^ m = y at *
          have hkk : k < base.length + k := by omega
          have hki : ((k : Nat) : Int) < ((base.length : Nat) : Int) + ((k : Nat) : Int) := by omega
          have hb0 : 0 < base.length := by omega
          go_upto_region 10 with fail
          refine wp_region_sched (Below wr.heap.size wr) 12 [0, 1, 2, 3, 4, 5, 6, 7, 8, 10] (List.range 12) (by kernel_rfl) (by kernel_rfl) (Below.refl _ _).drew ?_
          simp only [show List.range 12 = [0, 1, 2, 3, 4, 5, 6, 7, 8, 9, 10, 11] from rfl]
          repeat
            apply wpSched_q rfl rfl
            case h =>
              intro w' hI K hK
              have hcv' := (hI.cell (p := ⟨bv, ov + k, none⟩) hbv).trans hcv
              have hcm' := (hI.cell (p := ⟨bm, om + j, none⟩) hbm).trans hcm
              simp only [quietV, stillV]
              go_simp
              exact hK
            go_simp
          refine wpSched_r rfl rfl ?_ (Below.refl _ _).drew
          intro K hK hI
          go_simp
          refine (HOne.out _).mono ?_
          rintro e w4 ⟨rfl, rfl⟩
          refine hK _ _ hI ?_
          clear hK K
          repeat
            apply wpSched_q rfl rfl
            case h =>
              intro w' hI K hK
              simp only [quietV, stillV]
              go_simp
              exact hK
            go_simp
          refine wpSched_r rfl rfl ?_ hI
          intro K hK _
          go_simp
          refine hK _ _ (hI.alloc hI.size _) ?_
          clear hK K
          refine wpSched_nil ?_
          try simp only [List.drop_succ_cons, List.drop_zero, List.drop_nil]
          have HO5 := Lib.hid (HO.out.below hI)
          refine ap_one (K := cI) _ ty_int64 rfl _ _ rfl (B := w.heap.size) (xs := li cur) (by rw [HLL.out]; rfl) HO5.out (y : Int) rfl rfl (by rw [HLL.out]; omega) hsz ?_
          intro v1 w6 ho1 hg1 hb1 hat1
          have HO6 : Hid (Ow cI 2 w.heap.size w6 v1 (li (base ++ (base.take (k + 1)).map (· ||| 2 ^ m)))) := Lib.hid (by rw [HTk.out, li_app]; exact ho1)
          have HB6 : Hid (Below w.heap.size w w6) := Lib.hid ((HB.out.trans (hI.mono hsz)).trans hb1)
          have hg2 := grown_alloc _ hg1
          have hgr : wr.grownBy w6 (Value.slice (some ⟨bv, ov, none⟩) (base.length + k) cv).ownBlock := ⟨hg2.os, hg2.tape, hg2.output, hg2.size, hg2.block⟩
          have HS6 := Lib.hid (HS.out.grown hgr (.inr fun e => HNe.out e.symm))
          have HC6 := Lib.hid ((hgr.cell_far ⟨bm, om + j, none⟩ hbm (fun e => HNe.out e.symm)).trans hcm)
          have HL6 : Hid (bm < w6.heap.size ∧ v1.ownBlock ≠ some bm) := Lib.hid ⟨Nat.lt_of_lt_of_le hbm hgr.size, fun e => by
            rcases hat1 with e2 | e2
            · exact HNe.out (e2 ▸ e)
            · rw [e2] at e; injection e with e
              have : wr.drew.heap.size = wr.heap.size := rfl
              omega⟩
          clear ho1 hg1 hg2 hgr hb1 hat1 hI HO5 hcv hbv
          go_wp2
          go_roundw
          case rel => exact ⟨k + 1, by omega, by go_num, HO6.out, HS6.out, HC6.out, HL6.out, HB6.out⟩
          case measure => simp [intOf]; omega
        · obtain rfl : k = base.length := by omega
          have HO2 : Hid (Ow cI 2 w.heap.size wr (.slice Av (li (base ++ (base.take base.length).map (· ||| 2 ^ m))).length cv) (li (sbM (ms.take (j + 1))))) := Lib.hid (by rw [HX.out]; rw [List.take_length] at HO; rw [List.take_length]; exact HO.out)
          have HA2 : Hid (∀ g, (Value.slice (some ⟨bm, om, none⟩) ms.length cm).ownBlock = some g → g < wr.heap.size ∧ (Value.slice Av (li (base ++ (base.take base.length).map (· ||| 2 ^ m))).length cv).ownBlock ≠ some g) := Lib.hid fun g hg => by
            injection hg with hg
            subst hg
            exact ⟨hbm, HNe.out⟩
          clear ho hs hb
          go_wp2
          go_roundw
          case rel => exact ⟨j + 1, by omega, by go_num, HO2.out, HS.out, HA2.out, HB.out⟩
          case measure => simp [intOf]; omega
    · obtain rfl : j = ms.length := by omega
      rw [List.take_length] at HO
      clear ho hs hb
      go_wp2
      go_ret
      exact ⟨_, rfl, HO.out, HB.out⟩
end Go.Proofs.YtgdmfihnbbgcoaaGreatDoor
