/- Joined of several texts: 03v, 03w, 03x, 03y, 03z, 03f, 03h, 03k, 33n. -/
import Derived.Test.YtgcoohlakcncbaaGreatB5
import Derived.Test.YtgcoohlakcncbaaGreatB4
import Derived.Test.YtgcoohlakcncbaaGreatB3
namespace Go.Proofs.YtgcoohlakcncbaaGreat
open Go.RowKit
set_option linter.unusedVariables false
set_option linter.unusedSimpArgs false
/- Contracts of what FormulaOfTrace joins with: l02True, l02Own, truth, l02All. -/
/-- the formula that joins all, by an operation -/
def joinL (op : Int) (xss : List (List Nd)) : List Nd := List.replicate (xss.length - 1) (op, 0) ++ xss.flatten
theorem joinL_one (op : Int) {xss : List (List Nd)} (h : 0 < xss.length) : joinL op (xss.take 1) = xss[0] := by
  cases xss with
  | nil => simp at h
  | cons x t => simp [joinL]
theorem joinL_succ (op : Int) {xss : List (List Nd)} {j : Nat} (h : j < xss.length) (hj : 0 < j) : joinL op (xss.take (j + 1)) = [(op, 0)] ++ joinL op (xss.take j) ++ xss[j] := by
  obtain ⟨i, rfl⟩ : ∃ i, j = i + 1 := ⟨j - 1, by omega⟩
  unfold joinL
  rw [flat_take_succ xss h, List.length_take, List.length_take, Nat.min_eq_left (by omega), Nat.min_eq_left (by omega)]
  simp [List.replicate_succ]
theorem joinL_length (op : Int) (xss : List (List Nd)) : (joinL op xss).length = xss.length - 1 + xss.flatten.length := by simp [joinL]
theorem spec_l02True (w : World) :
    Calls Tryz.prog 177 #[] w fun e w' => ∃ u, e = .returned u ∧ Ow cN 82 w.heap.size w' u [(4, 0), (1, 0), (1, 0)] ∧ Below w.heap.size w w' := by
  go_enter Tryz.func177, Tryz.ntmps177
  go_wp2_with fail
  refine (spec_l02False _).mono ?_
  rintro e w1 ⟨u, rfl, ho, hb⟩
  have HB := Lib.hid hb
  have O := Lib.hid ho
  clear ho hb
  go_wp2_with fail
  refine (spec_l02Not _ _ _ O.out.sl (by simp)).mono ?_
  rintro e w2 ⟨r, rfl, ho, hb⟩
  have HB2 := Lib.hid (bthen HB.out hb)
  have hz := HB.out.size
  have O2 := Lib.hid ho
  clear ho hb
  go_wp2
  go_ret
  exact ⟨_, rfl, O2.out.mono hz, HB2.out⟩
theorem spec_l02Own (v : Value) (xs : List Nd) (w : World) (h : Sl cN w v xs) (hl : xs.length ≤ 1048576) :
    Calls Tryz.prog 127 #[v] w fun e w' => ∃ u, e = .returned u ∧ Ow cN 82 w.heap.size w' u xs ∧ Below w.heap.size w w' := by
  obtain ⟨A, c, rfl⟩ := h.opn
  go_enter Tryz.func127, Tryz.ntmps127
  go_wp2_with (at_builtin; refine stopHere ?_)
  refine goHere ?_
  refine ap_sl (K := cN) _ ty_node rfl _ _ rfl rfl rfl (B := w.heap.size) (xs := []) (news := xs) (Ow.lit [] rfl rfl (Nat.le_refl _)) (h.alloc _) (by simp <;> omega) (by simp) ?_
  intro v1 w1 ho hg hb hat
  have hb' : Below w.heap.size w w1 := ((Below.refl _ _).alloc (Nat.le_refl _) _).trans hb
  have O := Lib.hid ho; clear ho hg hb hat
  go_wp2
  go_ret
  exact ⟨_, rfl, O.out, hb'⟩
theorem impl_truth (w : World) :
    Calls Tryz.prog 176 #[] w fun e w' => ∃ u, e = .returned u ∧ Ow cN 82 w.heap.size w' u [(4, 0), (1, 0), (1, 0)] ∧ Below w.heap.size w w' := by
  go_enter Tryz.func176, Tryz.ntmps176
  go_wp2
  go_ret
  exact ⟨_, rfl, Ow.lit [(4, 0), (1, 0), (1, 0)] rfl rfl (Nat.le_refl _), (Below.refl _ _).alloc (Nat.le_refl _) _⟩
theorem spec_l02All (op : Int) (v : Value) (xss : List (List Nd)) (w : World) (h : Sl2 cN w v xss) (h0 : 0 < xss.length) (hl : xss.length ≤ 262144) (hs : xss.flatten.length ≤ 262144) :
    Calls Tryz.prog 186 #[.int .i64 op, v] w fun e w' => ∃ u, e = .returned u ∧ Ow cN 82 w.heap.size w' u (joinL op xss) ∧ Below w.heap.size w w' := by
  obtain ⟨A, c, rfl⟩ := h.opn
  have H := Lib.hid h; clear h
  obtain ⟨b, o, Ai, ni, ci, rfl, hbl, hc0, hsj⟩ := H.out.at_ h0
  have HS := Lib.hid hsj
  simp only [Nat.add_zero] at hc0
  have h1 : xss[0].length ≤ 262144 := by
    have e := flat_take_succ xss h0
    have l := flat_take_le xss 1
    rw [e, List.length_append] at l
    omega
  have HJ := Lib.hid (joinL_one op h0)
  have hne : ((xss.length : Int) == 0) = false := beq_eq_false_iff_ne.2 (by omega)
  clear hsj
  go_enter Tryz.func186, Tryz.ntmps186
  go_wp2_with fail
  refine (spec_l02Own _ _ _ HS.out (by omega)).mono ?_
  rintro e w1 ⟨u, rfl, ho, hb⟩
  have HB := Lib.hid hb
  have O := Lib.hid ho
  clear ho hb hc0
  go_wp2
  go_loopw [5, 6] (fun v i wr => ∃ j : Nat, 0 < j ∧ j ≤ xss.length ∧ i = .int .i64 j ∧ Ow cN 82 w.heap.size wr v (joinL op (xss.take j)) ∧ Below w.heap.size w wr) (fun _ i _ => xss.length - (intOf i).toNat)
  case atStart => exact ⟨1, by omega, by omega, rfl, by rw [HJ.out]; exact O.out, HB.out⟩
  case round =>
    obtain ⟨j, hj0, hj, rfl, ho, hb⟩ := hrel
    have HO := Lib.hid ho
    have HW := Lib.hid hb
    have hz := hb.size
    clear ho hb
    by_cases hlt : j < xss.length
    · obtain ⟨b', o', Aj, nj, cj, hA, hbl', hcj, hsj⟩ := (H.out.below HW.out).at_ hlt
      injection hA with hA
      injection hA with e1 e2 _
      subst e1; subst e2
      have HSj := Lib.hid hsj
      have HT := Lib.hid (joinL_succ op hlt hj0)
      have h3 := congrArg List.length (flat_take_succ xss hlt)
      have h4 := flat_take_le xss (j + 1)
      rw [List.length_append] at h3
      have hb1 : (joinL op (xss.take j)).length ≤ 1048576 := by rw [joinL_length, List.length_take]; omega
      have hb2 : xss[j].length ≤ 1048576 := by omega
      have Hb1 := Lib.hid hb1; have Hb2 := Lib.hid hb2
      clear h3 h4 hsj hb1 hb2
      go_wp2_with fail
      refine (spec_l02Pair op _ _ _ _ _ HO.out.sl HSj.out Hb1.out Hb2.out).mono ?_
      rintro e w2 ⟨r, rfl, ho, hb⟩
      have HW2 := Lib.hid (bthen HW.out hb)
      have O2 := Lib.hid (ho.mono hz)
      clear ho hb
      go_wp2
      go_roundw
      case rel => exact ⟨j + 1, by omega, by omega, by go_num, by rw [HT.out]; exact O2.out, HW2.out⟩
      case measure => simp [intOf]; omega
    · obtain rfl : j = xss.length := by omega
      have HE : Hid (joinL op (xss.take xss.length) = joinL op xss) := Lib.hid (by rw [List.take_length])
      go_wp2
      go_ret
      exact ⟨_, rfl, by rw [← HE.out]; exact HO.out, HW.out⟩
/- Contract of joinAll of the program. -/
/-- a make of no nodes with room for n -/
theorem mk_room {ops : Array Oper} {rest : List Oper} {o : Oper} {a : Act} {Q : Exit → Act → World → Prop} (w : World) (hgd : o.guard = none) (l c : Operand) (ho : o.op = Op.makeSlice 26 l c) (n : Nat)
    (hl : a.eval l = .int .i64 0) (hc : a.eval c = .int .i64 (n : Int)) (hn : n ≤ 1048576)
    (h : ∀ w', Ow cN 82 w.heap.size w' (.slice (some ⟨w.heap.size, 0, none⟩) 0 n) [] → Below w.heap.size w w' → wpList Tryz.prog ops Q rest (a.put o.dst (.slice (some ⟨w.heap.size, 0, none⟩) 0 n)) w') :
    wpList Tryz.prog ops Q (o :: rest) a w := by
  obtain ⟨i, hi, hz, hsize, hby⟩ := ty_node.info
  have hb : i.bytes = 16 := hby
  refine wpList_make_own w hgd l c 26 ho w.heap.size 82 i _ 2 ty_node.under hi hz hsize .i64 .i64 n n hl hc rfl (by rw [hb]; omega) (by simp only [maxLen]; omega) (Nat.le_refl _) fun w' hown hg => ?_
  exact h w' ⟨⟨_, _, rfl, Nat.zero_le _, by omega⟩, hown⟩ ((Below.refl _ _).grown hg (Nat.le_refl _) (by simp))
theorem impl_joinAll (op : Int) (v : Value) (xss : List (List Nd)) (w : World) (h : Sl2 cN w v xss) (h0 : 0 < xss.length) (hl : xss.length ≤ 262144) (hs : xss.flatten.length ≤ 262144) :
    Calls Tryz.prog 182 #[.int .i64 op, v] w fun e w' => ∃ u, e = .returned u ∧ Ow cN 82 w.heap.size w' u (joinL op xss) ∧ Below w.heap.size w w' := by
  obtain ⟨A, c, rfl⟩ := h.opn
  have H := Lib.hid h; clear h
  have hne : ((xss.length : Int) == 0) = false := beq_eq_false_iff_ne.2 (by omega)
  have hsub : IntKind.i64.wrap ((xss.length : Int) - 1) = ((xss.length - 1 : Nat) : Int) := by rw [IntWalk.i64_in _ ⟨by omega, by omega⟩]; omega
  obtain ⟨L, hL⟩ : ∃ L, xss.length - 1 = L := ⟨_, rfl⟩
  rw [hL] at hsub
  have HL := Lib.hid hL
  have hL' : L ≤ 262144 := by omega
  clear hL
  go_enter Tryz.func182, Tryz.ntmps182
  go_wp2
  go_loop [5, 23] (fun s i => ∃ j : Nat, j ≤ xss.length ∧ i = .int .i64 j ∧ s = .int .i64 ((L + (xss.take j).flatten.length : Nat))) (fun _ i => xss.length - (intOf i).toNat)
  case atStart => exact ⟨0, Nat.zero_le _, rfl, by first | rfl | (have := HL.out; simp; omega)⟩
  case round =>
    obtain ⟨j, hj, rfl, rfl⟩ := hrel
    by_cases hlt : j < xss.length
    · obtain ⟨b, o, Ai, ni, ci, rfl, hbl, hc0, hsj⟩ := H.out.at_ hlt
      obtain ⟨A', c', he⟩ := hsj.opn
      injection he with e1 e2 e3
      subst e1 e2 e3
      have h1 := congrArg List.length (flat_take_succ xss hlt)
      have h2 := flat_take_le xss (j + 1)
      rw [List.length_append] at h1
      obtain ⟨S, hS⟩ : ∃ S, L + (xss.take j).flatten.length = S := ⟨_, rfl⟩
      obtain ⟨T, hT⟩ : ∃ T, L + (xss.take (j + 1)).flatten.length = T := ⟨_, rfl⟩
      obtain ⟨M, hM⟩ : ∃ M, xss[j].length = M := ⟨_, rfl⟩
      have h3 : T = S + M := by omega
      have hb1 : S + M ≤ 1048576 := by omega
      rw [hM] at hc0
      rw [hS]
      have HT := Lib.hid hT
      have hw : IntKind.i64.wrap ((S : Int) + (M : Int)) = ((S + M : Nat) : Int) := by rw [IntWalk.i64_in _ ⟨by omega, by omega⟩]; omega
      have HTS := Lib.hid h3
      clear hS hT hM h1 h2 h3 hsj
      go_wp2
      go_round
      case rel => exact ⟨j + 1, by omega, by go_num, by rw [HT.out, HTS.out, Int.natCast_add]⟩
      case measure => simp [intOf]; omega
    · obtain rfl : j = xss.length := by omega
      have h2 := flat_take_le xss xss.length
      obtain ⟨S, hS⟩ : ∃ S, L + (xss.take xss.length).flatten.length = S := ⟨_, rfl⟩
      have hS' : S ≤ 1048576 := by omega
      rw [hS]
      clear hS h2
      go_wp2_with (at_make; refine stopHere ?_)
      refine goHere ?_
      refine mk_room w rfl _ _ rfl S rfl rfl hS' ?_
      intro w1 ho hb
      have O := Lib.hid ho
      have HB := Lib.hid hb
      clear ho hb
      go_wp2
      go_loopw [8, 37] (fun v i wr => ∃ j : Nat, j ≤ L ∧ i = .int .i64 j ∧ Ow cN 82 w.heap.size wr v (List.replicate j (op, 0)) ∧ Below w.heap.size w wr) (fun _ i _ => L - (intOf i).toNat)
      case atStart => exact ⟨0, Nat.zero_le _, rfl, O.out, HB.out⟩
      case round =>
        obtain ⟨j, hj, rfl, ho, hb⟩ := hrel
        have HO := Lib.hid ho
        have HW := Lib.hid hb
        have hz := hb.size
        clear ho hb
        by_cases hlt : j < L
        · go_wp2_with (at_builtin; refine stopHere ?_)
          refine goHere ?_
          refine ap_one (K := cN) _ ty_node rfl _ _ rfl (B := w.heap.size) (xs := List.replicate j (op, 0)) rfl HO.out (op, 0) rfl rfl (by simp <;> omega) hz ?_
          intro v1 w2 ho hg hb hat
          have HW2 := Lib.hid (HW.out.trans hb)
          have O2 := Lib.hid ho
          clear ho hg hb hat
          go_wp2
          go_roundw
          case rel => exact ⟨j + 1, by omega, by go_num, by rw [List.replicate_succ']; exact O2.out, HW2.out⟩
          case measure => simp [intOf]; omega
        · obtain rfl : j = L := by omega
          go_wp2
          go_loopw [8, 47] (fun v i wr => ∃ k : Nat, k ≤ xss.length ∧ i = .int .i64 k ∧ Ow cN 82 w.heap.size wr v (List.replicate j (op, 0) ++ (xss.take k).flatten) ∧ Below w.heap.size w wr) (fun _ i _ => xss.length - (intOf i).toNat)
          case atStart => exact ⟨0, Nat.zero_le _, rfl, by simpa using HO.out, HW.out⟩
          case round =>
            obtain ⟨k, hk, rfl, ho, hb⟩ := hrel
            have HO3 := Lib.hid ho
            have HW3 := Lib.hid hb
            have hz3 := hb.size
            clear ho hb
            by_cases hlt3 : k < xss.length
            · obtain ⟨b, o, Ai, ni, ci, rfl, hbl, hc0, hsj⟩ := (H.out.below HW3.out).at_ hlt3
              have HS := Lib.hid hsj
              have HT := Lib.hid (flat_take_succ xss hlt3)
              have h1 := congrArg List.length (flat_take_succ xss hlt3)
              have h2 := flat_take_le xss (k + 1)
              rw [List.length_append] at h1
              have hsum : (List.replicate j ((op, 0) : Nd) ++ (xss.take k).flatten).length + xss[k].length ≤ 1048576 := by rw [List.length_append, List.length_replicate]; omega
              have HSum := Lib.hid hsum
              clear h1 h2 hsj hsum
              go_wp2_with (at_builtin; refine stopHere ?_)
              refine goHere ?_
              refine ap_sl (K := cN) _ ty_node rfl _ _ rfl rfl rfl (B := w.heap.size) (xs := List.replicate j (op, 0) ++ (xss.take k).flatten) (news := xss[k]) HO3.out HS.out (by have := HSum.out; omega) hz3 ?_
              intro v1 w2 ho hg hb hat
              have HW4 := Lib.hid (HW3.out.trans hb)
              have O4 := Lib.hid ho
              clear ho hg hb hat
              go_wp2
              go_roundw
              case rel => exact ⟨k + 1, by omega, by go_num, by rw [HT.out, ← List.append_assoc]; exact O4.out, HW4.out⟩
              case measure => simp [intOf]; omega
            · obtain rfl : k = xss.length := by omega
              have HE : Hid (List.replicate j ((op, 0) : Nd) ++ (xss.take xss.length).flatten = joinL op xss) := Lib.hid (by rw [List.take_length, joinL, HL.out])
              go_wp2
              go_ret
              exact ⟨_, rfl, by rw [← HE.out]; exact HO3.out, HW3.out⟩
/- An owned list of lists of nodes: the header slice is the call's own, each header reads. -/
theorem ty_nodes : Ty Tryz.prog 46 26 (.slice none 0 0) 1 24 := Ty.mk' Tryz.underlying46 (by kernel_rfl) rfl (by decide)
def Ow2 (B : Nat) (w : World) (v : Value) (xss : List (List Nd)) : Prop :=
  ∃ hs : List Hd, Ow cH 26 B w v hs ∧ hs.length = xss.length ∧ ∀ i (a : i < hs.length) (b : i < xss.length), Sl cN w hs[i].val xss[i] ∧ (hs[i].val.ownBlock = none ∨ (hs[i].val.ownBlock ≠ v.ownBlock ∧ ∀ k, hs[i].val.ownBlock = some k → k < w.heap.size))
theorem Ow2.nil (B : Nat) (w : World) : Ow2 B w (.slice none 0 0) [] := ⟨[], Ow.nil _ _, rfl, fun i a => by simp at a⟩
theorem Ow2.sl2 {B : Nat} {w : World} {v : Value} {xss : List (List Nd)} (h : Ow2 B w v xss) : Sl2 cN w v xss := by
  obtain ⟨hs, h1, h2, h3⟩ := h
  exact ⟨hs, h1.sl, h2, fun i a b => (h3 i a b).1⟩
theorem Ow2.below {B : Nat} {w w' : World} {v : Value} {xss : List (List Nd)} (h : Ow2 B w v xss) (hb : Below w.heap.size w w') : Ow2 B w' v xss := by
  obtain ⟨hs, h1, h2, h3⟩ := h
  refine ⟨hs, h1.below hb, h2, fun i a b => ⟨(h3 i a b).1.below hb, ?_⟩⟩
  rcases (h3 i a b).2 with h | ⟨h, k⟩
  · exact .inl h
  · exact .inr ⟨h, fun j hj => Nat.lt_of_lt_of_le (k j hj) hb.size⟩
/-- one more header, which lies in a block that is not the header slice's -/
theorem Ow2.snoc {B : Nat} {w w' : World} {v v' : Value} {xss : List (List Nd)} {hd : Hd} {xs : List Nd} {hs : List Hd} (hs2 : hs.length = xss.length)
    (h3 : ∀ i (a : i < hs.length) (b : i < xss.length), Sl cN w hs[i].val xss[i] ∧ (hs[i].val.ownBlock = none ∨ (hs[i].val.ownBlock ≠ v.ownBlock ∧ ∀ k, hs[i].val.ownBlock = some k → k < w.heap.size)))
    (hx : Sl cN w hd.val xs) (hne : hd.val.ownBlock = none ∨ (hd.val.ownBlock ≠ v.ownBlock ∧ ∀ k, hd.val.ownBlock = some k → k < w.heap.size))
    (ho : Ow cH 26 B w' v' (hs ++ [hd])) (hg : w.grownBy w' v.ownBlock) (hat : v'.ownBlock = v.ownBlock ∨ v'.ownBlock = some w.heap.size) : Ow2 B w' v' (xss ++ [xs]) := by
  have key : ∀ (u : Value) (ys : List Nd), Sl cN w u ys → (u.ownBlock = none ∨ (u.ownBlock ≠ v.ownBlock ∧ ∀ k, u.ownBlock = some k → k < w.heap.size)) →
      Sl cN w' u ys ∧ (u.ownBlock = none ∨ (u.ownBlock ≠ v'.ownBlock ∧ ∀ k, u.ownBlock = some k → k < w'.heap.size)) := by
    intro u ys hu hn
    refine ⟨hu.grown hg (hn.imp id And.left), ?_⟩
    rcases hn with hn | ⟨hn, hk⟩
    · exact .inl hn
    · refine .inr ⟨?_, fun k e => Nat.lt_of_lt_of_le (hk k e) hg.size⟩
      rcases hat with e | e
      · rw [e]; exact hn
      · rw [e]; intro e2; exact absurd (hk _ e2) (Nat.lt_irrefl _)
  refine ⟨hs ++ [hd], ho, by simp [hs2], fun i a b => ?_⟩
  by_cases hi : i < hs.length
  · rw [List.getElem_append_left hi, List.getElem_append_left (by omega)]
    exact key _ _ (h3 i hi (by omega)).1 (h3 i hi (by omega)).2
  · have e : i = hs.length := by simp at a; omega
    subst e
    have e2 : (xss ++ [xs])[hs.length] = xs := by
      rw [List.getElem_append_right (by omega)]; simp [hs2]
    rw [e2]
    have e3 : (hs ++ [hd])[hs.length] = hd := by simp
    rw [e3]
    exact key _ _ hx hne
/- l02All and joinAll at the empty list. -/
def joinE (op : Int) : List Nd := if op = 2 then [(4, 0), (1, 0), (1, 0)] else [(1, 0)]
theorem spec_l02All_nil (op : Int) (v : Value) (w : World) (h : Sl2 cN w v []) :
    Calls Tryz.prog 186 #[.int .i64 op, v] w fun e w' => ∃ u, e = .returned u ∧ Ow cN 82 w.heap.size w' u (joinE op) ∧ Below w.heap.size w w' := by
  obtain ⟨A, c, rfl⟩ := h.opn
  simp only [List.length_nil]
  clear h
  by_cases ho : op = 2
  · subst ho
    go_enter Tryz.func186, Tryz.ntmps186
    go_wp2_with fail
    refine (spec_l02True _).mono ?_
    rintro e w1 ⟨u, rfl, ho, hb⟩
    have HB := Lib.hid hb
    have O := Lib.hid ho
    clear ho hb
    go_wp2
    go_ret
    exact ⟨_, rfl, O.out, HB.out⟩
  · have HE : Hid (joinE op = [(1, 0)]) := Lib.hid (if_neg ho)
    have hq : (op == 2) = false := by simpa using ho
    clear ho
    go_enter Tryz.func186, Tryz.ntmps186
    go_wp2_with fail
    refine (spec_l02False _).mono ?_
    rintro e w1 ⟨u, rfl, ho, hb⟩
    have HB := Lib.hid hb
    have O := Lib.hid ho
    clear ho hb
    go_wp2
    go_ret
    exact ⟨_, rfl, by rw [HE.out]; exact O.out, HB.out⟩
theorem impl_joinAll_nil (op : Int) (v : Value) (w : World) (h : Sl2 cN w v []) :
    Calls Tryz.prog 182 #[.int .i64 op, v] w fun e w' => ∃ u, e = .returned u ∧ Ow cN 82 w.heap.size w' u (joinE op) ∧ Below w.heap.size w w' := by
  obtain ⟨A, c, rfl⟩ := h.opn
  simp only [List.length_nil]
  clear h
  by_cases ho : op = 2
  · subst ho
    go_enter Tryz.func182, Tryz.ntmps182
    go_wp2_with fail
    refine (impl_truth _).mono ?_
    rintro e w1 ⟨u, rfl, ho, hb⟩
    have HB := Lib.hid hb
    have O := Lib.hid ho
    clear ho hb
    go_wp2
    go_ret
    exact ⟨_, rfl, O.out, HB.out⟩
  · have HE : Hid (joinE op = [(1, 0)]) := Lib.hid (if_neg ho)
    have hq : (op == 2) = false := by simpa using ho
    clear ho
    go_enter Tryz.func182, Tryz.ntmps182
    go_wp2_with fail
    refine (impl_falsum _).mono ?_
    rintro e w1 ⟨u, rfl, ho, hb⟩
    have HB := Lib.hid hb
    have O := Lib.hid ho
    clear ho hb
    go_wp2
    go_ret
    exact ⟨_, rfl, by rw [HE.out]; exact O.out, HB.out⟩
/- Contract of the program's formula of a Trace. -/
/-- the part of a rank, and the parts of a Trace -/
def elL (b : Bool) (n : Nat) : List Nd := if b then rankL n else [(4, 0)] ++ rankL n ++ [(1, 0)]
def formL (b : Bool) (xs : List Int) : List (List Nd) := xs.map fun x => elL b x.toNat
theorem formL_succ (b : Bool) {xs : List Int} {j : Nat} (h : j < xs.length) : formL b (xs.take (j + 1)) = formL b (xs.take j) ++ [elL b xs[j].toNat] := by
  unfold formL
  rw [List.take_succ_eq_append_getElem h, List.map_append]
  rfl
theorem elL_length (b : Bool) {n : Nat} (h : n ≤ 60) : (elL b n).length ≤ 200 := by
  have := rankL_length n
  unfold elL
  split
  · omega
  · simp; omega
/-- the list of all joined, by the program's or the reference's way -/
def outL (b : Bool) (xs : List Int) : List Nd := if xs.length = 0 then joinE (if b then 3 else 2) else joinL (if b then 3 else 2) (formL b xs)
/- only with 46 -/
/-- the header slice with one header more: the step of both loops -/
theorem Ow2.push {B : Nat} {w : World} {v : Value} {xss : List (List Nd)} {A : Option Addr} {c : Nat} {xs : List Nd} {B2 : Nat}
    (h : Ow2 B w v xss) (hu : Ow cN 82 B2 w (.slice A xs.length c) xs) (hB : ∀ k, v.ownBlock = some k → k < B2) :
    ∃ hs : List Hd, Ow cH 26 B w v hs ∧ hs.length = xss.length ∧
      ∀ w' v', Ow cH 26 B w' v' (hs ++ [⟨A, xs.length, c⟩]) → (w.alloc (.cells #[.slice A xs.length c] 26)).grownBy w' v.ownBlock →
        (v'.ownBlock = v.ownBlock ∨ v'.ownBlock = some (w.alloc (.cells #[.slice A xs.length c] 26)).heap.size) → Ow2 B w' v' (xss ++ [xs]) := by
  have ha := h.below ((Below.refl _ _).alloc (Nat.le_refl _) (.cells #[.slice A xs.length c] 26))
  obtain ⟨hs, h1, h2, h3⟩ := h
  have hlt : ∀ k, (Value.slice A xs.length c).ownBlock = some k → B2 ≤ k ∧ k < w.heap.size := hu.block
  refine ⟨hs, h1, h2, fun w' v' ho hg hat => ?_⟩
  refine Ow2.snoc (hd := ⟨A, xs.length, c⟩) (w := w.alloc (.cells #[.slice A xs.length c] 26)) h2 (fun i a b => ⟨(h3 i a b).1.alloc _, ?_⟩) (hu.sl.alloc _) ?_ ho hg hat
  · rcases (h3 i a b).2 with h | ⟨h, k⟩
    · exact .inl h
    · exact .inr ⟨h, fun j hj => by have := k j hj; simp; omega⟩
  · show (Value.slice A xs.length c).ownBlock = none ∨ _
    cases hq : (Value.slice A xs.length c).ownBlock with
    | none => exact .inl rfl
    | some k =>
      have hk := hlt k hq
      refine .inr ⟨?_, fun j hj => ?_⟩
      · rw [show (Hd.val ⟨A, xs.length, c⟩).ownBlock = some k from hq]
        intro e
        have := hB k e.symm
        omega
      · have hj' : (Value.slice A xs.length c).ownBlock = some j := hj
        have := (hlt j hj').2
        simp; omega
/- Contract of the program's formula of a Trace. Written by gen03f.py. -/
theorem formL_flat_le (b : Bool) (xs : List Int) (h : ∀ x ∈ xs, 0 ≤ x ∧ x ≤ 60) : (formL b xs).flatten.length ≤ xs.length * 200 := by
  induction xs with
  | nil => simp [formL]
  | cons x t ih =>
    have h1 := h x List.mem_cons_self
    have h2 := ih (fun y hy => h y (List.mem_cons_of_mem _ hy))
    have h3 := elL_length b (n := x.toNat) (by omega)
    have e : formL b (x :: t) = elL b x.toNat :: formL b t := rfl
    rw [e, List.flatten_cons, List.length_append, List.length_cons]
    omega
theorem formL_length (b : Bool) (xs : List Int) : (formL b xs).length = xs.length := by simp [formL]
theorem impl_formula_true (v : Value) (xs : List Int) (w : World) (h : Sl cI w v xs) (hl : xs.length ≤ 61) (hm : ∀ x ∈ xs, 0 ≤ x ∧ x ≤ 60) :
    Calls Tryz.prog 104 #[.agg #[.bool true, v]] w fun e w' => ∃ u, e = .returned u ∧ Ow cN 82 w.heap.size w' u (outL true xs) ∧ Below w.heap.size w w' := by
  obtain ⟨A, c, rfl⟩ := h.opn
  have HB0 : Hid (Below w.heap.size w (w.alloc (.cells #[.bool true, .slice A xs.length c] 55))) := Lib.hid ((Below.refl _ _).alloc (Nat.le_refl _) _)
  have H1 := Lib.hid (h.alloc (.cells #[.bool true, .slice A xs.length c] 55))
  have K1 := Lib.hid (Blk.new w 55 #[.bool true, .slice A xs.length c])
  have HM := Lib.hid hm
  have H0 := Lib.hid h
  clear h hm
  go_enter Tryz.func104, Tryz.ntmps104
  go_wp2
  go_loopw [3, 9] (fun v i wr => ∃ k : Nat, k ≤ xs.length ∧ i = .int .i64 k ∧ Ow2 (w.heap.size + 1) wr v (formL true (xs.take k)) ∧ Sl cI wr (.slice A xs.length c) xs ∧ Blk wr w.heap.size 55 #[.bool true, .slice A xs.length c] ∧ Below w.heap.size w wr) (fun _ i _ => xs.length - (intOf i).toNat)
  case atStart => exact ⟨0, Nat.zero_le _, rfl, Ow2.nil _ _, H1.out, K1.out, HB0.out⟩
  case round =>
    obtain ⟨k, hk, rfl, ho, hs, hbk, hb⟩ := hrel
    have k1 := hbk.cell
    have k2 := hbk.lt
    have HO := Lib.hid ho; have HS := Lib.hid hs; have HK := Lib.hid hbk; have HW := Lib.hid hb
    clear ho hs hbk hb
    by_cases hlt : k < xs.length
    · obtain ⟨g, o, rfl, hgl, hc0⟩ := HS.out.atI hlt
      obtain ⟨m, hmm⟩ := Int.eq_ofNat_of_zero_le (HM.out _ (List.getElem_mem hlt)).1
      have hm60 : m ≤ 60 := by have := (HM.out _ (List.getElem_mem hlt)).2; omega
      have HF : Hid (formL true (xs.take (k + 1)) = formL true (xs.take k) ++ [elL true m]) := Lib.hid (by rw [formL_succ true hlt, hmm]; rfl)
      rw [hmm] at hc0
      clear hmm
      go_wp2_with fail
      refine (impl_rankFormula m _ (by omega)).mono ?_
      rintro e w2 ⟨u, rfl, ho, hb⟩
      have ho' : Ow cN 82 wr.heap.size w2 u (elL true m) := ho
      have hbt : Below wr.heap.size wr w2 := hb
      have X1 := Lib.hid (HO.out.below hbt)
      have X2 := Lib.hid (HS.out.below hbt)
      have X3 := Lib.hid (HK.out.below hbt k2)
      have X4 := Lib.hid (bthen HW.out hbt)
      have HU := Lib.hid ho'
      have hz := X4.out.size
      have hzz := hbt.size
      clear k1 hc0 ho' hbt
      obtain ⟨A2, c2, rfl⟩ := HU.out.opn
      obtain ⟨hs, g1, g2, g3⟩ := Ow2.push X1.out HU.out (by
        obtain ⟨hs, q1, _, _⟩ := HO.out
        exact fun k hk => (q1.block k hk).2)
      have hlen : hs.length ≤ 61 := by rw [g2, formL_length, List.length_take]; omega
      have G1 := Lib.hid g1; have G3 := Lib.hid g3
      clear g1 g3 g2
      have G2 := Lib.hid hlen; clear hlen
      go_wp2_with (at_builtin; refine stopHere ?_)
      refine goHere ?_
      refine ap_one (K := cH) _ ty_nodes rfl _ _ rfl (B := w.heap.size + 1) (xs := hs) rfl G1.out (⟨A2, (elL true m).length, c2⟩ : Hd) rfl rfl (by have := G2.out; omega) (by omega) ?_
      intro v1 w5 ho1 hg1 hb1 hat1
      have Y1 := Lib.hid (G3.out _ _ ho1 hg1 (hat1.imp id fun e => by rw [e]; simp))
      have Y4 := Lib.hid (X4.out.trans (hb1.mono (by omega)))
      have Y3 := Lib.hid ((X3.out.alloc (.cells #[.slice A2 (elL true m).length c2] 26)).grown hg1 (G1.out.apart (g := w.heap.size) (.inl (by omega))))
      have Y2 : Hid (Sl cI w5 (.slice (some ⟨g, o, none⟩) xs.length c) xs) := Lib.hid (H0.out.below Y4.out)
      clear ho1 hg1 hb1 hat1
      go_wp2
      go_roundw
      case rel => exact ⟨k + 1, by omega, by go_num, by rw [HF.out]; exact Y1.out, Y2.out, Y3.out, Y4.out⟩
      case measure => simp [intOf]; omega
    · obtain rfl : k = xs.length := by omega
      have hE : xs.take xs.length = xs := List.take_length
      rw [hE] at HO
      by_cases h0 : xs.length = 0
      · have HV : Hid (Sl2 cN wr u3 []) := Lib.hid (by have := HO.out.sl2; rwa [List.eq_nil_of_length_eq_zero h0] at this)
        have HR : Hid (outL true xs = joinE 3) := Lib.hid (by unfold outL; rw [if_pos h0]; rfl)
        clear h0
        go_wp2_with fail
        refine (impl_joinAll_nil 3 _ _ HV.out).mono ?_
        rintro e w2 ⟨u, rfl, ho, hb⟩
        have X4 := Lib.hid (bthen HW.out hb)
        have HU := Lib.hid ho
        have hz := HW.out.size
        clear ho hb
        go_wp2
        go_ret
        exact ⟨_, rfl, by rw [HR.out]; exact HU.out.mono hz, X4.out⟩
      · have HR : Hid (outL true xs = joinL 3 (formL true xs)) := Lib.hid (by unfold outL; rw [if_neg h0]; rfl)
        have HN : Hid (0 < (formL true xs).length) := Lib.hid (by show _ < _; rw [formL_length]; omega)
        have HL1 : Hid ((formL true xs).length ≤ 262144) := Lib.hid (by show _ ≤ _; rw [formL_length]; omega)
        have HL2 : Hid ((formL true xs).flatten.length ≤ 262144) := Lib.hid (by have := formL_flat_le true xs HM.out; show _ ≤ _; omega)
        clear h0
        go_wp2_with fail
        refine (impl_joinAll 3 _ _ _ HO.out.sl2 HN.out HL1.out HL2.out).mono ?_
        rintro e w2 ⟨u, rfl, ho, hb⟩
        have X4 := Lib.hid (bthen HW.out hb)
        have HU := Lib.hid ho
        have hz := HW.out.size
        clear ho hb
        go_wp2
        go_ret
        exact ⟨_, rfl, by rw [HR.out]; exact HU.out.mono hz, X4.out⟩
theorem impl_formula_false (v : Value) (xs : List Int) (w : World) (h : Sl cI w v xs) (hl : xs.length ≤ 61) (hm : ∀ x ∈ xs, 0 ≤ x ∧ x ≤ 60) :
    Calls Tryz.prog 104 #[.agg #[.bool false, v]] w fun e w' => ∃ u, e = .returned u ∧ Ow cN 82 w.heap.size w' u (outL false xs) ∧ Below w.heap.size w w' := by
  obtain ⟨A, c, rfl⟩ := h.opn
  have HB0 : Hid (Below w.heap.size w (w.alloc (.cells #[.bool false, .slice A xs.length c] 55))) := Lib.hid ((Below.refl _ _).alloc (Nat.le_refl _) _)
  have H1 := Lib.hid (h.alloc (.cells #[.bool false, .slice A xs.length c] 55))
  have K1 := Lib.hid (Blk.new w 55 #[.bool false, .slice A xs.length c])
  have HM := Lib.hid hm
  have H0 := Lib.hid h
  clear h hm
  go_enter Tryz.func104, Tryz.ntmps104
  go_wp2
  go_loopw [3, 9] (fun v i wr => ∃ k : Nat, k ≤ xs.length ∧ i = .int .i64 k ∧ Ow2 (w.heap.size + 1) wr v (formL false (xs.take k)) ∧ Sl cI wr (.slice A xs.length c) xs ∧ Blk wr w.heap.size 55 #[.bool false, .slice A xs.length c] ∧ Below w.heap.size w wr) (fun _ i _ => xs.length - (intOf i).toNat)
  case atStart => exact ⟨0, Nat.zero_le _, rfl, Ow2.nil _ _, H1.out, K1.out, HB0.out⟩
  case round =>
    obtain ⟨k, hk, rfl, ho, hs, hbk, hb⟩ := hrel
    have k1 := hbk.cell
    have k2 := hbk.lt
    have HO := Lib.hid ho; have HS := Lib.hid hs; have HK := Lib.hid hbk; have HW := Lib.hid hb
    clear ho hs hbk hb
    by_cases hlt : k < xs.length
    · obtain ⟨g, o, rfl, hgl, hc0⟩ := HS.out.atI hlt
      obtain ⟨m, hmm⟩ := Int.eq_ofNat_of_zero_le (HM.out _ (List.getElem_mem hlt)).1
      have hm60 : m ≤ 60 := by have := (HM.out _ (List.getElem_mem hlt)).2; omega
      have HF : Hid (formL false (xs.take (k + 1)) = formL false (xs.take k) ++ [elL false m]) := Lib.hid (by rw [formL_succ false hlt, hmm]; rfl)
      rw [hmm] at hc0
      clear hmm
      go_wp2_with fail
      refine (impl_rankFormula m _ (by omega)).mono ?_
      rintro e w2 ⟨u, rfl, ho, hb⟩
      have HB1 := Lib.hid hb
      have HO1 := Lib.hid ho
      have hz1 := hb.size
      clear ho hb
      go_wp2_with fail
      refine (impl_negation _ _ _ HO1.out.sl (by have := rankL_length m; omega)).mono ?_
      rintro e w3 ⟨u3, rfl, ho, hb⟩
      have ho' : Ow cN 82 wr.heap.size w3 u3 (elL false m) := ho.mono hz1
      have hbt : Below wr.heap.size wr w3 := bthen HB1.out hb
      have X1 := Lib.hid (HO.out.below hbt)
      have X2 := Lib.hid (HS.out.below hbt)
      have X3 := Lib.hid (HK.out.below hbt k2)
      have X4 := Lib.hid (bthen HW.out hbt)
      have HU := Lib.hid ho'
      have hz := X4.out.size
      have hzz := hbt.size
      clear k1 hc0 ho' hbt
      obtain ⟨A2, c2, rfl⟩ := HU.out.opn
      obtain ⟨hs, g1, g2, g3⟩ := Ow2.push X1.out HU.out (by
        obtain ⟨hs, q1, _, _⟩ := HO.out
        exact fun k hk => (q1.block k hk).2)
      have hlen : hs.length ≤ 61 := by rw [g2, formL_length, List.length_take]; omega
      have G1 := Lib.hid g1; have G3 := Lib.hid g3
      clear g1 g3 g2
      have G2 := Lib.hid hlen; clear hlen
      go_wp2_with (at_builtin; refine stopHere ?_)
      refine goHere ?_
      refine ap_one (K := cH) _ ty_nodes rfl _ _ rfl (B := w.heap.size + 1) (xs := hs) rfl G1.out (⟨A2, (elL false m).length, c2⟩ : Hd) rfl rfl (by have := G2.out; omega) (by omega) ?_
      intro v1 w5 ho1 hg1 hb1 hat1
      have Y1 := Lib.hid (G3.out _ _ ho1 hg1 (hat1.imp id fun e => by rw [e]; simp))
      have Y4 := Lib.hid (X4.out.trans (hb1.mono (by omega)))
      have Y3 := Lib.hid ((X3.out.alloc (.cells #[.slice A2 (elL false m).length c2] 26)).grown hg1 (G1.out.apart (g := w.heap.size) (.inl (by omega))))
      have Y2 : Hid (Sl cI w5 (.slice (some ⟨g, o, none⟩) xs.length c) xs) := Lib.hid (H0.out.below Y4.out)
      clear ho1 hg1 hb1 hat1
      go_wp2
      go_roundw
      case rel => exact ⟨k + 1, by omega, by go_num, by rw [HF.out]; exact Y1.out, Y2.out, Y3.out, Y4.out⟩
      case measure => simp [intOf]; omega
    · obtain rfl : k = xs.length := by omega
      have hE : xs.take xs.length = xs := List.take_length
      rw [hE] at HO
      by_cases h0 : xs.length = 0
      · have HV : Hid (Sl2 cN wr u3 []) := Lib.hid (by have := HO.out.sl2; rwa [List.eq_nil_of_length_eq_zero h0] at this)
        have HR : Hid (outL false xs = joinE 2) := Lib.hid (by unfold outL; rw [if_pos h0]; rfl)
        clear h0
        go_wp2_with fail
        refine (impl_joinAll_nil 2 _ _ HV.out).mono ?_
        rintro e w2 ⟨u, rfl, ho, hb⟩
        have X4 := Lib.hid (bthen HW.out hb)
        have HU := Lib.hid ho
        have hz := HW.out.size
        clear ho hb
        go_wp2
        go_ret
        exact ⟨_, rfl, by rw [HR.out]; exact HU.out.mono hz, X4.out⟩
      · have HR : Hid (outL false xs = joinL 2 (formL false xs)) := Lib.hid (by unfold outL; rw [if_neg h0]; rfl)
        have HN : Hid (0 < (formL false xs).length) := Lib.hid (by show _ < _; rw [formL_length]; omega)
        have HL1 : Hid ((formL false xs).length ≤ 262144) := Lib.hid (by show _ ≤ _; rw [formL_length]; omega)
        have HL2 : Hid ((formL false xs).flatten.length ≤ 262144) := Lib.hid (by have := formL_flat_le false xs HM.out; show _ ≤ _; omega)
        clear h0
        go_wp2_with fail
        refine (impl_joinAll 2 _ _ _ HO.out.sl2 HN.out HL1.out HL2.out).mono ?_
        rintro e w2 ⟨u, rfl, ho, hb⟩
        have X4 := Lib.hid (bthen HW.out hb)
        have HU := Lib.hid ho
        have hz := HW.out.size
        clear ho hb
        go_wp2
        go_ret
        exact ⟨_, rfl, by rw [HR.out]; exact HU.out.mono hz, X4.out⟩
/- Contract of the reference's formula of a Trace. Written by gen03h.py. -/ /- only with 46 -/
theorem Ow2.lit (B g : Nat) (w : World) (hg : g = w.heap.size) (hB : B ≤ g) : Ow2 B (w.alloc (.cells #[] 26)) (.slice (some ⟨g, 0, none⟩) 0 0) [] :=
  ⟨[], Ow.lit' [] hg rfl rfl hB, rfl, fun i a => by simp at a⟩
theorem spec_l32Formula_true (v : Value) (xs : List Int) (w : World) (h : Sl cI w v xs) (hl : xs.length ≤ 61) (hm : ∀ x ∈ xs, 0 ≤ x ∧ x ≤ 60) :
    Calls Tryz.prog 106 #[.agg #[.bool true, v]] w fun e w' => ∃ u, e = .returned (.tuple #[u, .int .i64 (madeC (outL true xs))]) ∧ Ow cN 82 w.heap.size w' u (madeL (outL true xs)) ∧ Below w.heap.size w w' := by
  obtain ⟨A, c, rfl⟩ := h.opn
  have HB0 : Hid (Below w.heap.size w ((w.alloc (.cells #[.bool true, .slice A xs.length c] 55)).alloc (.cells #[] 26))) := Lib.hid (((Below.refl _ _).alloc (Nat.le_refl _) _).alloc (by simp) _)
  have H1 := Lib.hid ((h.alloc (.cells #[.bool true, .slice A xs.length c] 55)).alloc (.cells #[] 26))
  have K1 := Lib.hid ((Blk.new w 55 #[.bool true, .slice A xs.length c]).alloc (.cells #[] 26))
  have HM := Lib.hid hm
  have H0 := Lib.hid h
  clear h hm
  go_enter Tryz.func106, Tryz.ntmps106
  go_wp2
  go_loopw [4, 6] (fun v i wr => ∃ k : Nat, k ≤ xs.length ∧ i = .int .i64 k ∧ Ow2 (w.heap.size + 1) wr v (formL true (xs.take k)) ∧ Sl cI wr (.slice A xs.length c) xs ∧ Blk wr w.heap.size 55 #[.bool true, .slice A xs.length c] ∧ Below w.heap.size w wr) (fun _ i _ => xs.length - (intOf i).toNat)
  case atStart => exact ⟨0, Nat.zero_le _, rfl, Ow2.lit (w.heap.size + 1) (w.heap.size + 1) _ (by simp) (Nat.le_refl _), H1.out, K1.out, HB0.out⟩
  case round =>
    obtain ⟨k, hk, rfl, ho, hs, hbk, hb⟩ := hrel
    have k1 := hbk.cell
    have k2 := hbk.lt
    have HO := Lib.hid ho; have HS := Lib.hid hs; have HK := Lib.hid hbk; have HW := Lib.hid hb
    clear ho hs hbk hb
    by_cases hlt : k < xs.length
    · obtain ⟨g, o, rfl, hgl, hc0⟩ := HS.out.atI hlt
      obtain ⟨m, hmm⟩ := Int.eq_ofNat_of_zero_le (HM.out _ (List.getElem_mem hlt)).1
      have hm60 : m ≤ 60 := by have := (HM.out _ (List.getElem_mem hlt)).2; omega
      have HF : Hid (formL true (xs.take (k + 1)) = formL true (xs.take k) ++ [elL true m]) := Lib.hid (by rw [formL_succ true hlt, hmm]; rfl)
      rw [hmm] at hc0
      clear hmm
      go_wp2_with fail
      refine (spec_l32Rank m _ (by omega)).mono ?_
      rintro e w2 ⟨u, rfl, ho, hb⟩
      have k5 := (HK.out.below hb k2).cell
      have ho' : Ow cN 82 wr.heap.size w2 u (elL true m) := ho
      have hbt : Below wr.heap.size wr w2 := hb
      have X1 := Lib.hid (HO.out.below hbt)
      have X2 := Lib.hid (HS.out.below hbt)
      have X3 := Lib.hid (HK.out.below hbt k2)
      have X4 := Lib.hid (bthen HW.out hbt)
      have HU := Lib.hid ho'
      have hz := X4.out.size
      have hzz := hbt.size
      clear k1 hc0 ho' hbt
      obtain ⟨A2, c2, rfl⟩ := HU.out.opn
      obtain ⟨hs, g1, g2, g3⟩ := Ow2.push X1.out HU.out (by
        obtain ⟨hs, q1, _, _⟩ := HO.out
        exact fun k hk => (q1.block k hk).2)
      have hlen : hs.length ≤ 61 := by rw [g2, formL_length, List.length_take]; omega
      have G1 := Lib.hid g1; have G3 := Lib.hid g3
      clear g1 g3 g2
      have G2 := Lib.hid hlen; clear hlen
      go_wp2_with (at_builtin; refine stopHere ?_)
      refine goHere ?_
      refine ap_one (K := cH) _ ty_nodes rfl _ _ rfl (B := w.heap.size + 1) (xs := hs) rfl G1.out (⟨A2, (elL true m).length, c2⟩ : Hd) rfl rfl (by have := G2.out; omega) ?_ ?_
      · omega
      intro v1 w5 ho1 hg1 hb1 hat1
      have Y1 := Lib.hid (G3.out _ _ ho1 hg1 (hat1.imp id fun e => by rw [e]; simp))
      have Y4 := Lib.hid (X4.out.trans (hb1.mono (by omega)))
      have Y3 := Lib.hid ((X3.out.alloc (.cells #[.slice A2 (elL true m).length c2] 26)).grown hg1 (G1.out.apart (g := w.heap.size) (.inl (by omega))))
      have Y2 : Hid (Sl cI w5 (.slice (some ⟨g, o, none⟩) xs.length c) xs) := Lib.hid (H0.out.below Y4.out)
      clear ho1 hg1 hb1 hat1
      go_wp2
      go_roundw
      case rel => exact ⟨k + 1, by omega, by go_num, by rw [HF.out]; exact Y1.out, Y2.out, Y3.out, Y4.out⟩
      case measure => simp [intOf]; omega
    · obtain rfl : k = xs.length := by omega
      have hE : xs.take xs.length = xs := List.take_length
      rw [hE] at HO
      by_cases h0 : xs.length = 0
      · have HV : Hid (Sl2 cN wr u4 []) := Lib.hid (by have := HO.out.sl2; rwa [List.eq_nil_of_length_eq_zero h0] at this)
        have HR : Hid (outL true xs = joinE 3) := Lib.hid (by unfold outL; rw [if_pos h0]; rfl)
        clear h0
        go_wp2_with fail
        refine (spec_l02All_nil 3 _ _ HV.out).mono ?_
        rintro e w2 ⟨u, rfl, ho, hb⟩
        have X4 := Lib.hid (bthen HW.out hb)
        have HU := Lib.hid ho
        have hz := HW.out.size
        clear ho hb
        go_wp2_with fail
        refine (spec_l02Made _ _ _ _ HU.out).mono ?_
        rintro e w3 ⟨r, rfl, ho, rfl⟩
        have HV2 := Lib.hid (ho.mono hz)
        clear ho
        go_wp2
        go_ret2
        exact ⟨_, by rw [HR.out]; rfl, by rw [HR.out]; exact HV2.out, X4.out⟩
      · have HR : Hid (outL true xs = joinL 3 (formL true xs)) := Lib.hid (by unfold outL; rw [if_neg h0]; rfl)
        have HN : Hid (0 < (formL true xs).length) := Lib.hid (by show _ < _; rw [formL_length]; omega)
        have HL1 : Hid ((formL true xs).length ≤ 262144) := Lib.hid (by show _ ≤ _; rw [formL_length]; omega)
        have HL2 : Hid ((formL true xs).flatten.length ≤ 262144) := Lib.hid (by have := formL_flat_le true xs HM.out; show _ ≤ _; omega)
        clear h0
        go_wp2_with fail
        refine (spec_l02All 3 _ _ _ HO.out.sl2 HN.out HL1.out HL2.out).mono ?_
        rintro e w2 ⟨u, rfl, ho, hb⟩
        have X4 := Lib.hid (bthen HW.out hb)
        have HU := Lib.hid ho
        have hz := HW.out.size
        clear ho hb
        go_wp2_with fail
        refine (spec_l02Made _ _ _ _ HU.out).mono ?_
        rintro e w3 ⟨r, rfl, ho, rfl⟩
        have HV2 := Lib.hid (ho.mono hz)
        clear ho
        go_wp2
        go_ret2
        exact ⟨_, by rw [HR.out]; rfl, by rw [HR.out]; exact HV2.out, X4.out⟩
theorem spec_l32Formula_false (v : Value) (xs : List Int) (w : World) (h : Sl cI w v xs) (hl : xs.length ≤ 61) (hm : ∀ x ∈ xs, 0 ≤ x ∧ x ≤ 60) :
    Calls Tryz.prog 106 #[.agg #[.bool false, v]] w fun e w' => ∃ u, e = .returned (.tuple #[u, .int .i64 (madeC (outL false xs))]) ∧ Ow cN 82 w.heap.size w' u (madeL (outL false xs)) ∧ Below w.heap.size w w' := by
  obtain ⟨A, c, rfl⟩ := h.opn
  have HB0 : Hid (Below w.heap.size w ((w.alloc (.cells #[.bool false, .slice A xs.length c] 55)).alloc (.cells #[] 26))) := Lib.hid (((Below.refl _ _).alloc (Nat.le_refl _) _).alloc (by simp) _)
  have H1 := Lib.hid ((h.alloc (.cells #[.bool false, .slice A xs.length c] 55)).alloc (.cells #[] 26))
  have K1 := Lib.hid ((Blk.new w 55 #[.bool false, .slice A xs.length c]).alloc (.cells #[] 26))
  have HM := Lib.hid hm
  have H0 := Lib.hid h
  clear h hm
  go_enter Tryz.func106, Tryz.ntmps106
  go_wp2
  go_loopw [4, 6] (fun v i wr => ∃ k : Nat, k ≤ xs.length ∧ i = .int .i64 k ∧ Ow2 (w.heap.size + 1) wr v (formL false (xs.take k)) ∧ Sl cI wr (.slice A xs.length c) xs ∧ Blk wr w.heap.size 55 #[.bool false, .slice A xs.length c] ∧ Below w.heap.size w wr) (fun _ i _ => xs.length - (intOf i).toNat)
  case atStart => exact ⟨0, Nat.zero_le _, rfl, Ow2.lit (w.heap.size + 1) (w.heap.size + 1) _ (by simp) (Nat.le_refl _), H1.out, K1.out, HB0.out⟩
  case round =>
    obtain ⟨k, hk, rfl, ho, hs, hbk, hb⟩ := hrel
    have k1 := hbk.cell
    have k2 := hbk.lt
    have HO := Lib.hid ho; have HS := Lib.hid hs; have HK := Lib.hid hbk; have HW := Lib.hid hb
    clear ho hs hbk hb
    by_cases hlt : k < xs.length
    · obtain ⟨g, o, rfl, hgl, hc0⟩ := HS.out.atI hlt
      obtain ⟨m, hmm⟩ := Int.eq_ofNat_of_zero_le (HM.out _ (List.getElem_mem hlt)).1
      have hm60 : m ≤ 60 := by have := (HM.out _ (List.getElem_mem hlt)).2; omega
      have HF : Hid (formL false (xs.take (k + 1)) = formL false (xs.take k) ++ [elL false m]) := Lib.hid (by rw [formL_succ false hlt, hmm]; rfl)
      rw [hmm] at hc0
      clear hmm
      go_wp2_with fail
      refine (spec_l32Rank m _ (by omega)).mono ?_
      rintro e w2 ⟨u, rfl, ho, hb⟩
      have HB1 := Lib.hid hb
      have HO1 := Lib.hid ho
      have hz1 := hb.size
      have k5 := (HK.out.below hb k2).cell
      clear ho hb
      go_wp2_with fail
      refine (spec_l02Not _ _ _ HO1.out.sl (by have := rankL_length m; omega)).mono ?_
      rintro e w3 ⟨u3, rfl, ho, hb⟩
      clear k5
      have ho' : Ow cN 82 wr.heap.size w3 u3 (elL false m) := ho.mono hz1
      have hbt : Below wr.heap.size wr w3 := bthen HB1.out hb
      have X1 := Lib.hid (HO.out.below hbt)
      have X2 := Lib.hid (HS.out.below hbt)
      have X3 := Lib.hid (HK.out.below hbt k2)
      have X4 := Lib.hid (bthen HW.out hbt)
      have HU := Lib.hid ho'
      have hz := X4.out.size
      have hzz := hbt.size
      clear k1 hc0 ho' hbt
      obtain ⟨A2, c2, rfl⟩ := HU.out.opn
      obtain ⟨hs, g1, g2, g3⟩ := Ow2.push X1.out HU.out (by
        obtain ⟨hs, q1, _, _⟩ := HO.out
        exact fun k hk => (q1.block k hk).2)
      have hlen : hs.length ≤ 61 := by rw [g2, formL_length, List.length_take]; omega
      have G1 := Lib.hid g1; have G3 := Lib.hid g3
      clear g1 g3 g2
      have G2 := Lib.hid hlen; clear hlen
      go_wp2_with (at_builtin; refine stopHere ?_)
      refine goHere ?_
      refine ap_one (K := cH) _ ty_nodes rfl _ _ rfl (B := w.heap.size + 1) (xs := hs) rfl G1.out (⟨A2, (elL false m).length, c2⟩ : Hd) rfl rfl (by have := G2.out; omega) ?_ ?_
      · omega
      intro v1 w5 ho1 hg1 hb1 hat1
      have Y1 := Lib.hid (G3.out _ _ ho1 hg1 (hat1.imp id fun e => by rw [e]; simp))
      have Y4 := Lib.hid (X4.out.trans (hb1.mono (by omega)))
      have Y3 := Lib.hid ((X3.out.alloc (.cells #[.slice A2 (elL false m).length c2] 26)).grown hg1 (G1.out.apart (g := w.heap.size) (.inl (by omega))))
      have Y2 : Hid (Sl cI w5 (.slice (some ⟨g, o, none⟩) xs.length c) xs) := Lib.hid (H0.out.below Y4.out)
      clear ho1 hg1 hb1 hat1
      go_wp2
      go_roundw
      case rel => exact ⟨k + 1, by omega, by go_num, by rw [HF.out]; exact Y1.out, Y2.out, Y3.out, Y4.out⟩
      case measure => simp [intOf]; omega
    · obtain rfl : k = xs.length := by omega
      have hE : xs.take xs.length = xs := List.take_length
      rw [hE] at HO
      by_cases h0 : xs.length = 0
      · have HV : Hid (Sl2 cN wr u4 []) := Lib.hid (by have := HO.out.sl2; rwa [List.eq_nil_of_length_eq_zero h0] at this)
        have HR : Hid (outL false xs = joinE 2) := Lib.hid (by unfold outL; rw [if_pos h0]; rfl)
        clear h0
        go_wp2_with fail
        refine (spec_l02All_nil 2 _ _ HV.out).mono ?_
        rintro e w2 ⟨u, rfl, ho, hb⟩
        have X4 := Lib.hid (bthen HW.out hb)
        have HU := Lib.hid ho
        have hz := HW.out.size
        clear ho hb
        go_wp2_with fail
        refine (spec_l02Made _ _ _ _ HU.out).mono ?_
        rintro e w3 ⟨r, rfl, ho, rfl⟩
        have HV2 := Lib.hid (ho.mono hz)
        clear ho
        go_wp2
        go_ret2
        exact ⟨_, by rw [HR.out]; rfl, by rw [HR.out]; exact HV2.out, X4.out⟩
      · have HR : Hid (outL false xs = joinL 2 (formL false xs)) := Lib.hid (by unfold outL; rw [if_neg h0]; rfl)
        have HN : Hid (0 < (formL false xs).length) := Lib.hid (by show _ < _; rw [formL_length]; omega)
        have HL1 : Hid ((formL false xs).length ≤ 262144) := Lib.hid (by show _ ≤ _; rw [formL_length]; omega)
        have HL2 : Hid ((formL false xs).flatten.length ≤ 262144) := Lib.hid (by have := formL_flat_le false xs HM.out; show _ ≤ _; omega)
        clear h0
        go_wp2_with fail
        refine (spec_l02All 2 _ _ _ HO.out.sl2 HN.out HL1.out HL2.out).mono ?_
        rintro e w2 ⟨u, rfl, ho, hb⟩
        have X4 := Lib.hid (bthen HW.out hb)
        have HU := Lib.hid ho
        have hz := HW.out.size
        clear ho hb
        go_wp2_with fail
        refine (spec_l02Made _ _ _ _ HU.out).mono ?_
        rintro e w3 ⟨r, rfl, ho, rfl⟩
        have HV2 := Lib.hid (ho.mono hz)
        clear ho
        go_wp2
        go_ret2
        exact ⟨_, by rw [HR.out]; rfl, by rw [HR.out]; exact HV2.out, X4.out⟩
/- Contracts of FormulaOfTrace, of the program and of the reference. -/
theorem okT_short' {xs : List Int} (h : okT xs = true) : xs.length ≤ 61 := by
  have key : ∀ i : Nat, i < xs.length → (i : Int) ≤ xs.getD i 0 ∧ xs.getD i 0 ≤ 60 := by
    intro i
    induction i with
    | zero => intro hi; have := okT_at h hi; simp only [goodT, inR, Bool.and_eq_true, decide_eq_true_eq] at this; omega
    | succ k ih =>
      intro hi
      have h1 := ih (by omega)
      have := okT_at h hi
      simp only [goodT, inR, Bool.and_eq_true, Bool.or_eq_true, decide_eq_true_eq, Nat.add_sub_cancel] at this
      omega
  rcases Nat.lt_or_ge 61 xs.length with hq | hq
  · have := key 61 hq; omega
  · exact hq
theorem impl_formula (b : Bool) (v : Value) (xs : List Int) (w : World) (h : Sl cI w v xs) (hc : okT xs = true) :
    Calls Tryz.prog 104 #[.agg #[.bool b, v]] w fun e w' => ∃ u, e = .returned u ∧ Ow cN 82 w.heap.size w' u (outL b xs) ∧ Below w.heap.size w w' := by
  cases b
  · exact impl_formula_false v xs w h (okT_short' hc) (fun x hx => okT_mem hc hx)
  · exact impl_formula_true v xs w h (okT_short' hc) (fun x hx => okT_mem hc hx)
theorem spec_formula (b : Bool) (v : Value) (xs : List Int) (w : World) (h : Sl cI w v xs) (hc : okT xs = true) :
    Calls Tryz.prog 106 #[.agg #[.bool b, v]] w fun e w' => ∃ u, e = .returned (.tuple #[u, .int .i64 (madeC (outL b xs))]) ∧ Ow cN 82 w.heap.size w' u (madeL (outL b xs)) ∧ Below w.heap.size w w' := by
  cases b
  · exact spec_l32Formula_false v xs w h (okT_short' hc) (fun x hx => okT_mem hc hx)
  · exact spec_l32Formula_true v xs w h (okT_short' hc) (fun x hx => okT_mem hc hx)
/- Contracts of LetterlessNormal, of the program and of the reference. -/
theorem trOf_length (p : Nat → Bool) : (trOf p).length ≤ 61 := trTo_length p 61
theorem trOf_mem (p : Nat → Bool) : ∀ x ∈ trOf p, 0 ≤ x ∧ x ≤ 60 := by
  intro x hx
  simp only [trOf, trTo, List.mem_map, List.mem_filter, List.mem_range] at hx
  obtain ⟨n, ⟨hn, _⟩, rfl⟩ := hx
  omega
theorem impl_formula' (b : Bool) (v : Value) (xs : List Int) (w : World) (h : Sl cI w v xs) (hl : xs.length ≤ 61) (hm : ∀ x ∈ xs, 0 ≤ x ∧ x ≤ 60) :
    Calls Tryz.prog 104 #[.agg #[.bool b, v]] w fun e w' => ∃ u, e = .returned u ∧ Ow cN 82 w.heap.size w' u (outL b xs) ∧ Below w.heap.size w w' := by
  cases b
  · exact impl_formula_false v xs w h hl hm
  · exact impl_formula_true v xs w h hl hm
theorem spec_formula' (b : Bool) (v : Value) (xs : List Int) (w : World) (h : Sl cI w v xs) (hl : xs.length ≤ 61) (hm : ∀ x ∈ xs, 0 ≤ x ∧ x ≤ 60) :
    Calls Tryz.prog 106 #[.agg #[.bool b, v]] w fun e w' => ∃ u, e = .returned (.tuple #[u, .int .i64 (madeC (outL b xs))]) ∧ Ow cN 82 w.heap.size w' u (madeL (outL b xs)) ∧ Below w.heap.size w w' := by
  cases b
  · exact spec_l32Formula_false v xs w h hl hm
  · exact spec_l32Formula_true v xs w h hl hm
theorem impl_LetterlessNormal_bad (v : Value) (xs : List Nd) (w : World) (h : Sl cN w v xs) (hl : xs.length ≤ 1048576) (hc : lcode [xs] ≠ 0) :
    Calls Tryz.prog 51 #[v] w fun e w' => e = .returned (.tuple #[.slice none 0 0, .int .i64 (lcode [xs])]) ∧ Below w.heap.size w w' := by
  have H1 := Lib.hid (impl_TraceOf_bad v xs w h hl hc)
  have hc' : (lcode [xs] != 0) = true := by simpa using hc
  generalize lcode [xs] = k at *
  clear h hc
  go_enter Tryz.func51, Tryz.ntmps51
  go_wp2_with fail
  refine H1.out.mono ?_
  rintro e w1 ⟨rfl, hb⟩
  have HB := Lib.hid (hb.alloc hb.size (.cells #[.bool false, .slice none 0 0] 55)); clear hb
  go_wp2
  go_ret2
  exact ⟨rfl, HB.out⟩
theorem impl_LetterlessNormal_ok (v : Value) (f : Fm) (w : World) (h : Sl cN w v (enc f)) (hl : (enc f).length ≤ 40) (hc : lcode [enc f] = 0) :
    Calls Tryz.prog 51 #[v] w fun e w' => ∃ u, e = .returned (.tuple #[u, .int .i64 (madeC (outL (!rk f 0 60) (trOf (rk f 0))))]) ∧ Ow cN 82 w.heap.size w' u (madeL (outL (!rk f 0 60) (trOf (rk f 0)))) ∧ Below w.heap.size w w' := by
  have H1 := Lib.hid (impl_TraceOf_ok v f w h hl hc)
  have HL := Lib.hid (trOf_length (rk f 0))
  have HM := Lib.hid (trOf_mem (rk f 0))
  clear h hc
  go_enter Tryz.func51, Tryz.ntmps51
  go_wp2_with fail
  refine H1.out.mono ?_
  rintro e w1 ⟨u, rfl, ho, hb⟩
  obtain ⟨A3, c3, rfl⟩ := ho.opn
  have hb1 := hb.alloc hb.size (.cells #[.bool (!rk f 0 60), .slice A3 (trOf (rk f 0)).length c3] 55)
  have hs := ho.sl.alloc (.cells #[.bool (!rk f 0 60), .slice A3 (trOf (rk f 0)).length c3] 55)
  go_wp2_with fail
  refine (impl_formula' _ _ _ _ hs HL.out HM.out).mono ?_
  rintro e w2 ⟨u, rfl, ho2, hb2⟩
  have HB := Lib.hid (bthen hb1 hb2)
  have hz := hb1.size
  have O := Lib.hid (ho2.mono hz)
  clear hb hb1 hb2 ho ho2 hs
  go_wp2_with fail
  refine (impl_limited _ _ _ _ O.out).mono ?_
  rintro e w3 ⟨r, rfl, ho, rfl⟩
  have O2 := Lib.hid ho
  clear ho
  go_wp2
  go_ret2
  exact ⟨_, rfl, O2.out, HB.out⟩
theorem spec_LetterlessNormal_bad (v : Value) (xs : List Nd) (w : World) (h : Sl cN w v xs) (hl : xs.length ≤ 1048576) (hc : lcode [xs] ≠ 0) :
    Calls Tryz.prog 52 #[v] w fun e w' => e = .returned (.tuple #[.slice none 0 0, .int .i64 (lcode [xs])]) ∧ Below w.heap.size w w' := by
  obtain ⟨A, c, rfl⟩ := h.opn
  have H1 := Lib.hid (spec_lcode1 xs w h hl _ rfl)
  have hc' : (lcode [xs] != 0) = true := by simpa using hc
  generalize lcode [xs] = k at *
  clear h hc
  go_enter Tryz.func52, Tryz.ntmps52
  go_wp2_with fail
  refine H1.out.mono ?_
  rintro e w1 ⟨rfl, hb⟩
  have HB := Lib.hid hb; clear hb
  go_wp2
  go_ret2
  exact ⟨rfl, HB.out⟩
theorem spec_LetterlessNormal_ok (v : Value) (f : Fm) (w : World) (h : Sl cN w v (enc f)) (hl : (enc f).length ≤ 40) (hc : lcode [enc f] = 0) (hv : f.novar = true) :
    Calls Tryz.prog 52 #[v] w fun e w' => ∃ u, e = .returned (.tuple #[u, .int .i64 (madeC (outL (!rk f 0 60) (trOf (rk f 0))))]) ∧ Ow cN 82 w.heap.size w' u (madeL (outL (!rk f 0 60) (trOf (rk f 0)))) ∧ Below w.heap.size w w' := by
  have HR := Lib.hid (fun W (hW : Sl cN W v (enc f)) => spec_l32Row f hv (by omega) v W hW)
  have HL := Lib.hid (trOf_length (rk f 0))
  have HM := Lib.hid (trOf_mem (rk f 0))
  obtain ⟨A, c, rfl⟩ := h.opn
  have H1 := spec_lcode1 (enc f) w h (by omega) _ rfl
  rw [hc] at H1
  have H1 := Lib.hid H1
  have Hh := Lib.hid h
  clear h hc
  generalize (enc f).length = L at *
  go_enter Tryz.func52, Tryz.ntmps52
  go_wp2_with fail
  refine H1.out.mono ?_
  rintro e w1 ⟨rfl, hb⟩
  go_wp2_with fail
  refine (HR.out _ (Hh.out.below hb)).mono ?_
  rintro e w2 ⟨r, rfl, hr, hb2⟩
  go_wp2_with fail
  refine (spec_l32Trace r (rk f 0) _ hr.sl).mono ?_
  rintro e w3 ⟨u, rfl, ho, hb3⟩
  go_wp2_with fail
  refine (spec_formula' _ u (trOf (rk f 0)) _ ho.sl HL.out HM.out).mono ?_
  rintro e w4 ⟨u4, rfl, ho4, hb4⟩
  have hz := (bthen (bthen hb hb2) hb3).size
  have O := Lib.hid (ho4.mono hz)
  have HB := Lib.hid (bthen (bthen (bthen hb hb2) hb3) hb4)
  clear hb hb2 hb3 hb4 hr ho ho4
  go_wp2
  go_ret2
  exact ⟨_, rfl, O.out, HB.out⟩
end Go.Proofs.YtgcoohlakcncbaaGreat
