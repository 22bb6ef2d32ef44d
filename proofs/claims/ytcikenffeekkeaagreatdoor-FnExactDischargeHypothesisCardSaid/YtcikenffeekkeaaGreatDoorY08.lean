/- Joined of several texts: 03m, 03s, 03t, 03g, 03c, 03r, 03u. -/
import Derived.Test.YtcikenffeekkeaaGreatDoorY07
import Derived.Test.YtcikenffeekkeaaGreatDoorY02
import Derived.Test.YtcikenffeekkeaaGreatDoorY03
import Derived.Test.YtcikenffeekkeaaGreatDoorY05
import Derived.Lib.AppendZeros
import Derived.Laws.CopyOwn
import Derived.Deep.RegionLaw
namespace Go.Proofs.YtcikenffeekkeaaGreatDoor
open Go.RowKit
set_option linter.unusedVariables false
set_option linter.unusedSimpArgs false
/- Contracts of math/bits.Mul at small numbers, and of slices.Repeat at one node. -/
theorem u64_and_nat (a b : Nat) (ha : a < 9223372036854775808) (hb : b < 9223372036854775808) : bits .and .u64 (a : Int) (b : Int) = ((a &&& b : Nat) : Int) := by
  have hx : a &&& b < 2 ^ 63 := Nat.and_lt_two_pow _ (by omega)
  show IntKind.u64.wrap ((BitVec.ofInt 64 (a : Int) &&& BitVec.ofInt 64 (b : Int)).toNat : Int) = _
  rw [BitVec.toNat_and, ofInt_i64 a ha, ofInt_i64 b hb]
  exact IntWalk.u64_in _ ⟨by omega, by omega⟩
theorem u64_low (n : Nat) (hn : n ≤ 1048576) : bits .and .u64 (n : Int) 4294967295 = n := by
  have h := u64_and_nat n 4294967295 (by omega) (by omega)
  have h2 : n &&& 4294967295 = n := by
    have := Nat.and_two_pow_sub_one_eq_mod n 32
    rw [show (4294967295 : Nat) = 2 ^ 32 - 1 by decide, this]
    exact Nat.mod_eq_of_lt (by omega)
  rw [h2] at h
  exact h
/- Contracts of the reference's builders of formulas: l02False, l02Pre, l02Pair, l02Not, l32Boxes, l32Rank, l02Made. -/
def boxesL (n : Nat) : List Nd := List.replicate n (5, 0) ++ [(1, 0)]
theorem boxesL_succ (n : Nat) : boxesL (n + 1) = (5, 0) :: boxesL n := by simp [boxesL, List.replicate_succ]
theorem boxesL_length (n : Nat) : (boxesL n).length = n + 1 := by simp [boxesL]
def rankL (n : Nat) : List Nd := if n = 0 then boxesL 1 else [(2, 0)] ++ boxesL (n + 1) ++ ([(4, 0)] ++ boxesL n ++ [(1, 0)])
theorem spec_l02False (w : World) :
    Calls Tryz.prog 144 #[] w fun e w' => ∃ u, e = .returned u ∧ Ow cN 75 w.heap.size w' u [(1, 0)] ∧ Below w.heap.size w w' := by
  go_enter Tryz.func144, Tryz.ntmps144
  go_wp2
  go_ret
  exact ⟨_, rfl, Ow.lit [(1, 0)] rfl rfl (Nat.le_refl _), (Below.refl _ _).alloc (Nat.le_refl _) _⟩
theorem spec_l02Pre (k : Int) (v : Value) (xs : List Nd) (w : World) (h : Sl cN w v xs) (hl : xs.length ≤ 1048576) :
    Calls Tryz.prog 76 #[.int .i64 k, v] w fun e w' => ∃ u, e = .returned u ∧ Ow cN 75 w.heap.size w' u ((k, 0) :: xs) ∧ Below w.heap.size w w' := by
  obtain ⟨A, c, rfl⟩ := h.opn
  have H := Lib.hid h; clear h
  go_enter Tryz.func76, Tryz.ntmps76
  go_wp2_with (at_builtin; refine stopHere ?_)
  refine goHere ?_
  refine ap_sl (K := cN) _ ty_node rfl _ _ rfl rfl rfl (B := w.heap.size) (xs := [(k, 0)]) (news := xs) (Ow.lit [(k, 0)] rfl rfl (Nat.le_refl _)) (H.out.alloc _) (by simp <;> omega) (by simp) ?_
  intro v1 w1 ho hg hb hat
  have hb' : Below w.heap.size w w1 := ((Below.refl _ _).alloc (Nat.le_refl _) _).trans hb
  have O := Lib.hid ho; clear ho hg hb hat
  go_wp2
  go_ret
  exact ⟨_, rfl, O.out, hb'⟩
theorem spec_l02Pair (k : Int) (v u : Value) (xs ys : List Nd) (w : World) (h : Sl cN w v xs) (h' : Sl cN w u ys) (hl : xs.length ≤ 1048576) (hl' : ys.length ≤ 1048576) :
    Calls Tryz.prog 60 #[.int .i64 k, v, u] w fun e w' => ∃ r, e = .returned r ∧ Ow cN 75 w.heap.size w' r ([(k, 0)] ++ xs ++ ys) ∧ Below w.heap.size w w' := by
  obtain ⟨A, c, rfl⟩ := h.opn
  obtain ⟨B, d, rfl⟩ := h'.opn
  have H := Lib.hid h; clear h
  have H' := Lib.hid h'; clear h'
  go_enter Tryz.func60, Tryz.ntmps60
  go_wp2_with (at_builtin; refine stopHere ?_)
  refine goHere ?_
  refine ap_sl (K := cN) _ ty_node rfl _ _ rfl rfl rfl (B := w.heap.size) (xs := [(k, 0)]) (news := xs) (Ow.lit [(k, 0)] rfl rfl (Nat.le_refl _)) (H.out.alloc _) (by simp <;> omega) (by simp) ?_
  intro v1 w1 ho hg hb hat
  have hb' : Below w.heap.size w w1 := ((Below.refl _ _).alloc (Nat.le_refl _) _).trans hb
  have O := Lib.hid ho; clear ho hg hb hat
  have hsz := hb'.size
  have HB := Lib.hid hb'; clear hb'
  obtain ⟨A1, c1, rfl⟩ := O.out.opn
  go_wp2_with (at_builtin; refine stopHere ?_)
  refine goHere ?_
  refine ap_sl (K := cN) _ ty_node rfl _ _ rfl rfl rfl (B := w.heap.size) (xs := [(k, 0)] ++ xs) (news := ys) O.out (H'.out.below HB.out) (by simp <;> omega) (by omega) ?_
  intro v2 w2 ho hg hb hat
  have hb' : Below w.heap.size w w2 := HB.out.trans hb
  have O2 := Lib.hid ho; clear ho hg hb hat
  go_wp2
  go_ret
  exact ⟨_, rfl, O2.out, hb'⟩
theorem spec_l02Not (v : Value) (xs : List Nd) (w : World) (h : Sl cN w v xs) (hl : xs.length ≤ 1048576) :
    Calls Tryz.prog 143 #[v] w fun e w' => ∃ r, e = .returned r ∧ Ow cN 75 w.heap.size w' r ([(4, 0)] ++ xs ++ [(1, 0)]) ∧ Below w.heap.size w w' := by
  obtain ⟨A, c, rfl⟩ := h.opn
  have H := Lib.hid h; clear h
  go_enter Tryz.func143, Tryz.ntmps143
  go_wp2_with fail
  refine (spec_l02False _).mono ?_
  rintro e w1 ⟨u, rfl, ho, hb⟩
  have HB := Lib.hid hb
  have O := Lib.hid ho
  clear ho hb
  go_wp2_with fail
  refine (spec_l02Pair 4 _ _ _ _ _ (H.out.below HB.out) O.out.sl hl (by simp)).mono ?_
  rintro e w2 ⟨r, rfl, ho, hb⟩
  have HB2 := Lib.hid (bthen HB.out hb)
  have hz := HB.out.size
  have O2 := Lib.hid ho
  clear ho hb
  go_wp2
  go_ret
  exact ⟨_, rfl, O2.out.mono (by omega), HB2.out⟩
/- Contracts of the reference's l32Rank, l02Made, RankFormula. -/
theorem rankL_zero : rankL 0 = boxesL 1 := rfl
theorem rankL_pos {n : Nat} (h : n ≠ 0) : rankL n = [(2, 0)] ++ boxesL (n + 1) ++ ([(4, 0)] ++ boxesL n ++ [(1, 0)]) := if_neg h
theorem rankL_length (n : Nat) : (rankL n).length ≤ 2 * n + 6 := by
  by_cases h : n = 0
  · subst h; rw [rankL_zero, boxesL_length]; omega
  · rw [rankL_pos h]; simp [boxesL_length]; omega
/- Contracts of slices.Grow at nil and of slices.Concat, at nodes. -/
/-- appending a make to nil: an empty slice of the call's own, with room -/
theorem grown_nil (w : World) (n : Nat) (h0 : 0 < n) (hn : n ≤ 1048576) :
    ∃ w' cap, (∀ (ty : TypeId), (Builtin.append_ #[44, 3] ty #[.slice none 0 0, .int .i64 n]).run Tryz.prog w = .ok (.slice (some ⟨w.heap.size, 0, none⟩) n cap) w') ∧ n ≤ cap ∧ cap ≤ maxLen ∧
      Ow cN 75 w.heap.size w' (.slice (some ⟨w.heap.size, 0, none⟩) 0 cap) [] ∧ Below w.heap.size w w' := by
  obtain ⟨i, hi, hz, hsize, hby⟩ := ty_node.info
  have hs : i.size = 2 := hsize
  have hb : i.bytes = 16 := hby
  have hge := grownCap_ge w n 0 75
  have hle := grownCap_le_maxLen w n 0 75 (by simp only [maxLen]; omega)
  refine ⟨_, _, fun ty => Lib.run_append_nil_zeros w 44 3 ty 75 i _ .i64 .i64 ty_node.under Tryz.underlying3 hi hz n h0 (by omega) (by omega) (by rw [hb]; omega), hge, hle, ⟨⟨_, _, rfl, Nat.zero_le _, by have := hle; simp only [maxLen] at this; omega⟩, ?_⟩, ?_⟩
  · refine World.ownsRow_made _ _ _ (Nat.le_refl _) hle ?_
    show _ = grownCap w n 0 75 * 2
    have hc : (Value.agg #[Value.int .i64 0, Value.int .i64 0]).cells.size = 2 := rfl
    simp only [Array.size_append, size_zeroCells, hc]
    omega
  · exact (below_drewN (Below.refl _ _) 1).alloc (Nat.le_refl _) _
theorem slices_Grow_nil (n : Nat) (w : World) (hn : n ≤ 1048576) :
    Calls Tryz.prog 108 #[.slice none 0 0, .int .i64 n] w fun e w' => ∃ u, e = .returned u ∧ Ow cN 75 w.heap.size w' u [] ∧ Below w.heap.size w w' := by
  by_cases h0 : 0 < n
  · obtain ⟨w1, cap, hr, hge, hle, ho, hb⟩ := grown_nil w n h0 hn
    have hle' : cap ≤ 9223372036854775807 := by simpa only [maxLen] using hle
    have HR := Lib.hid hr; have HO := Lib.hid ho; have HB := Lib.hid hb
    clear hr ho hb
    go_enter Tryz.func108, Tryz.ntmps108
    go_wp2_with (at_builtin; refine stopHere ?_)
    refine goHere ?_
    refine Lib.wpList_append_run _ rfl _ _ _ _ rfl _ _ rfl rfl _ _ (HR.out _) ?_
    go_wp2
    go_ret
    exact ⟨_, rfl, HO.out, HB.out⟩
  · obtain rfl : n = 0 := by omega
    go_enter Tryz.func108, Tryz.ntmps108
    go_wp2
    go_ret
    exact ⟨_, rfl, Ow.nil _ _, Below.refl _ _⟩
/- Contract of slices.Concat at nodes. -/
theorem flat_take_succ {α : Type} (xss : List (List α)) {j : Nat} (h : j < xss.length) : (xss.take (j + 1)).flatten = (xss.take j).flatten ++ xss[j] := by
  rw [List.take_succ_eq_append_getElem h, List.flatten_append]
  simp
theorem flat_take_le {α : Type} (xss : List (List α)) (j : Nat) : (xss.take j).flatten.length ≤ xss.flatten.length := by
  conv => rhs; rw [← List.take_append_drop j xss, List.flatten_append, List.length_append]
  omega
theorem slices_Concat_nodes (v : Value) (xss : List (List Nd)) (w : World) (h : Sl2 cN w v xss) (hl : xss.length ≤ 1048576) (hs : xss.flatten.length ≤ 1048576) :
    Calls Tryz.prog 99 #[v] w fun e w' => ∃ u, e = .returned u ∧ Ow cN 75 w.heap.size w' u xss.flatten ∧ Below w.heap.size w w' := by
  obtain ⟨A, c, rfl⟩ := h.opn
  have H := Lib.hid h; clear h
  go_enter Tryz.func99, Tryz.ntmps99
  go_wp2
  go_loop [3, 11] (fun s i => ∃ j : Nat, j ≤ xss.length ∧ i = .int .i64 j ∧ s = .int .i64 ((xss.take j).flatten.length : Nat)) (fun _ i => xss.length - (intOf i).toNat)
  case atStart => exact ⟨0, Nat.zero_le _, rfl, rfl⟩
  case round =>
    obtain ⟨j, hj, rfl, rfl⟩ := hrel
    by_cases hlt : j < xss.length
    · obtain ⟨b, o, Ai, ni, ci, rfl, hbl, hc0, hsj⟩ := H.out.at_ hlt
      obtain ⟨A', c', he⟩ := hsj.opn
      injection he with e1 e2 e3
      subst e1 e2 e3
      have h1 := congrArg List.length (flat_take_succ xss hlt)
      have h2 := flat_take_le xss (j + 1)
      rw [List.length_append] at h1
      obtain ⟨S, hS⟩ : ∃ S, (xss.take j).flatten.length = S := ⟨_, rfl⟩
      obtain ⟨T, hT⟩ : ∃ T, (xss.take (j + 1)).flatten.length = T := ⟨_, rfl⟩
      obtain ⟨M, hM⟩ : ∃ M, xss[j].length = M := ⟨_, rfl⟩
      rw [hS, hT, hM] at h1
      rw [hT] at h2
      rw [hM] at hc0
      rw [hS]
      have HT := Lib.hid hT
      have hb1 : S + M ≤ 1048576 := by omega
      have hw : IntKind.i64.wrap ((S : Int) + (M : Int)) = ((S + M : Nat) : Int) := by rw [IntWalk.i64_in _ ⟨by omega, by omega⟩]; omega
      have HTS := Lib.hid h1
      clear hS hT hM h1 h2 hsj
      go_wp2
      go_round
      case rel => exact ⟨j + 1, by omega, by go_num, by rw [HT.out, HTS.out, Int.natCast_add]⟩
      case measure => simp [intOf]; omega
    · obtain rfl : j = xss.length := by omega
      have h2 := flat_take_le xss xss.length
      obtain ⟨S, hS⟩ : ∃ S, (xss.take xss.length).flatten.length = S := ⟨_, rfl⟩
      rw [hS] at h2 ⊢
      clear hS
      have hS : S ≤ 1048576 := by omega
      clear h2
      go_wp2_with fail
      refine (slices_Grow_nil S _ hS).mono ?_
      rintro e w1 ⟨u, rfl, ho, hb⟩
      have O := Lib.hid ho
      have HB := Lib.hid hb
      clear ho hb
      go_wp2
      go_loopw [6, 27] (fun v i wr => ∃ j : Nat, j ≤ xss.length ∧ i = .int .i64 j ∧ Ow cN 75 w.heap.size wr v (xss.take j).flatten ∧ Below w.heap.size w wr) (fun _ i _ => xss.length - (intOf i).toNat)
      case atStart => exact ⟨0, Nat.zero_le _, rfl, O.out, HB.out⟩
      case round =>
        obtain ⟨j, hj, rfl, ho, hb⟩ := hrel
        have HO := Lib.hid ho
        have HW := Lib.hid hb
        have hz := hb.size
        clear ho hb
        by_cases hlt : j < xss.length
        · obtain ⟨b, o, Ai, ni, ci, rfl, hbl, hc0, hsj⟩ := (H.out.below HW.out).at_ hlt
          have HS := Lib.hid hsj
          have HT := Lib.hid (flat_take_succ xss hlt)
          have h1 := congrArg List.length (flat_take_succ xss hlt)
          have h2 := flat_take_le xss (j + 1)
          rw [List.length_append] at h1
          have hsum : ((xss.take j).flatten.length + xss[j].length) ≤ 1048576 := by omega
          clear h1 h2 hsj
          go_wp2_with (at_builtin; refine stopHere ?_)
          refine goHere ?_
          refine ap_sl (K := cN) _ ty_node rfl _ _ rfl rfl rfl (B := w.heap.size) (xs := (xss.take j).flatten) (news := xss[j]) HO.out HS.out (by omega) hz ?_
          intro v1 w2 ho hg hb hat
          have HW2 := Lib.hid (HW.out.trans hb)
          have O2 := Lib.hid ho
          clear ho hg hb hat hsum
          go_wp2
          go_roundw
          case rel => exact ⟨j + 1, by omega, by go_num, by rw [HT.out]; exact O2.out, HW2.out⟩
          case measure => simp [intOf]; omega
        · obtain rfl : j = xss.length := by omega
          have HE : Hid ((xss.take xss.length).flatten = xss.flatten) := Lib.hid (by rw [List.take_length])
          go_wp2
          go_ret
          exact ⟨_, rfl, by rw [← HE.out]; exact HO.out, HW.out⟩
/- Contract of slices.Repeat at one node: copies of elements of two cells. -/
/-- copy, at elements of any number of cells, into a row that is known whole -/
theorem run_copy_wide {P : Program} (w : World) (dT sT ty elem : TypeId) (g o dLen dCap : Nat) (a : Addr) (sLen sCap : Nat) (cur : Array Value) (t : TypeId) (cs : List Value) (sz n : Nat)
    (hu : P.underlying dT = some (.slice elem)) (hs : (P.info? elem).map (·.size) = some sz)
    (hg : w.heap[g]? = some (.cells cur t (0, 0))) (hn : n = Nat.min sLen dLen) (hcl : cs.length = n * sz)
    (hsrc : ∀ j v, cs[j]? = some v → w.cell? (a.add j) = some v) (hfit : o + cs.length ≤ cur.size) (h1 : ∀ v ∈ cs, v.oneCell' = true) :
    (Builtin.copy_ #[dT, sT] ty #[.slice (some ⟨g, o, none⟩) dLen dCap, .slice (some a) sLen sCap]).run P w =
      .ok (goInt n) (w.setRow g (cur.toList.take o ++ cs ++ cur.toList.drop (o + cs.length)).toArray) := by
  have hl := run_loadCells_list (P := P) w a cs hsrc
  have hst := run_storeCells_at P g o t cs 0 cur w hg (by simpa using hfit) h1
  rw [hcl] at hl
  cases hq : P.info? elem with
  | none => simp [hq] at hs
  | some i =>
    have hi : i.size = sz := by simpa [hq] using hs
    simp [Builtin.copy_, run_underlying hu, Builtin.lenOf, Builtin.firstCells, sizeOf, typeInfo, hq, hi, ← hn, hl, hst]
/-- the same as one operation of a walk -/
theorem ap_copy_wide {P : Program} {w : World} {ops : Array Oper} {rest : List Oper} {o : Oper} {a : Act} {Q : Exit → Act → World → Prop} (hgd : o.guard = none) (d s : Operand) (dT sT : TypeId)
    (ho : o.op = .call { callee := .builtin .copy, args := #[d, s], argTypes := #[dT, sT] }) (elem : TypeId) (hu : P.underlying dT = some (.slice elem)) (sz n : Nat) (hs : (P.info? elem).map (·.size) = some sz)
    (g off dLen dCap : Nat) (ad : Addr) (sLen sCap : Nat) (hd : a.eval d = .slice (some ⟨g, off, none⟩) dLen dCap) (hsv : a.eval s = .slice (some ad) sLen sCap)
    (cur : Array Value) (t : TypeId) (hg : w.heap[g]? = some (.cells cur t (0, 0))) (cs : List Value) (hn : n = Nat.min sLen dLen) (hcl : cs.length = n * sz)
    (hsrc : ∀ j v, cs[j]? = some v → w.cell? (ad.add j) = some v) (hfit : off + cs.length ≤ cur.size) (h1 : ∀ v ∈ cs, v.oneCell' = true)
    (h : wpList P ops Q rest (a.put o.dst (goInt n)) (w.setRow g (cur.toList.take off ++ cs ++ cur.toList.drop (off + cs.length)).toArray)) : wpList P ops Q (o :: rest) a w := by
  refine wpList_plain hgd fun K hK => ?_
  have hrun := run_copy_wide (P := P) w dT sT o.type elem g off dLen dCap ad sLen sCap cur t cs sz n hu hs hg hn hcl hsrc hfit h1
  unfold Oper.wp
  simp only [execOp, ho, resolve, invoke, builtin, hd, hsv, hrun, Result.andThen, Sem.run_bind, Sem.run_pure, Result.andThen_ok, List.map_toArray, List.map_cons, List.map_nil]
  exact hK _ _ h
theorem add_plain (b o i : Nat) : (⟨b, o, none⟩ : Addr).add i = ⟨b, o + i, none⟩ := by unfold Addr.add; split <;> simp_all
/-- a copy whose run is known, as one step of a region that draws -/
theorem step_copy {P : Program} {ops : Array Oper} {o : Oper} {a : Act} {w : World} {K : Act → World → Prop} {Q : Exit → Act → World → Prop} {E : Prop}
    (hg : o.guard = none) (d x : Operand) (dT sT : TypeId) (hop : o.op = Op.call { callee := Callee.builtin Builtin.copy, args := #[d, x], argTypes := #[dT, sT] })
    (v u : Value) (hd : a.eval d = v) (hx : a.eval x = u) {v' : Value} {w' : World} (hr : (Builtin.copy_ #[dT, sT] o.type #[v, u]).run P w = .ok v' w') (hK : K (a.put o.dst v') w') :
    if Region.wanted o (yielded ops a.tmps) = true then Oper.wp P o a w K Q else E := by
  rw [if_pos (by simp [Region.wanted, hg])]
  unfold Oper.wp
  simp [execOp, hop, resolve, invoke, builtin, hd, hx, hr, Result.andThen]
  exact hK
/-- the cells of j nodes x and m nodes of zeros -/
def repR (x : Nd) (j m : Nat) : List Value := flat cN (List.replicate j x) ++ flat cN (List.replicate m ((0, 0) : Nd))
theorem repR_length (x : Nd) (j m : Nat) : (repR x j m).length = j * 2 + m * 2 := by
  simp only [repR, List.length_append, flat_length, List.length_replicate]; rfl
theorem rep_length (x : Nd) (k : Nat) : (flat cN (List.replicate k x)).length = k * 2 := by
  rw [flat_length, List.length_replicate]; rfl
theorem rep_add (x : Nd) (j k : Nat) : flat cN (List.replicate (j + k) x) = flat cN (List.replicate j x) ++ flat cN (List.replicate k x) := by
  rw [← flat_append, List.replicate_append_replicate]
theorem repR_step (x : Nd) (j m k : Nat) (hk : k ≤ m) :
    (repR x j m).take (j * 2) ++ flat cN (List.replicate k x) ++ (repR x j m).drop (j * 2 + (flat cN (List.replicate k x)).length) = repR x (j + k) (m - k) := by
  have h1 : (repR x j m).take (j * 2) = flat cN (List.replicate j x) := by
    unfold repR
    rw [List.take_append_of_le_length (by rw [rep_length]; omega), List.take_of_length_le (by rw [rep_length]; omega)]
  have h2 : (repR x j m).drop (j * 2 + (flat cN (List.replicate k x)).length) = flat cN (List.replicate (m - k) ((0, 0) : Nd)) := by
    unfold repR
    rw [rep_length, List.drop_append, rep_length, List.drop_eq_nil_of_le (by rw [rep_length]; omega), List.nil_append]
    rw [show j * 2 + k * 2 - j * 2 = k * 2 by omega]
    conv => lhs; rw [show m = k + (m - k) by omega, rep_add]
    rw [List.drop_append_of_le_length (by rw [rep_length]; omega), List.drop_eq_nil_of_le (by rw [rep_length]; omega), List.nil_append]
  rw [h1, h2]
  unfold repR
  rw [rep_add]
theorem row_of_made {w : World} {g n B : Nat} {xs : List Nd} {e : TypeId} (h : Ow cN e B w (.slice (some ⟨g, 0, none⟩) n n) xs) (hn : xs.length = n) : w.heap[g]? = some (.cells (flat cN xs).toArray e (0, 0)) := by
  obtain ⟨_, hl, hr⟩ := h
  rcases hr with ⟨h0, _⟩ | ⟨g', cap, cur, hv, hB, hg, hle, hmax, hsize, htake⟩
  · cases h0
  · injection hv with e1 e2 e3
    injection e1 with e1
    injection e1 with e1 _ _
    subst e1 e3
    rw [hn, List.take_of_length_le (by rw [Array.length_toList, hsize]; exact Nat.le_refl _)] at htake
    rw [← htake]
    simpa using hg
theorem ow_of_row {w : World} {g n B : Nat} {xs : List Nd} {e : TypeId} (h : w.heap[g]? = some (.cells (flat cN xs).toArray e (0, 0))) (hB : B ≤ g) (hn : n = xs.length) (hm : n ≤ 1073741824) : Ow cN e B w (.slice (some ⟨g, 0, none⟩) n n) xs := by
  subst hn
  refine ⟨⟨_, _, rfl, Nat.le_refl _, by omega⟩, flat_length _, .inr ⟨g, xs.length, _, rfl, hB, h, Nat.le_refl _, by simp only [maxLen]; omega, by rw [List.size_toArray, flat_length], ?_⟩⟩
  rw [List.take_of_length_le (by rw [List.toList_toArray, flat_length]; exact Nat.le_refl _)]
theorem rep_copy {P : Program} {e T : TypeId} (hu : P.underlying T = some (.slice e)) (hs : (P.info? e).map (·.size) = some 2) (w w0 : World) (x : Nd) (j m k g B off : Nat) (hB : B ≤ g) (hb : Below B w0 w)
    (hrow : w.heap[g]? = some (.cells (repR x j m).toArray e (0, 0))) (ad : Addr) (sLen sCap dLen dCap : Nat) (hk : k = Nat.min sLen dLen) (hkm : k ≤ m) (hoff : off = j * 2)
    (hsrc : ∀ i v, (flat cN (List.replicate k x))[i]? = some v → w.cell? (ad.add i) = some v) :
    ∃ w', (∀ ty, (Builtin.copy_ #[T, T] ty #[.slice (some ⟨g, off, none⟩) dLen dCap, .slice (some ad) sLen sCap]).run P w = .ok (goInt k) w') ∧ w'.heap[g]? = some (.cells (repR x (j + k) (m - k)).toArray e (0, 0)) ∧ Below B w0 w' := by
  subst hoff
  refine ⟨_, fun ty => run_copy_wide w T T ty e g (j * 2) dLen dCap ad sLen sCap _ e (flat cN (List.replicate k x)) 2 k hu hs hrow hk (rep_length x k) hsrc ?_ (fun u hu => flat_one _ u hu), ?_, ?_⟩
  · rw [List.size_toArray, repR_length, rep_length]; omega
  · rw [setRow_heap w g _ _ e (0, 0) hrow]
    simp only [List.toList_toArray]
    rw [repR_step x j m k hkm]
  · exact below_setRow hb hB _
/- Contracts of the program's builders of formulas: falsum, join, negation, boxes, rankFormula, limited, RankFormula. -/
theorem Sl2.three {α : Type} {K : Cod α} {w : World} {A B C : Option Addr} {n c m d p q : Nat} {xs ys zs : List α} (h : Sl K w (.slice A n c) xs) (h' : Sl K w (.slice B m d) ys) (h'' : Sl K w (.slice C p q) zs) (e : TypeId) (g : Nat) (hg : g = w.heap.size) :
    Sl2 K (w.alloc (.cells #[.slice A n c, .slice B m d, .slice C p q] e)) (.slice (some ⟨g, 0, none⟩) 3 3) [xs, ys, zs] := by
  subst hg
  refine ⟨[⟨A, n, c⟩, ⟨B, m, d⟩, ⟨C, p, q⟩], (Ow.lit (K := cH) (e := e) (B := w.heap.size) [⟨A, n, c⟩, ⟨B, m, d⟩, ⟨C, p, q⟩] rfl rfl (Nat.le_refl _)).sl, rfl, fun i a b => ?_⟩
  rcases (show i = 0 ∨ i = 1 ∨ i = 2 by simp at a; omega) with rfl | rfl | rfl
  · exact h.alloc _
  · exact h'.alloc _
  · exact h''.alloc _
theorem impl_falsum (w : World) :
    Calls Tryz.prog 155 #[] w fun e w' => ∃ u, e = .returned u ∧ Ow cN 75 w.heap.size w' u [(1, 0)] ∧ Below w.heap.size w w' := by
  go_enter Tryz.func155, Tryz.ntmps155
  go_wp2
  go_ret
  exact ⟨_, rfl, Ow.lit [(1, 0)] rfl rfl (Nat.le_refl _), (Below.refl _ _).alloc (Nat.le_refl _) _⟩
theorem impl_join (k : Int) (v u : Value) (xs ys : List Nd) (w : World) (h : Sl cN w v xs) (h' : Sl cN w u ys) (hl : xs.length ≤ 262144) (hl' : ys.length ≤ 262144) :
    Calls Tryz.prog 86 #[.int .i64 k, v, u] w fun e w' => ∃ r, e = .returned r ∧ Ow cN 75 w.heap.size w' r ([(k, 0)] ++ xs ++ ys) ∧ Below w.heap.size w w' := by
  obtain ⟨A, c, rfl⟩ := h.opn
  obtain ⟨B, d, rfl⟩ := h'.opn
  have hs := Sl2.three ((Ow.lit (K := cN) (e := 75) (B := w.heap.size) [(k, 0)] (cs := #[.int .i64 k, .int .i64 0]) (n := 1) rfl rfl (Nat.le_refl _)).sl) (h.alloc (.cells #[.int .i64 k, .int .i64 0] 75)) (h'.alloc (.cells #[.int .i64 k, .int .i64 0] 75)) 44 (w.heap.size + 1) (by simp)
  have H := Lib.hid (slices_Concat_nodes _ _ _ hs (by simp) (by simp <;> omega))
  clear h h' hs
  go_enter Tryz.func86, Tryz.ntmps86
  go_wp2_with fail
  refine H.out.mono ?_
  rintro e w1 ⟨r, rfl, ho, hb⟩
  have HB : Hid (Below w.heap.size w w1) := Lib.hid ((((Below.refl _ _).alloc (Nat.le_refl _) _).alloc (by simp) _).trans (hb.mono (by simp <;> omega)))
  have O : Hid (Ow cN 75 w.heap.size w1 r ([(k, 0)] ++ xs ++ ys)) := Lib.hid (by have := ho.mono (B' := w.heap.size) (by simp <;> omega); simpa using this)
  clear ho hb
  go_wp2
  go_ret
  exact ⟨_, rfl, O.out, HB.out⟩
theorem impl_negation (v : Value) (xs : List Nd) (w : World) (h : Sl cN w v xs) (hl : xs.length ≤ 262144) :
    Calls Tryz.prog 152 #[v] w fun e w' => ∃ r, e = .returned r ∧ Ow cN 75 w.heap.size w' r ([(4, 0)] ++ xs ++ [(1, 0)]) ∧ Below w.heap.size w w' := by
  obtain ⟨A, c, rfl⟩ := h.opn
  have H := Lib.hid h; clear h
  go_enter Tryz.func152, Tryz.ntmps152
  go_wp2_with fail
  refine (impl_falsum _).mono ?_
  rintro e w1 ⟨u, rfl, ho, hb⟩
  have HB := Lib.hid hb
  have O := Lib.hid ho
  clear ho hb
  go_wp2_with fail
  refine (impl_join 4 _ _ _ _ _ (H.out.below HB.out) O.out.sl hl (by simp)).mono ?_
  rintro e w2 ⟨r, rfl, ho, hb⟩
  have HB2 := Lib.hid (bthen HB.out hb)
  have hz := HB.out.size
  have O2 := Lib.hid ho
  clear ho hb
  go_wp2
  go_ret
  exact ⟨_, rfl, O2.out.mono (by omega), HB2.out⟩
end Go.Proofs.YtcikenffeekkeaaGreatDoor
