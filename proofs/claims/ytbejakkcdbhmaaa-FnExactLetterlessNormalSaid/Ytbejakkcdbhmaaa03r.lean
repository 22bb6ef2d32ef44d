/- Contract of slices.Repeat at one node: copies of elements of two cells. -/
import Derived.Test.Ytbejakkcdbhmaaa03m
import Derived.Test.YtbejakkcdbhmaaaLN
import Derived.Laws.CopyOwn
import Derived.Deep.RegionLaw
namespace Go.Proofs.Ytbejakkcdbhmaaa
open Go.RowKit
set_option linter.unusedVariables false
set_option linter.unusedSimpArgs false
/-- copy, at elements of any number of cells, into a row that is known whole -/
theorem run_copy_wide {P : Program} (w : World) (dT sT ty elem : TypeId) (g o dLen dCap : Nat) (a : Addr) (sLen sCap : Nat) (cur : Array Value) (t : TypeId) (cs : List Value) (sz n : Nat)
    (hu : P.underlying dT = some (.slice elem)) (hs : (P.info? elem).map (·.size) = some sz)
    (hg : w.heap[g]? = some (.cells cur t (0, 0))) (hn : n = Nat.min sLen dLen) (hcl : cs.length = n * sz)
    (hsrc : ∀ j v, cs[j]? = some v → w.cell? (a.add j) = some v) (hfit : o + cs.length ≤ cur.size) (h1 : ∀ v ∈ cs, v.oneCell' = true) :
    (Builtin.copy_ #[dT, sT] ty #[.slice (some ⟨g, o, none⟩) dLen dCap, .slice (some a) sLen sCap]).run P w =
      .ok (goInt n) (w.setRow g (cur.toList.take o ++ cs ++ cur.toList.drop (o + cs.length)).toArray) := by
  have hl := run_loadCells_list (P := P) w a cs hsrc
  have hst := run_storeCells_at P g o t cs 0 cur w hg (by simpa using hfit) h1
  rw [hcl] at hl
  cases hq : P.info? elem with
  | none => simp [hq] at hs
  | some i =>
    have hi : i.size = sz := by simpa [hq] using hs
    simp [Builtin.copy_, run_underlying hu, Builtin.lenOf, Builtin.firstCells, sizeOf, typeInfo, hq, hi, ← hn, hl, hst]
/-- the same as one operation of a walk -/
theorem ap_copy_wide {P : Program} {w : World} {ops : Array Oper} {rest : List Oper} {o : Oper} {a : Act} {Q : Exit → Act → World → Prop} (hgd : o.guard = none) (d s : Operand) (dT sT : TypeId)
    (ho : o.op = .call { callee := .builtin .copy, args := #[d, s], argTypes := #[dT, sT] }) (elem : TypeId) (hu : P.underlying dT = some (.slice elem)) (sz n : Nat) (hs : (P.info? elem).map (·.size) = some sz)
    (g off dLen dCap : Nat) (ad : Addr) (sLen sCap : Nat) (hd : a.eval d = .slice (some ⟨g, off, none⟩) dLen dCap) (hsv : a.eval s = .slice (some ad) sLen sCap)
    (cur : Array Value) (t : TypeId) (hg : w.heap[g]? = some (.cells cur t (0, 0))) (cs : List Value) (hn : n = Nat.min sLen dLen) (hcl : cs.length = n * sz)
    (hsrc : ∀ j v, cs[j]? = some v → w.cell? (ad.add j) = some v) (hfit : off + cs.length ≤ cur.size) (h1 : ∀ v ∈ cs, v.oneCell' = true)
    (h : wpList P ops Q rest (a.put o.dst (goInt n)) (w.setRow g (cur.toList.take off ++ cs ++ cur.toList.drop (off + cs.length)).toArray)) : wpList P ops Q (o :: rest) a w := by
  refine wpList_plain hgd fun K hK => ?_
  have hrun := run_copy_wide (P := P) w dT sT o.type elem g off dLen dCap ad sLen sCap cur t cs sz n hu hs hg hn hcl hsrc hfit h1
  unfold Oper.wp
  simp only [execOp, ho, resolve, invoke, builtin, hd, hsv, hrun, Result.andThen, Sem.run_bind, Sem.run_pure, Result.andThen_ok, List.map_toArray, List.map_cons, List.map_nil]
  exact hK _ _ h
theorem add_plain (b o i : Nat) : (⟨b, o, none⟩ : Addr).add i = ⟨b, o + i, none⟩ := by unfold Addr.add; split <;> simp_all
/-- a copy whose run is known, as one step of a region that draws -/
theorem step_copy {P : Program} {ops : Array Oper} {o : Oper} {a : Act} {w : World} {K : Act → World → Prop} {Q : Exit → Act → World → Prop} {E : Prop}
    (hg : o.guard = none) (d x : Operand) (dT sT : TypeId) (hop : o.op = Op.call { callee := Callee.builtin Builtin.copy, args := #[d, x], argTypes := #[dT, sT] })
    (v u : Value) (hd : a.eval d = v) (hx : a.eval x = u) {v' : Value} {w' : World} (hr : (Builtin.copy_ #[dT, sT] o.type #[v, u]).run P w = .ok v' w') (hK : K (a.put o.dst v') w') :
    if Region.wanted o (yielded ops a.tmps) = true then Oper.wp P o a w K Q else E := by
  rw [if_pos (by simp [Region.wanted, hg])]
  unfold Oper.wp
  simp [execOp, hop, resolve, invoke, builtin, hd, hx, hr, Result.andThen]
  exact hK
/-- the cells of j nodes x and m nodes of zeros -/
def repR (x : Nd) (j m : Nat) : List Value := flat cN (List.replicate j x) ++ flat cN (List.replicate m ((0, 0) : Nd))
theorem repR_length (x : Nd) (j m : Nat) : (repR x j m).length = j * 2 + m * 2 := by
  simp only [repR, List.length_append, flat_length, List.length_replicate]; rfl
theorem rep_length (x : Nd) (k : Nat) : (flat cN (List.replicate k x)).length = k * 2 := by
  rw [flat_length, List.length_replicate]; rfl
theorem rep_add (x : Nd) (j k : Nat) : flat cN (List.replicate (j + k) x) = flat cN (List.replicate j x) ++ flat cN (List.replicate k x) := by
  rw [← flat_append, List.replicate_append_replicate]
theorem repR_step (x : Nd) (j m k : Nat) (hk : k ≤ m) :
    (repR x j m).take (j * 2) ++ flat cN (List.replicate k x) ++ (repR x j m).drop (j * 2 + (flat cN (List.replicate k x)).length) = repR x (j + k) (m - k) := by
  have h1 : (repR x j m).take (j * 2) = flat cN (List.replicate j x) := by
    unfold repR
    rw [List.take_append_of_le_length (by rw [rep_length]; omega), List.take_of_length_le (by rw [rep_length]; omega)]
  have h2 : (repR x j m).drop (j * 2 + (flat cN (List.replicate k x)).length) = flat cN (List.replicate (m - k) ((0, 0) : Nd)) := by
    unfold repR
    rw [rep_length, List.drop_append, rep_length, List.drop_eq_nil_of_le (by rw [rep_length]; omega), List.nil_append]
    rw [show j * 2 + k * 2 - j * 2 = k * 2 by omega]
    conv => lhs; rw [show m = k + (m - k) by omega, rep_add]
    rw [List.drop_append_of_le_length (by rw [rep_length]; omega), List.drop_eq_nil_of_le (by rw [rep_length]; omega), List.nil_append]
  rw [h1, h2]
  unfold repR
  rw [rep_add]
theorem row_of_made {w : World} {g n B : Nat} {xs : List Nd} {e : TypeId} (h : Ow cN e B w (.slice (some ⟨g, 0, none⟩) n n) xs) (hn : xs.length = n) : w.heap[g]? = some (.cells (flat cN xs).toArray e (0, 0)) := by
  obtain ⟨_, hl, hr⟩ := h
  rcases hr with ⟨h0, _⟩ | ⟨g', cap, cur, hv, hB, hg, hle, hmax, hsize, htake⟩
  · cases h0
  · injection hv with e1 e2 e3
    injection e1 with e1
    injection e1 with e1 _ _
    subst e1 e3
    rw [hn, List.take_of_length_le (by rw [Array.length_toList, hsize]; exact Nat.le_refl _)] at htake
    rw [← htake]
    simpa using hg
theorem ow_of_row {w : World} {g n B : Nat} {xs : List Nd} {e : TypeId} (h : w.heap[g]? = some (.cells (flat cN xs).toArray e (0, 0))) (hB : B ≤ g) (hn : n = xs.length) (hm : n ≤ 1073741824) : Ow cN e B w (.slice (some ⟨g, 0, none⟩) n n) xs := by
  subst hn
  refine ⟨⟨_, _, rfl, Nat.le_refl _, by omega⟩, flat_length _, .inr ⟨g, xs.length, _, rfl, hB, h, Nat.le_refl _, by simp only [maxLen]; omega, by rw [List.size_toArray, flat_length], ?_⟩⟩
  rw [List.take_of_length_le (by rw [List.toList_toArray, flat_length]; exact Nat.le_refl _)]
theorem rep_copy {P : Program} {e T : TypeId} (hu : P.underlying T = some (.slice e)) (hs : (P.info? e).map (·.size) = some 2) (w w0 : World) (x : Nd) (j m k g B off : Nat) (hB : B ≤ g) (hb : Below B w0 w)
    (hrow : w.heap[g]? = some (.cells (repR x j m).toArray e (0, 0))) (ad : Addr) (sLen sCap dLen dCap : Nat) (hk : k = Nat.min sLen dLen) (hkm : k ≤ m) (hoff : off = j * 2)
    (hsrc : ∀ i v, (flat cN (List.replicate k x))[i]? = some v → w.cell? (ad.add i) = some v) :
    ∃ w', (∀ ty, (Builtin.copy_ #[T, T] ty #[.slice (some ⟨g, off, none⟩) dLen dCap, .slice (some ad) sLen sCap]).run P w = .ok (goInt k) w') ∧ w'.heap[g]? = some (.cells (repR x (j + k) (m - k)).toArray e (0, 0)) ∧ Below B w0 w' := by
  subst hoff
  refine ⟨_, fun ty => run_copy_wide w T T ty e g (j * 2) dLen dCap ad sLen sCap _ e (flat cN (List.replicate k x)) 2 k hu hs hrow hk (rep_length x k) hsrc ?_ (fun u hu => flat_one _ u hu), ?_, ?_⟩
  · rw [List.size_toArray, repR_length, rep_length]; omega
  · rw [setRow_heap w g _ _ e (0, 0) hrow]
    simp only [List.toList_toArray]
    rw [repR_step x j m k hkm]
  · exact below_setRow hb hB _
set_option maxRecDepth 100000 in
theorem slices_Repeat_node (v : Value) (x : Nd) (n : Nat) (w : World) (h : Sl cN w v [x]) (hn : n ≤ 1024) :
    Calls Try.prog 286 #[v, .int .i64 n] w fun e w' => ∃ u, e = .returned u ∧ Ow cN 95 w.heap.size w' u (List.replicate n x) ∧ Below w.heap.size w w' := by
  obtain ⟨A, c, rfl⟩ := h.opn
  have H := Lib.hid h; clear h
  have m1 := IntWalk.u64_in (n : Int) ⟨by omega, by omega⟩
  have m2 := IntWalk.i64_in (n : Int) ⟨by omega, by omega⟩
  simp only [List.length_cons, List.length_nil, Nat.zero_add]
  go_enter Try.func286, Try.ntmps286
  go_wp2_with fail
  refine (bits_Mul n _ (by omega)).mono ?_
  rintro e w1 ⟨rfl, rfl⟩
  go_wp2_with (at_make; refine stopHere ?_)
  refine goHere ?_
  refine mk_full (K := cN) w ty_node rfl _ _ rfl w.heap.size n (0, 0) rfl rfl rfl (by omega) (Nat.le_refl _) ?_
  intro w1 ho1 hg1 hb1 hsz1
  have hrow0 : w1.heap[w.heap.size]? = some (.cells (repR x 0 n).toArray 95 (0, 0)) := by
    have := row_of_made ho1 (by rw [List.length_replicate])
    simpa [repR, flat] using this
  obtain ⟨b, o, rfl, hbl, hsrc⟩ : ∃ b o, A = some ⟨b, o, none⟩ ∧ b < w.heap.size ∧ ∀ k u, (flat cN [x])[k]? = some u → w.cell? ⟨b, o + k, none⟩ = some u := by
    obtain ⟨A', c', he, _, _, hr⟩ := H.out
    injection he with e1 e2 e3
    subst e1
    rcases hr with hr | hr
    · simp [flat, cN] at hr
    · exact hr
  have hsz : (Try.prog.info? 95).map (·.size) = some 2 := by
    obtain ⟨i, hi, _, hs2, _⟩ := ty_node.info
    rw [hi]
    exact congrArg some hs2
  have hmin : min 1 n = Nat.min 1 n := rfl
  obtain ⟨w2, hcp, hrow1, hb2⟩ := rep_copy (T := 24) ty_node.under hsz w1 w x 0 n (min 1 n) w.heap.size w.heap.size 0 (Nat.le_refl _) hb1 hrow0 ⟨b, o, none⟩ 1 c n n hmin (Nat.min_le_right _ _) rfl (by
    intro i u hu
    have hk : min 1 n = 0 ∨ min 1 n = 1 := by omega
    rcases hk with hk | hk
    · rw [hk] at hu; simp [flat] at hu
    · rw [hk] at hu
      rw [add_plain]
      exact (hb1.cell (p := ⟨b, o + i, none⟩) hbl).trans (hsrc i u hu))
  rw [Nat.zero_add] at hrow1
  have HR := Lib.hid hrow1
  have HB := Lib.hid hb2
  have hmn : min 1 n ≤ n := Nat.min_le_right _ _
  have hpos : 0 < n → 0 < min 1 n := by omega
  clear hrow1 hb2 hrow0 hsrc ho1 hg1 hb1 hmin
  generalize min 1 n = k0 at *
  have HP := Lib.hid hpos; clear hpos
  have HZ := Lib.hid hsz; clear hsz
  go_wp2
  go_loopw [8] (fun i wr => ∃ j : Nat, j ≤ n ∧ (0 < n → 0 < j) ∧ i = .int .i64 j ∧ wr.heap[w.heap.size]? = some (.cells (repR x j (n - j)).toArray 95 (0, 0)) ∧ Below w.heap.size w wr) (fun i _ => n - (intOf i).toNat)
  case atStart => exact ⟨k0, hmn, HP.out, rfl, HR.out, HB.out⟩
  case round =>
    obtain ⟨j, hj, hp, rfl, hr, hbw⟩ := hrel
    have HRW := Lib.hid hr; have HBW := Lib.hid hbw
    clear hr hbw hcp
    by_cases hlt : j < n
    · have hj0 : 0 < j := hp (by omega)
      clear hp
      go_wp2
      have hk : Nat.min j (n - j) ≤ n - j := Nat.min_le_right _ _
      have hk1 : j + Nat.min j (n - j) ≤ n := by omega
      have hk2 : 0 < Nat.min j (n - j) := Nat.lt_min.2 ⟨hj0, by omega⟩
      obtain ⟨w3, hcp3, hrow3, hb3⟩ := rep_copy (T := 24) ty_node.under HZ.out wr.drew w x j (n - j) (Nat.min j (n - j)) w.heap.size w.heap.size (j * 2) (Nat.le_refl _) (HBW.out.drew) HRW.out ⟨w.heap.size, 0, none⟩ j n (n - j) (n - j) rfl hk rfl (by
        intro i u hu
        rw [add_plain, Nat.zero_add]
        refine cell_of_row _ w.heap.size i _ _ (0, 0) HRW.out |>.trans ?_
        have hi : i < (flat cN (List.replicate (Nat.min j (n - j)) x)).length := (List.getElem?_eq_some_iff.1 hu).1
        have hkj : Nat.min j (n - j) ≤ j := Nat.min_le_left _ _
        have e1 : flat cN (List.replicate j x) = flat cN (List.replicate (Nat.min j (n - j)) x) ++ flat cN (List.replicate (j - Nat.min j (n - j)) x) := by
          rw [← rep_add, show Nat.min j (n - j) + (j - Nat.min j (n - j)) = j by omega]
        rw [List.getElem?_toArray]
        unfold repR
        rw [e1, List.append_assoc, List.getElem?_append_left hi]
        exact hu)
      generalize Nat.min j (n - j) = k at *
      have H3 := Lib.hid hrow3; have HB3 := Lib.hid hb3
      clear hrow3 hb3
      have i1 : (j : Int) ≤ (n : Int) := by omega
      have i2 : ¬ (j : Int) = (n : Int) := by omega
      have i3 : ¬ n = j := by omega
      have i4 : IntKind.i64.wrap ((j : Int) + (k : Int)) = ((j + k : Nat) : Int) := by rw [IntWalk.i64_in _ ⟨by omega, by omega⟩]; omega
      go_region_law (refine step_copy rfl _ _ 24 24 rfl _ _ (by simp [Act.eval, Act.put, i3]) (by simp [Act.eval, Act.put, i3]) (hcp3 _) ?_)
      clear hcp3
      go_wp2
      refine ⟨⟨_, _, _, _, _, _, _, _, _, _, _, _, _, _, ⟨j + k, hk1, fun _ => by omega, ?_, ?_, HB3.out⟩, rfl⟩, ?_⟩
      · show Value.int .i64 _ = Value.int .i64 _
        congr 1
      · have := H3.out
        rw [show n - j - k = n - (j + k) by omega] at this
        exact this
      · show n - ((j : Int) + (k : Int)).toNat < n - (j : Int).toNat
        omega
    · obtain rfl : j = n := by omega
      clear hp
      go_wp2
      go_ret
      refine ⟨_, rfl, ow_of_row ?_ (Nat.le_refl _) (by rw [List.length_replicate]) (by omega), HBW.out⟩
      have := HRW.out
      simpa [repR, flat] using this
end Go.Proofs.Ytbejakkcdbhmaaa
