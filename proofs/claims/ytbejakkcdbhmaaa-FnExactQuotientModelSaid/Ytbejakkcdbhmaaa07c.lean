/- Contracts of chapter 7, of the program: the closures of bounded; append as a step of a region that draws. -/
import Derived.Test.Ytbejakkcdbhmaaa07b
import Derived.Deep.RegionHeld3
namespace Go.Proofs.Ytbejakkcdbhmaaa
open Go.RowKit
set_option linter.unusedVariables false
set_option linter.unusedSimpArgs false
section
variable {P : Program} {α : Type} {K : Cod α}
theorem wp_any (w : World) {o : Oper} {a : Act} {KK : Act → World → Prop} {Q : Exit → Act → World → Prop} {t e : TypeId} {z : Value} {bytes : Nat}
    (T : Ty P t e z K.size bytes) (s x : Operand)
    (ho : o.op = .call { callee := .builtin .append, args := #[s, x], argTypes := #[t, t] })
    {B : Nat} {v : Value} {xs : List α} (hs : a.eval s = v) (hown : Ow K e B w v xs)
    {A : Option Addr} {m c : Nat} {news : List α} (hx : a.eval x = .slice A m c) (hm : m = news.length) (hr : Rd w A (flat K news))
    (hbytes : (xs.length + news.length) * bytes ≤ 140737488355328) (hbase : B ≤ w.heap.size)
    (h : ∀ v' w', Ow K e B w' v' (xs ++ news) → w.grownBy w' v.ownBlock → Below B w w' → (v'.ownBlock = v.ownBlock ∨ v'.ownBlock = some w.heap.size) → KK (a.put o.dst v') w') :
    o.wp P a w KK Q := by
  subst hm
  obtain ⟨i, hi, hz, hsize, hby⟩ := T.info
  have hpos := T.pos
  have hmax : xs.length + news.length ≤ 140737488355328 := Nat.le_trans (Nat.le_mul_of_pos_right _ hpos) hbytes
  obtain ⟨⟨A0, c0, rfl, hc0, hm0⟩, ho'⟩ := hown
  have main : ∃ v' w', (Builtin.append_ #[t, t] o.type #[.slice A0 xs.length c0, .slice A news.length c]).run P w = .ok v' w' ∧ w'.ownsRow B e K.size v' (xs.length + news.length) (flat K xs ++ flat K news) ∧ w.grownBy w' (Value.ownBlock (.slice A0 xs.length c0)) ∧
      (v'.ownBlock = (Value.ownBlock (.slice A0 xs.length c0)) ∨ v'.ownBlock = some w.heap.size) ∧ ∃ A' c', v' = .slice A' (xs.length + news.length) c' ∧ xs.length + news.length ≤ c' ∧ c' ≤ 9223372036854775807 := by
    have shape : ∀ v' w', World.ownsRow w' B e K.size v' (xs.length + news.length) (flat K xs ++ flat K news) → ∃ A' c', v' = .slice A' (xs.length + news.length) c' ∧ xs.length + news.length ≤ c' ∧ c' ≤ 9223372036854775807 := by
      intro v' w' h
      rcases h.2 with ⟨h1, h2⟩ | ⟨g, cap, cur, hv, _, _, hnc, hcm, _⟩
      · exact ⟨none, 0, by rw [h1, h2], by omega, by omega⟩
      · exact ⟨_, cap, hv, hnc, by simp only [maxLen] at hcm; omega⟩
    by_cases hn : news = []
    · subst hn
      refine ⟨.slice A0 xs.length c0, w, ?_, by simpa [flat] using ho', World.grownBy.refl w _, .inl rfl, A0, c0, by simp, by simpa using hc0, hm0⟩
      rcases ho'.2 with ⟨h1, h2⟩ | ⟨g, cap, cur, hv, _, _, hnc, _⟩
      · rw [h1]
        rcases A with _ | A <;> simp [Builtin.append_, run_underlying T.under, sizeOf, typeInfo, hi, Builtin.lenOf, Builtin.firstCells, loadCells, loadCellsFrom]
      · injection hv with hA _ hcc
        subst hA; subst hcc
        rcases A with _ | A <;> simp [Builtin.append_, run_underlying T.under, sizeOf, typeInfo, hi, Builtin.lenOf, Builtin.firstCells, loadCells, loadCellsFrom, hnc, storeCells]
    · rcases hr with hr | ⟨b, off, rfl, _, hcell⟩
      · have := flat_length (K := K) news
        rw [hr, List.length_nil] at this
        have h0 : 0 < news.length := by cases news with | nil => exact absurd rfl hn | cons _ _ => simp
        have := Nat.mul_pos h0 K.pos
        omega
      · obtain ⟨v', w', hrun, h2, h3, _, h5⟩ := run_append_own_at (P := P) w B t o.type e i z K.size bytes T.under hi hz hsize hby T.cells K.pos _ _ _ ho' ⟨b, off, none⟩ news.length c (flat K news) (flat_length news)
          (fun j u hu => by rw [add_lit]; exact hcell j u hu) (flat_one news) (by simp only [maxLen]; omega) hbytes hbase
        exact ⟨v', w', hrun, h2, h3, h5, shape v' w' h2⟩
  obtain ⟨v', w', hrun, h2, h3, h4, A', c', hv', hn', hm'⟩ := main
  unfold Oper.wp execOp
  simp only [ho, resolve, invoke, builtin, Sem.run_bind, Sem.run_pure, Result.andThen_ok, List.map_toArray, List.map_cons, List.map_nil, hs, hx, hrun]
  refine (h v' w' ⟨⟨A', c', by rw [hv', List.length_append], by simpa using hn', hm'⟩, by rw [flat_append, List.length_append]; exact h2⟩ h3 ?_ h4)
  refine (Below.refl _ _).grown h3 hbase fun k hk => (ho'.lt k hk).1


/-- append of one element, made just now, as a step of a region that draws its order -/
theorem step_one (w : World) {ops : Array Oper} {o : Oper} {a : Act} {KK : Act → World → Prop} {Q : Exit → Act → World → Prop} {E : Prop} {t e : TypeId} {z : Value} {bytes : Nat}
    (T : Ty P t e z K.size bytes) (hgd : o.guard = none) (s x : Operand)
    (ho : o.op = .call { callee := .builtin .append, args := #[s, x], argTypes := #[t, t] })
    {B : Nat} {v : Value} {xs : List α} (hs : a.eval s = v) (hown : Ow K e B w v xs) (y : α) {cs : Array Value} (hcs : K.cells y = cs.toList)
    (hx : a.eval x = .slice (some ⟨w.heap.size, 0, none⟩) 1 1)
    (hbytes : (xs.length + 1) * bytes ≤ 140737488355328) (hbase : B ≤ w.heap.size)
    (h : ∀ v' w', Ow K e B w' v' (xs ++ [y]) → (w.alloc (.cells cs e)).grownBy w' v.ownBlock → Below B w w' → (v'.ownBlock = v.ownBlock ∨ v'.ownBlock = some (w.heap.size + 1)) → KK (a.put o.dst v') w') :
    if Region.wanted o (yielded ops a.tmps) = true then Oper.wp P o a (w.alloc (.cells cs e)) KK Q else E := by
  have hw : Region.wanted o (yielded ops a.tmps) = true := by simp [Region.wanted, hgd]
  rw [if_pos hw]
  have hr : Rd (w.alloc (.cells cs e)) (some ⟨w.heap.size, 0, none⟩) (flat K [y]) := by
    refine .inr ⟨w.heap.size, 0, rfl, by simp, fun k u hu => ?_⟩
    rw [flat_cons, flat_nil, List.append_nil, hcs] at hu
    have := cell_of_row (w.alloc (.cells cs e)) w.heap.size k cs e (0, 0) (heap_alloc_new w _)
    rw [Nat.zero_add, this]
    simpa using hu
  refine wp_any (w.alloc (.cells cs e)) T s x ho hs (hown.alloc _) hx rfl hr hbytes (by simp; omega) fun v' w' h1 h2 h3 h4 => ?_
  exact h v' w' h1 h2 (((Below.refl _ _).alloc hbase _).trans h3) (by simpa using h4)
end
theorem ty_intss : Ty Try.prog 168 31 (.slice none 0 0) 1 24 := Ty.mk' Try.underlying168 (by kernel_rfl) rfl (by decide)
set_option maxRecDepth 100000 in
theorem impl_bounded_1 (n k : Int) (A0 A1 B0 B1 : Option Addr) (a0 b0 c0 c1 d0 d1 : Nat) (us ts : List Nat) (x y p q : Nat) (w : World) (hp : Blk w p 77 #[.int .i64 n, .slice A0 a0 c0, .slice A1 6 c1]) (hq : Blk w q 77 #[.int .i64 k, .slice B0 b0 d0, .slice B1 6 d1])
    (h : Sl cI w (.slice A1 6 c1) (li us)) (h' : Sl cI w (.slice B1 6 d1) (li ts)) (hl : us.length = 6) (hl' : ts.length = 6) (hb : ∀ i, us.getD i 0 < 256) (hb' : ∀ i, ts.getD i 0 < 256) (hx : x ≤ 60) (hy : y ≤ 60) :
    Calls Try.prog 276 #[.int .i64 x, .int .i64 y, .pointer (some ⟨p, 0, none⟩), .pointer (some ⟨q, 0, none⟩)] w fun e w' => e = .returned (.bool (atm us ts x y)) ∧ Below w.heap.size w w' := by
  have EA := Lib.hid (atm_tru us ts x y)
  have HT1 := Lib.hid (fun W (hW : Below w.heap.size w W) => impl_truths n A0 a0 c0 _ us x W (h.below hW) hl hb hx)
  have HT2 := Lib.hid (fun W (hW : Below w.heap.size w W) => impl_truths k B0 b0 d0 _ ts y W (h'.below hW) hl' hb' hy)
  have d0_ : w.cell? ⟨p, 0, none⟩ = some (.int .i64 n) := hp.cell 0
  have d1_ : w.cell? ⟨p, 1, none⟩ = some (.slice A0 a0 c0) := hp.cell 1
  have d2_ : w.cell? ⟨p, 2, none⟩ = some (.slice A1 6 c1) := hp.cell 2
  have e0_ : w.cell? ⟨q, 0, none⟩ = some (.int .i64 k) := hq.cell 0
  have e1_ : w.cell? ⟨q, 1, none⟩ = some (.slice B0 b0 d0) := hq.cell 1
  have e2_ : w.cell? ⟨q, 2, none⟩ = some (.slice B1 6 d1) := hq.cell 2
  have lp := hp.lt
  have lq := hq.lt
  clear h h' hl hl' hb hb' hp hq
  generalize tru us x = r at *
  generalize tru ts y = s at *
  go_enter Try.func276, Try.ntmps276
  go_wp2
  go_region_held3 (fun w' => w'.cell? ⟨p, 0, none⟩ = some (.int .i64 n) ∧ w'.cell? ⟨p, 1, none⟩ = some (.slice A0 a0 c0) ∧ w'.cell? ⟨p, 2, none⟩ = some (.slice A1 6 c1) ∧ w'.cell? ⟨q, 0, none⟩ = some (.int .i64 k) ∧ w'.cell? ⟨q, 1, none⟩ = some (.slice B0 b0 d0) ∧ w'.cell? ⟨q, 2, none⟩ = some (.slice B1 6 d1)) (first | exact ⟨f0', f1', f2', g0', g1', g2'⟩ | exact ⟨f0, f1, f2, g0, g1, g2⟩ | exact ⟨d0_, d1_, d2_, e0_, e1_, e2_⟩ | (simp [*]; done)) (first | (go_at_call 277; (with_reducible refine (HT1.out _ ?hh).mono ?_); (case hh => exact below_drewN (Below.refl _ _) 1); rintro e w2 ⟨rfl, hb2⟩; have hb3 : Below w.heap.size w w2 := (below_drewN (Below.refl _ _) 1).trans hb2; have f0 := (hb3.cell (p := ⟨p, 0, none⟩) lp).trans d0_; have f1 := (hb3.cell (p := ⟨p, 1, none⟩) lp).trans d1_; have f2 := (hb3.cell (p := ⟨p, 2, none⟩) lp).trans d2_; have g0 := (hb3.cell (p := ⟨q, 0, none⟩) lq).trans e0_; have g1 := (hb3.cell (p := ⟨q, 1, none⟩) lq).trans e1_; have g2 := (hb3.cell (p := ⟨q, 2, none⟩) lq).trans e2_) | (go_at_call 277; (with_reducible refine (HT2.out _ ?hh).mono ?_); (case hh => exact hb3); rintro e w3 ⟨rfl, hb4⟩; have hb5 : Below w.heap.size w w3 := bthen hb3 hb4; have f0' := (hb5.cell (p := ⟨p, 0, none⟩) lp).trans d0_; have f1' := (hb5.cell (p := ⟨p, 1, none⟩) lp).trans d1_; have f2' := (hb5.cell (p := ⟨p, 2, none⟩) lp).trans d2_; have g0' := (hb5.cell (p := ⟨q, 0, none⟩) lq).trans e0_; have g1' := (hb5.cell (p := ⟨q, 1, none⟩) lq).trans e1_; have g2' := (hb5.cell (p := ⟨q, 2, none⟩) lq).trans e2_))
  all_goals
    have HB := Lib.hid hb5
    have hd : Hid (((r : Int) == (s : Int)) = decide (r = s)) := Lib.hid (by rw [Bool.eq_iff_iff, beq_iff_eq, decide_eq_true_eq]; omega)
    clear f0 f1 f2 g0 g1 g2 f0' f1' f2' g0' g1' g2' hb2 hb3 hb4 hb5 d0_ d1_ d2_ e0_ e1_ e2_
    go_wp2
    go_ret
    exact ⟨by rw [EA.out, ← hd.out]; rfl, HB.out⟩
theorem en_bounded_1 : ∀ (args : Array Value) (w : World), (callFunc 276 args).run Try.prog w = .ok (.enter 276 args) w := enters Try.func276 (by kernel_rfl) (by kernel_rfl)
theorem en_bounded_2 : ∀ (args : Array Value) (w : World), (callFunc 278 args).run Try.prog w = .ok (.enter 278 args) w := enters Try.func278 (by kernel_rfl) (by kernel_rfl)
set_option maxRecDepth 100000 in
theorem impl_bounded_2 (ns us ks ts lk : List Nat) (A0 A1 B0 B1 C0 C1 : Option Addr) (c0 c1 d0 d1 e0 e1 L C : Nat) (x y p q r l g : Nat) (w : World)
    (hp : Blk w p 77 #[.int .i64 ns.length, .slice A0 ns.length c0, .slice A1 6 c1]) (hq : Blk w q 77 #[.int .i64 ks.length, .slice B0 ks.length d0, .slice B1 6 d1])
    (hr : w.cell? ⟨r, 0, none⟩ = some (.slice (some ⟨g, 0, none⟩) L C)) (hL : 0 < L) (hg : w.cell? ⟨g, 0, none⟩ = some (.slice C0 ns.length e0)) (h0 : Sl cI w (.slice C0 ns.length e0) (li (lnk ns.length ks.length (atm us ts))))
    (hlc : w.cell? ⟨l, 0, none⟩ = some (.slice C1 ns.length e1)) (h1 : Sl cI w (.slice C1 ns.length e1) (li lk)) (hrl : r < w.heap.size) (hll : l < w.heap.size)
    (ha : Sl cI w (.slice A0 ns.length c0) (li ns)) (hb : Sl cI w (.slice B0 ks.length d0) (li ks)) (hm : RelN ns) (hm2 : RelN ks) (hl : lk.length = ns.length) (hlt : ∀ x ∈ lk, x < 2 ^ 8) (hx : x < ns.length) (hy : y < ks.length) :
    Calls Try.prog 278 #[.int .i64 x, .int .i64 y, .pointer (some ⟨r, 0, none⟩), .pointer (some ⟨p, 0, none⟩), .pointer (some ⟨q, 0, none⟩), .pointer (some ⟨l, 0, none⟩)] w fun e w' => e = .returned (.bool (hol ns us ks ts lk x y)) ∧ Below w.heap.size w w' := by
  have h8 := hm.1
  have hk8 := hm2.1
  have HF := Lib.hid (fun W (hW : Below w.heap.size w W) => impl_forth ns us ks ts lk A0 A1 B0 B1 c0 c1 d0 d1 _ x y W (ha.below hW) (hb.below hW) (h1.below hW) hm hm2 hl hlt hx hy)
  have HG := Lib.hid (fun W (hW : Below w.heap.size w W) => impl_back ns us ks ts lk A0 A1 B0 B1 c0 c1 d0 d1 _ x y W (ha.below hW) (hb.below hW) (h1.below hW) hm hm2 hl hlt hx hy)
  have HLL := Lib.hid (show (li (lnk ns.length ks.length (atm us ts))).length = ns.length by rw [li_length, lnk_length])
  have hx' : x < (li (lnk ns.length ks.length (atm us ts))).length := by rw [HLL.out]; exact hx
  obtain ⟨b, o, rfl, hbl, hc0⟩ := h0.atI hx'
  rw [li_get, lnk_getD _ hx] at hc0
  have EB : Hid ((msk (atm us ts x) ks.length).testBit y = atm us ts x y) := Lib.hid (by rw [msk_testBit, decide_eq_true hy, Bool.true_and])
  have EH : Hid (hol ns us ks ts lk x y = (atm us ts x y && (frt lk (ns.getD x 0) (ks.getD y 0) && bck lk (ns.getD x 0) (ks.getD y 0)))) := Lib.hid rfl
  have hmb := msk_bound (atm us ts x) (Nat.le_refl ks.length) hk8
  generalize msk (atm us ts x) ks.length = m at *
  generalize hol ns us ks ts lk x y = res at *
  generalize frt lk (ns.getD x 0) (ks.getD y 0) = f2 at *
  generalize bck lk (ns.getD x 0) (ks.getD y 0) = f3 at *
  have HP := Lib.hid hp
  have HQ := Lib.hid hq
  have HL1 := Lib.hid (fun W (hW : Below w.heap.size w W) => (hW.cell (p := ⟨l, 0, none⟩) hll).trans hlc)
  have k1 := hp.cell
  have k2 := hq.cell
  have l1 := hp.lt
  have l2 := hq.lt
  clear hx' h0 h1 ha hb hm hm2 hlt hl hp hq
  have i1 : (0 : Int) < (L : Int) := by omega
  go_enter Try.func278, Try.ntmps278
  go_wp2_with fail
  refine (impl_has m y _ (by omega) (by omega)).mono ?_
  rintro e w1 ⟨rfl, rfl⟩
  rw [EB.out]
  cases h1 : atm us ts x y
  · rw [h1, Bool.false_and] at EH
    clear h1
    go_wp2
    go_ret
    exact ⟨by rw [EH.out]; rfl, Below.refl _ _⟩
  · rw [h1, Bool.true_and] at EH
    clear h1
    go_wp2_with fail
    refine (HF.out _ (Below.refl _ _)).mono ?_
    rintro e w1 ⟨rfl, hb⟩
    have HB1 := Lib.hid hb
    have k1 := (HP.out.below hb l1).cell
    have k2 := (HQ.out.below hb l2).cell
    have k3 := HL1.out _ hb
    clear hb hr hg hlc hc0
    cases f2
    · rw [Bool.false_and] at EH
      go_wp2
      go_ret
      exact ⟨by rw [EH.out]; rfl, HB1.out⟩
    · rw [Bool.true_and] at EH
      go_wp2_with fail
      refine (HG.out _ HB1.out).mono ?_
      rintro e w2 ⟨rfl, hb⟩
      have HB2 := Lib.hid (bthen HB1.out hb)
      clear hb k1 k2 k3
      go_wp2
      go_ret
      exact ⟨by rw [EH.out]; rfl, HB2.out⟩
end Go.Proofs.Ytbejakkcdbhmaaa
