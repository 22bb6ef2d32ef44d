/- Contracts of chapter 7, of the program: what tells worlds apart: its code, rounds. -/
import Derived.Test.YtnolbgdbboiehaaGreatM07T
import Derived.Test.YtnolbgdbboiehaaGreatHI
import Derived.Test.YtnolbgdbboiehaaGreatSch
import Derived.StillTailTactics
namespace Go.Proofs.YtnolbgdbboiehaaGreat
open Go.RowKit
set_option linter.unusedVariables false
set_option linter.unusedSimpArgs false
theorem impl_hasWorld7 (n x : Int) (va : Value) (A : Option Addr) (m c : Nat) (hv : va = .slice A m c) (w : World) (hn : 0 ≤ n ∧ n ≤ 8) :
    Calls Tryz.prog 65 #[.agg #[.int .i64 n, va], .int .i64 x] w fun e w' => e = .returned (.bool (inR x 0 (n - 1))) ∧ Below w.heap.size w w' := by
  subst hv
  have hb0 := below_alloc' w (.cells #[.int .i64 n, .slice A m c] 26)
  have hk0 := Blk.new w 26 #[.int .i64 n, .slice A m c]
  have HB := Lib.hid hb0
  have HK0 := Lib.hid hk0
  have hw1 : IntKind.i64.wrap (n - 1) = n - 1 := IntWalk.i64_in _ ⟨by omega, by omega⟩
  have hw2 : wrap64 (n - 1) = n - 1 := IntWalk.wrap64_in _ ⟨by omega, by omega⟩
  clear hb0 hk0
  go_enter Tryz.func65, Tryz.ntmps65
  go_upto_region 1 with fail
  generalize World.alloc w _ = W at *
  have k0 : W.cell? ⟨w.heap.size, 0, none⟩ = some (.int .i64 n) := HK0.out.cell 0
  have l0 := HK0.out.lt
  go_wp2_with fail
  refine (impl_inRange _ _ _ _).mono ?_
  rintro e w1 ⟨rfl, rfl⟩
  go_wp2
  go_ret
  exact ⟨rfl, HB.out⟩
/-- the code of two worlds of two models -/
def tcode (n : Int) (xs vs : List Int) (x : Int) (k : Int) (ys ts : List Int) (y : Int) : Int := if mdOk n xs vs && mdOk k ys ts then (if inR x 0 (n - 1) && inR y 0 (k - 1) then 0 else 2) else 1
set_option maxRecDepth 100000 in
theorem impl_tellingCode (n x k y : Int) (va vu vb vt : Value) (xs vs ys ts : List Int) (w : World) (ha : Sl cI w va xs) (hu : Sl cI w vu vs) (hb : Sl cI w vb ys) (ht : Sl cI w vt ts) (hl : xs.length + vs.length ≤ 1048576) (hl' : ys.length + ts.length ≤ 1048576) :
    Calls Tryz.prog 56 #[.agg #[.int .i64 n, va, vu], .int .i64 x, .agg #[.int .i64 k, vb, vt], .int .i64 y] w fun e w' => e = .returned (.int .i64 (tcode n xs vs x k ys ts y)) ∧ Below w.heap.size w w' := by
  obtain ⟨A0, c0, rfl⟩ := ha.opn
  obtain ⟨A1, c1, rfl⟩ := hu.opn
  obtain ⟨B0, d0, rfl⟩ := hb.opn
  obtain ⟨B1, d1, rfl⟩ := ht.opn
  have hb0 := below_alloc' w (.cells #[.int .i64 n, .slice A0 xs.length c0, .slice A1 vs.length c1] 28)
  have hk0 := Blk.new w 28 #[.int .i64 n, .slice A0 xs.length c0, .slice A1 vs.length c1]
  have hb1 := below_alloc' (w.alloc (.cells #[.int .i64 n, .slice A0 xs.length c0, .slice A1 vs.length c1] 28)) (.cells #[.int .i64 k, .slice B0 ys.length d0, .slice B1 ts.length d1] 28)
  have hk1 : Blk _ (w.heap.size + 1) _ _ := Blk.new' (w.alloc (.cells #[.int .i64 n, .slice A0 xs.length c0, .slice A1 vs.length c1] 28)) 28 #[.int .i64 k, .slice B0 ys.length d0, .slice B1 ts.length d1] (by simp)
  have hbb := bthen hb0 hb1
  have HB := Lib.hid hbb
  have HK0 := Lib.hid (hk0.below hb1 hk0.lt)
  have HK1 := Lib.hid hk1
  have M1 := Lib.hid (fun W (hW : Below w.heap.size w W) => impl_isModel n _ _ xs vs W (ha.below hW) (hu.below hW) (by omega) (by omega))
  have M2 := Lib.hid (fun W (hW : Below w.heap.size w W) => impl_isModel k _ _ ys ts W (hb.below hW) (ht.below hW) (by omega) (by omega))
  have HT : Hid (tcode n xs vs x k ys ts y = if mdOk n xs vs && mdOk k ys ts then (if inR x 0 (n - 1) && inR y 0 (k - 1) then 0 else 2) else 1) := Lib.hid rfl
  have HN : Hid (mdOk n xs vs = true → 0 ≤ n ∧ n ≤ 8) := Lib.hid fun h => by obtain ⟨ns, us, -, -, rfl, hr, -⟩ := mdOk_iff h; have := hr.1; omega
  have HN2 : Hid (mdOk k ys ts = true → 0 ≤ k ∧ k ≤ 8) := Lib.hid fun h => by obtain ⟨ns, us, -, -, rfl, hr, -⟩ := mdOk_iff h; have := hr.1; omega
  clear hb0 hb1 hk0 hk1 hbb ha hu hb ht
  obtain ⟨q1, hq1⟩ : ∃ q, mdOk n xs vs = q := ⟨_, rfl⟩
  obtain ⟨q2, hq2⟩ : ∃ q, mdOk k ys ts = q := ⟨_, rfl⟩
  rw [hq1] at M1 HT HN
  rw [hq2] at M2 HT HN2
  clear hq1 hq2
  go_enter Tryz.func56, Tryz.ntmps56
  go_upto_region 1 with fail
  generalize World.alloc (w.alloc _) _ = W at *
  have k0 := HK0.out.cell
  have k1 := HK1.out.cell
  have l0 := HK0.out.lt
  have l1 := HK1.out.lt
  go_wp2_with fail
  refine (M1.out _ HB.out).mono ?_
  rintro e w1 ⟨rfl, hb⟩
  have HB1 := Lib.hid (bthen HB.out hb)
  have HK2 := Lib.hid (HK0.out.below hb HK0.out.lt)
  have HK3 := Lib.hid (HK1.out.below hb HK1.out.lt)
  clear hb k0 k1 l0 l1
  cases q1
  · go_wp2
    go_ret
    exact ⟨by rw [HT.out]; rfl, HB1.out⟩
  have k0 := HK2.out.cell
  have k1 := HK3.out.cell
  have l0 := HK2.out.lt
  have l1 := HK3.out.lt
  go_wp2_with fail
  refine (M2.out _ HB1.out).mono ?_
  rintro e w2 ⟨rfl, hb⟩
  have HB2 := Lib.hid (bthen HB1.out hb)
  have HK4 := Lib.hid (HK2.out.below hb HK2.out.lt)
  have HK5 := Lib.hid (HK3.out.below hb HK3.out.lt)
  clear hb k0 k1 l0 l1
  cases q2
  · go_wp2
    go_ret
    exact ⟨by rw [HT.out]; rfl, HB2.out⟩
  have k0 := HK4.out.cell
  have k1 := HK5.out.cell
  have l0 := HK4.out.lt
  have l1 := HK5.out.lt
  have W1 := Lib.hid (fun W => impl_hasWorld7 n x _ A0 xs.length c0 rfl W (HN.out (by trivial)))
  have W2 := Lib.hid (fun W => impl_hasWorld7 k y _ B0 ys.length d0 rfl W (HN2.out (by trivial)))
  have HT2 : Hid (tcode n xs vs x k ys ts y = if inR x 0 (n - 1) && inR y 0 (k - 1) then 0 else 2) := Lib.hid (by rw [HT.out]; rfl)
  obtain ⟨q1, hq1⟩ : ∃ q, inR x 0 (n - 1) = q := ⟨_, rfl⟩
  obtain ⟨q2, hq2⟩ : ∃ q, inR y 0 (k - 1) = q := ⟨_, rfl⟩
  rw [hq1] at W1 HT2
  rw [hq2] at W2 HT2
  clear hq1 hq2 HT
  go_wp2_with fail
  refine (W1.out _).mono ?_
  rintro e w3 ⟨rfl, hb⟩
  have HB3 := Lib.hid (bthen HB2.out hb)
  have HK6 := Lib.hid (HK5.out.below hb HK5.out.lt)
  clear hb k0 k1 l0 l1
  cases q1
  · go_wp2
    go_ret
    exact ⟨by rw [HT2.out]; rfl, HB3.out⟩
  have k1 := HK6.out.cell
  have l1 := HK6.out.lt
  go_wp2_with fail
  refine (W2.out _).mono ?_
  rintro e w4 ⟨rfl, hb⟩
  have HB4 := Lib.hid (bthen HB3.out hb)
  clear hb k1 l1
  cases q2
  all_goals
    go_wp2
    go_ret
    exact ⟨by rw [HT2.out]; rfl, HB4.out⟩
/-- what tells two models apart, in block p -/
structure Tl (w : World) (p : Nat) (ns us ks ts : List Nat) (A0 A1 B0 B1 L : Option Addr) (c0 c1 d0 d1 lc : Nat) : Prop where
  blk : Blk w p 119 #[.int .i64 ns.length, .slice A0 ns.length c0, .slice A1 6 c1, .int .i64 ks.length, .slice B0 ks.length d0, .slice B1 6 d1, .slice L 17 lc]
  m : Mdl w (.slice A0 ns.length c0) (.slice A1 6 c1) ns us
  n : Mdl w (.slice B0 ks.length d0) (.slice B1 6 d1) ks ts
  l : Sl2 cI w (.slice L 17 lc) (bdL ns us ks ts 16)
theorem Tl.below {w w' : World} {p : Nat} {ns us ks ts : List Nat} {A0 A1 B0 B1 L : Option Addr} {c0 c1 d0 d1 lc : Nat} (h : Tl w p ns us ks ts A0 A1 B0 B1 L c0 c1 d0 d1 lc) (hb : Below w.heap.size w w') : Tl w' p ns us ks ts A0 A1 B0 B1 L c0 c1 d0 d1 lc :=
  ⟨h.blk.below hb h.blk.lt, h.m.below hb, h.n.below hb, h.l.below hb⟩
set_option maxRecDepth 100000 in
theorem impl_newTeller (ns us ks ts : List Nat) (A0 A1 B0 B1 : Option Addr) (c0 c1 d0 d1 : Nat) (w : World) (hm : Mdl w (.slice A0 ns.length c0) (.slice A1 6 c1) ns us) (hm2 : Mdl w (.slice B0 ks.length d0) (.slice B1 6 d1) ks ts) (h1 : MdN ns us) (h2 : MdN ks ts) :
    Calls Tryz.prog 57 #[.agg #[.int .i64 ns.length, .slice A0 ns.length c0, .slice A1 6 c1], .agg #[.int .i64 ks.length, .slice B0 ks.length d0, .slice B1 6 d1]] w
      fun e w' => ∃ p L lc, e = .returned (.pointer (some ⟨p, 0, none⟩)) ∧ Tl w' p ns us ks ts A0 A1 B0 B1 L c0 c1 d0 d1 lc ∧ Below w.heap.size w w' := by
  have hb0 := below_alloc' w (.cells #[.int .i64 ns.length, .slice A0 ns.length c0, .slice A1 6 c1] 28)
  have hk0 := Blk.new w 28 #[.int .i64 ns.length, .slice A0 ns.length c0, .slice A1 6 c1]
  have hb1 := below_alloc' (w.alloc (.cells #[.int .i64 ns.length, .slice A0 ns.length c0, .slice A1 6 c1] 28)) (.cells #[.int .i64 ks.length, .slice B0 ks.length d0, .slice B1 6 d1] 28)
  have hk1 : Blk _ (w.heap.size + 1) _ _ := Blk.new' (w.alloc (.cells #[.int .i64 ns.length, .slice A0 ns.length c0, .slice A1 6 c1] 28)) 28 #[.int .i64 ks.length, .slice B0 ks.length d0, .slice B1 6 d1] (by simp)
  have HB := Lib.hid (bthen hb0 hb1)
  have HK0 := Lib.hid (hk0.below hb1 hk0.lt)
  have HK1 := Lib.hid hk1
  have HM := Lib.hid ((hm.below hb0).below hb1)
  have HM2 := Lib.hid ((hm2.below hb0).below hb1)
  have HN1 := Lib.hid h1
  have HN2 := Lib.hid h2
  clear hb0 hb1 hk0 hk1 hm hm2 h1 h2
  go_enter Tryz.func57, Tryz.ntmps57
  go_upto_region 1 with fail
  generalize World.alloc (w.alloc _) _ = W at *
  have HC := Lib.hid (fun X (hX : Below W.heap.size W X) => impl_bounded ns us ks ts 16 A0 A1 B0 B1 c0 c1 d0 d1 X (by omega) (HM.out.below hX) (HM2.out.below hX) HN1.out HN2.out)
  have k0 : W.cell? ⟨w.heap.size, 0, none⟩ = some (.int .i64 ns.length) := HK0.out.cell 0
  have k1 : W.cell? ⟨w.heap.size, 1, none⟩ = some (.slice A0 ns.length c0) := HK0.out.cell 1
  have k2 : W.cell? ⟨w.heap.size, 2, none⟩ = some (.slice A1 6 c1) := HK0.out.cell 2
  have j0 : W.cell? ⟨w.heap.size + 1, 0, none⟩ = some (.int .i64 ks.length) := HK1.out.cell 0
  have j1 : W.cell? ⟨w.heap.size + 1, 1, none⟩ = some (.slice B0 ks.length d0) := HK1.out.cell 1
  have j2 : W.cell? ⟨w.heap.size + 1, 2, none⟩ = some (.slice B1 6 d1) := HK1.out.cell 2
  have l0 := HK0.out.lt
  have l1 := HK1.out.lt
  refine wp_region_sched (Below W.heap.size W) 5 [0, 1, 2, 3] [0, 1, 2, 3, 4] (by kernel_rfl) (by kernel_rfl) (Below.refl _ _).drew ?_
  repeat
    apply wpSched_q rfl rfl
    case h =>
      intro w' hI K hK
      have k0' := (hI.cell (p := ⟨w.heap.size, 0, none⟩) l0).trans k0
      have k1' := (hI.cell (p := ⟨w.heap.size, 1, none⟩) l0).trans k1
      have k2' := (hI.cell (p := ⟨w.heap.size, 2, none⟩) l0).trans k2
      have j0' := (hI.cell (p := ⟨w.heap.size + 1, 0, none⟩) l1).trans j0
      have j1' := (hI.cell (p := ⟨w.heap.size + 1, 1, none⟩) l1).trans j1
      have j2' := (hI.cell (p := ⟨w.heap.size + 1, 2, none⟩) l1).trans j2
      simp only [quietV, stillV]
      go_simp
      exact hK
    go_simp
  refine wpSched_r rfl rfl ?_ (Below.refl _ _).drew
  intro K hK hI
  go_simp
  refine (HC.out _ hI).mono ?_
  rintro e w1 ⟨v, rfl, hs, hb⟩
  have hb2 := hI.trans (hb.mono hI.size)
  refine hK _ _ hb2 ?_
  clear hK K hb
  refine wpSched_nil ?_
  try simp only [List.drop_succ_cons, List.drop_zero, List.drop_nil]
  obtain ⟨L, lc, rfl⟩ := hs.opn
  rw [bdL_length, show 16 + 1 = 17 from rfl] at hs ⊢
  have HS := Lib.hid hs
  have HB2 := Lib.hid hb2
  clear hb2 hs k0 k1 k2 j0 j1 j2
  have HBL := Lib.hid (Blk.new w1 119 #[.int .i64 ns.length, .slice A0 ns.length c0, .slice A1 6 c1, .int .i64 ks.length, .slice B0 ks.length d0, .slice B1 6 d1, .slice L 17 lc])
  have HBA := Lib.hid (below_alloc' w1 (.cells #[.int .i64 ns.length, .slice A0 ns.length c0, .slice A1 6 c1, .int .i64 ks.length, .slice B0 ks.length d0, .slice B1 6 d1, .slice L 17 lc] 119))
  go_wp2
  go_ret
  exact ⟨_, _, _, rfl, ⟨HBL.out, (HM.out.below HB2.out).below HBA.out, (HM2.out.below HB2.out).below HBA.out, HS.out.below HBA.out⟩, bthen (bthen HB.out HB2.out) HBA.out⟩
theorem slices_IndexFunc_intss (v : Value) (xss : List (List Int)) (k : FuncId) (cap : Array Value) (p : Nat → Bool) (w : World) (h : Sl2 cI w v xss) (hl : xss.length ≤ 1073741824)
    (hk : ∀ (args : Array Value) (w : World), (callFunc k args).run Tryz.prog w = .ok (.enter k args) w)
    (hf : ∀ w', Below w.heap.size w w' → ∀ (u : Value) (i : Nat) (hi : i < xss.length), Sl cI w' u xss[i] → Calls Tryz.prog k (#[u] ++ cap) w' fun e w'' => e = .returned (.bool (p i)) ∧ Below w'.heap.size w' w'') :
    Calls Tryz.prog 116 #[v, .func (.func k) #[] cap] w fun e w' => e = .returned (.int .i64 (fidx p xss.length)) ∧ Below w.heap.size w w' := by
  obtain ⟨A, c, rfl⟩ := h.opn
  have HF := Lib.hid hf; clear hf
  go_enter Tryz.func116, Tryz.ntmps116
  go_wp2
  go_loopw [8] (fun i wr => ∃ j : Nat, j ≤ xss.length ∧ i = .int .i64 j ∧ (∀ i < j, p i = false) ∧ Below w.heap.size w wr) (fun i _ => xss.length - (intOf i).toNat)
  case atStart => exact ⟨0, Nat.zero_le _, rfl, fun i hi => by omega, Below.refl _ _⟩
  case round =>
    obtain ⟨j, hj, rfl, hh, hb⟩ := hrel
    have Hh := Lib.hid hh; clear hh
    by_cases hlt : j < xss.length
    · obtain ⟨b, o, Ai, ni, ci, rfl, hbl, hc0, hs⟩ := (h.below hb).at_ hlt
      have HS := Lib.hid hs; clear hs
      go_wp2_with fail
      refine (HF.out wr hb _ j hlt HS.out).mono ?_
      rintro e w1 ⟨rfl, hb1⟩
      have HB : Hid (Below w.heap.size w w1) := Lib.hid (hb.trans (hb1.mono hb.size))
      clear hb1 hb
      by_cases hp : p j = true
      · have HE := Lib.hid (fidx_some hlt Hh.out hp)
        rw [hp]
        have HP := Lib.hid hp; clear hp
        go_wp2
        go_ret
        exact ⟨by rw [HE.out]; rfl, HB.out⟩
      · rw [Bool.not_eq_true] at hp
        rw [hp]
        have HP := Lib.hid hp; clear hp
        go_wp2
        go_roundw
        case rel => exact ⟨j + 1, by omega, by go_num, fun i hi => (Nat.lt_or_ge i j).elim (fun h => Hh.out i h) (fun h => (show i = j by omega) ▸ HP.out), HB.out⟩
        case measure => simp [intOf]; omega
    · have HE : Hid (fidx p xss.length = -1) := Lib.hid (fidx_none fun i hi => Hh.out i (by omega))
      have HB := Lib.hid hb; clear hb
      go_wp2
      go_ret
      exact ⟨by rw [HE.out]; rfl, HB.out⟩
/-- a place as a number -/
def oI : Option Nat → Int
  | some s => s
  | none => -1
/-- the rounds as a number -/
def rdI (ns us ks ts : List Nat) (x y : Nat) : Int := match rd ns us ks ts x y with
  | some k => k
  | none => -1
theorem rd_fidx (ns us ks ts : List Nat) (x y : Nat) : fidx (fun k => !((bnd ns us ks ts k).getD x 0).testBit y) 17 = rdI ns us ks ts x y := by
  unfold rdI
  cases h : rd ns us ks ts x y with
  | none =>
    unfold rd at h
    exact fidx_none fun i hi => by
      have := List.find?_eq_none.1 h i (List.mem_range.2 hi)
      rwa [Bool.not_eq_true] at this
  | some k =>
    obtain ⟨h1, h2, h3⟩ := rd_spec h
    exact fidx_some h1 (fun i hi => by rw [h3 i hi]; rfl) (by rw [h2]; rfl)
theorem q_has7 {m i : Nat} (hm : m < 9223372036854775808) (hi : i ≤ 63) (W : World) (n : Nat) :
    Calls Tryz.prog 66 #[.int .i64 m, .int .i64 i] (W.drewN n) fun e w' => e = .returned (.bool (m.testBit i)) ∧ ∃ k, w' = W.drewN k :=
  (impl_has m i _ hm hi).mono fun e w' ⟨he, hw⟩ => ⟨he, n, hw.symm⟩
theorem en_rounds_1 : ∀ (args : Array Value) (w : World), (callFunc 117 args).run Tryz.prog w = .ok (.enter 117 args) w := enters Tryz.func117 (by kernel_rfl) (by kernel_rfl)
theorem impl_rounds_1 (v : Value) (lk : List Nat) (x y P Q : Nat) (w : World) (h : Sl cI w v (li lk)) (hx : x < lk.length) (hl : ∀ i, lk.getD i 0 < 256) (hy : y ≤ 60) (hP : w.cell? ⟨P, 0, none⟩ = some (.int .i64 x)) (hQ : w.cell? ⟨Q, 0, none⟩ = some (.int .i64 y)) (lP : P < w.heap.size) (lQ : Q < w.heap.size) :
    Calls Tryz.prog 117 #[v, .pointer (some ⟨P, 0, none⟩), .pointer (some ⟨Q, 0, none⟩)] w fun e w' => e = .returned (.bool (!(lk.getD x 0).testBit y)) ∧ Below w.heap.size w w' := by
  obtain ⟨A, c, rfl⟩ := h.opn
  obtain ⟨b, o, rfl, hbl, hc0⟩ := h.atI (k := x) (by rw [li_length]; exact hx)
  rw [li_get] at hc0
  have HC := Lib.hid (fun n => q_has7 (m := lk.getD x 0) (i := y) (by have := hl x; omega) (by omega) w n)
  rw [li_length] at *
  generalize lk.getD x 0 = q at *
  clear h hl
  go_enter Tryz.func117, Tryz.ntmps117
  go_wp2
  go_quiet ((go_at_call 66; exact HC.out _))
  go_wp2
  go_ret
  exact ⟨rfl, below_drewN (Below.refl _ _) _⟩
theorem bnd_256 {ns us ks ts : List Nat} (h : ks.length ≤ 8) (k i : Nat) : (bnd ns us ks ts k).getD i 0 < 256 := Nat.lt_of_lt_of_le (getD_lt (bnd_lt ns us ks ts k) i) (two_pow_256 h)
set_option maxRecDepth 100000 in
theorem impl_rounds (p : Nat) (ns us ks ts : List Nat) (A0 A1 B0 B1 L : Option Addr) (c0 c1 d0 d1 lc : Nat) (x y : Nat) (w : World) (h : Tl w p ns us ks ts A0 A1 B0 B1 L c0 c1 d0 d1 lc) (h1 : MdN ns us) (h2 : MdN ks ts) (hx : x < ns.length) (hy : y < ks.length) :
    Calls Tryz.prog 58 #[.pointer (some ⟨p, 0, none⟩), .int .i64 x, .int .i64 y] w fun e w' => e = .returned (.int .i64 (rdI ns us ks ts x y)) ∧ Below w.heap.size w w' := by
  have h8 := h1.r.1
  have hk8 := h2.r.1
  have hb0 := below_alloc' w (.cells #[.int .i64 x] 2)
  have hk0 := Blk.new w 2 #[.int .i64 x]
  have hb1 := below_alloc' (w.alloc (.cells #[.int .i64 x] 2)) (.cells #[.int .i64 y] 2)
  have hk1 : Blk _ (w.heap.size + 1) _ _ := Blk.new' (w.alloc (.cells #[.int .i64 x] 2)) 2 #[.int .i64 y] (by simp)
  have HB := Lib.hid (bthen hb0 hb1)
  have HK0 := Lib.hid (hk0.below hb1 hk0.lt)
  have HK1 := Lib.hid hk1
  have HT := Lib.hid ((h.below hb0).below hb1)
  have HR := Lib.hid (rd_fidx ns us ks ts x y)
  clear hb0 hb1 hk0 hk1 h h1 h2
  go_enter Tryz.func58, Tryz.ntmps58
  go_upto_region 1 with fail
  generalize World.alloc (w.alloc _) _ = W at *
  have HI := Lib.hid (slices_IndexFunc_intss _ _ 117 #[.pointer (some ⟨w.heap.size, 0, none⟩), .pointer (some ⟨w.heap.size + 1, 0, none⟩)] (fun k => !((bnd ns us ks ts k).getD x 0).testBit y) W HT.out.l (by rw [bdL_length]; omega) en_rounds_1 (fun w' hb u i hi hs => by
    rw [bdL_get] at hs
    exact impl_rounds_1 u _ x y w.heap.size (w.heap.size + 1) w' hs (by rw [bnd_length]; exact hx) (bnd_256 hk8 i) (by omega) ((hb.cell (p := ⟨w.heap.size, 0, none⟩) HK0.out.lt).trans (HK0.out.cell 0)) ((hb.cell (p := ⟨w.heap.size + 1, 0, none⟩) HK1.out.lt).trans (HK1.out.cell 0)) (Nat.lt_of_lt_of_le HK0.out.lt hb.size) (Nat.lt_of_lt_of_le HK1.out.lt hb.size)))
  rw [bdL_length, show 16 + 1 = 17 from rfl, HR.out] at HI
  have k6 : W.cell? ⟨p, 6, none⟩ = some (.slice L 17 lc) := HT.out.blk.cell 6
  have lp := HT.out.blk.lt
  go_wp2_with fail
  refine HI.out.mono ?_
  rintro e w1 ⟨rfl, hb⟩
  have HB2 := Lib.hid (bthen HB.out hb)
  clear hb k6
  go_wp2
  go_ret
  exact ⟨rfl, HB2.out⟩
set_option maxRecDepth 100000 in
theorem impl_lonely (p : Nat) (ns us ks ts lk : List Nat) (A0 A1 B0 B1 L : Option Addr) (c0 c1 d0 d1 lc : Nat) (x y : Nat) (v : Value) (w : World) (h : Tl w p ns us ks ts A0 A1 B0 B1 L c0 c1 d0 d1 lc) (h1 : MdN ns us) (h2 : MdN ks ts) (hx : x < ns.length) (hy : y < ks.length) (hv : Sl cI w v (li lk)) (hlk : lk.length = ns.length) (hl : ∀ i, lk.getD i 0 < 256) :
    Calls Tryz.prog 121 #[.pointer (some ⟨p, 0, none⟩), .int .i64 x, .int .i64 y, v] w fun e w' => e = .returned (.int .i64 (oI (lonW ns ks lk x y))) ∧ Below w.heap.size w w' := by
  have h8 := h1.r.1
  have hk8 := h2.r.1
  obtain ⟨C, lcc, rfl⟩ := hv.opn
  rw [li_length, hlk] at hv ⊢
  have k2 : w.cell? ⟨p, 1, none⟩ = some (.slice A0 ns.length c0) := h.blk.cell 1
  have k4 : w.cell? ⟨p, 4, none⟩ = some (.slice B0 ks.length d0) := h.blk.cell 4
  have lp := h.blk.lt
  have hx' : x < (li ns).length := by rw [li_length]; exact hx
  have hy' : y < (li ks).length := by rw [li_length]; exact hy
  have hma := h.m.a
  have hna := h.n.a
  obtain ⟨bm, om, e1, hbm, hcm⟩ := hma.atI hx'
  obtain ⟨bn, on, e2, hbn, hcn⟩ := hna.atI hy'
  subst e1
  subst e2
  rw [li_get] at hcm hcn
  clear hma hna
  have hn1 := h1.n256 x
  have hn2 := h2.n256 y
  have hbit : ∀ s, s ∈ mn (ns.getD x 0) → s < ns.length := fun s hs => bit_lt (getD_lt h1.r.2 x) (mn_mem.1 hs).2
  have HBIT := Lib.hid hbit
  have HMem := Lib.hid (fun W => impl_membersOf (ns.getD x 0) W (by omega))
  have HV := Lib.hid hv
  have HL := Lib.hid hl
  have HE : Hid (lonW ns ks lk x y = (mn (ns.getD x 0)).find? fun s => decide (lk.getD s 0 &&& ks.getD y 0 = 0)) := Lib.hid rfl
  rw [mems_mn] at HMem
  have hmlen := mn_len (ns.getD x 0)
  clear h h1 h2 hbit hv hl
  generalize ns.getD x 0 = mx at *
  generalize ks.getD y 0 = my at *
  generalize mn mx = M at *
  go_enter Tryz.func121, Tryz.ntmps121
  go_wp2_with fail
  refine (HMem.out _).mono ?_
  rintro e w1 ⟨u, rfl, ho, hb⟩
  obtain ⟨Au, cu, rfl⟩ := ho.opn
  rw [li_length] at ho ⊢
  have HO := Lib.hid ho.sl
  have HB := Lib.hid hb
  clear ho hb
  go_wp2
  have HPk2 : Hid (w1.cell? ⟨p, 4, none⟩ = some (.slice (some ⟨bn, on, none⟩) ks.length d0)) := Lib.hid ((HB.out.cell (p := ⟨p, 4, none⟩) lp).trans k4)
  have HPn : Hid (w1.cell? ⟨bn, on + y, none⟩ = some (.int .i64 my)) := Lib.hid ((HB.out.cell (p := ⟨bn, on + y, none⟩) hbn).trans hcn)
  have lp1 := Nat.lt_of_lt_of_le lp HB.out.size
  have lb1 := Nat.lt_of_lt_of_le hbn HB.out.size
  have HV1 := Lib.hid (HV.out.below HB.out)
  clear k2 k4 hcm hcn hbm
  go_loopw [22] (fun i wr => ∃ j : Nat, j ≤ M.length ∧ i = .int .i64 j ∧ (∃ q, wr = w1.drewN q) ∧ ∀ k (hk : k < M.length), k < j → ¬ (lk.getD (M[k]'hk) 0 &&& my = 0)) (fun i _ => M.length - (intOf i).toNat)
  case atStart => exact ⟨0, Nat.zero_le _, rfl, ⟨0, rfl⟩, fun k hk h => by omega⟩
  case round =>
    obtain ⟨j, hj, rfl, ⟨q, rfl⟩, hh⟩ := hrel
    have HH := Lib.hid hh
    clear hh
    by_cases hlt : j < M.length
    · have hsn := HBIT.out _ (List.getElem_mem hlt)
      have hoj := HO.out
      have hmj : j < (li M).length := by rw [li_length]; exact hlt
      obtain ⟨ba, oa, e1, hba, hca⟩ := hoj.atI hmj
      subst e1
      have hvj := HV1.out
      obtain ⟨bl, ol, e2, hbl, hcl⟩ := hvj.atI (k := M[j]) (by rw [li_length, hlk]; exact hsn)
      subst e2
      rw [li_get] at hca hcl
      have eM : M.getD j 0 = M[j] := by simp [List.getD_eq_getElem?_getD, hlt]
      rw [eM] at hca
      have HN2 : Hid (lk.getD M[j] 0 &&& my = 0 → lonW ns ks lk x y = some M[j]) := Lib.hid fun h0 => by
        rw [HE.out, List.find?_eq_some_iff_getElem]
        exact ⟨by simpa using h0, j, hlt, rfl, fun k hk => by simpa using HH.out k (by omega) hk⟩
      have HN3 : Hid (¬ (lk.getD M[j] 0 &&& my = 0) → ∀ k (hk : k < M.length), k < j + 1 → ¬ (lk.getD (M[k]'hk) 0 &&& my = 0)) := Lib.hid fun h0 k hk hkj => by
        by_cases e : k = j
        · subst e; exact h0
        · exact HH.out k hk (by omega)
      have hz := HL.out M[j]
      have and1 := i64_and_nat (lk.getD M[j] 0) my (by omega) (by omega)
      have pk := HPk2.out
      have pn := HPn.out
      generalize M[j] = s at *
      generalize lk.getD s 0 = a at *
      clear hoj hmj hvj eM
      by_cases h0 : a &&& my = 0
      · have HR := Lib.hid (HN2.out h0)
        rw [h0] at and1
        have h00 : (((0 : Nat) : Int) == 0) = true := rfl
        go_wp2
        go_quiet (fail)
        go_wp2
        go_ret
        exact ⟨by rw [HR.out]; rfl, by first | exact below_drewN HB.out _ | exact below_drewN (below_drewN HB.out _) _⟩
      · have HR := Lib.hid (HN3.out h0)
        have h00 : (((a &&& my : Nat) : Int) == 0) = false := by rw [beq_eq_false_iff_ne]; omega
        generalize a &&& my = r at *
        go_wp2
        go_quiet (fail)
        go_wp2
        go_roundw
        case rel => exact ⟨j + 1, by omega, by go_num, by first | exact ⟨_, rfl⟩ | exact ⟨_, World.drewN_drewN _ _ _⟩, HR.out⟩
        case measure => simp [intOf]; omega
    · obtain rfl : j = M.length := by omega
      have HR : Hid (lonW ns ks lk x y = none) := Lib.hid (by
        rw [HE.out, List.find?_eq_none]
        intro s hs
        obtain ⟨k, hk, rfl⟩ := List.getElem_of_mem hs
        simpa using HH.out k hk hk)
      go_wp2
      go_ret
      exact ⟨by rw [HR.out]; rfl, by first | exact below_drewN HB.out _ | exact below_drewN (below_drewN HB.out _) _⟩
end Go.Proofs.YtnolbgdbboiehaaGreat
