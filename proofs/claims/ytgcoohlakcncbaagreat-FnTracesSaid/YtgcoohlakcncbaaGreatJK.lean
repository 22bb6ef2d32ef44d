/- Joined of several texts: 12L, 33K (cut out of JF). -/
import Derived.Test.YtgcoohlakcncbaaGreatJF
import Derived.Test.YtgcoohlakcncbaaGreatJI
namespace Go.Proofs.YtgcoohlakcncbaaGreat
open Go.RowKit
set_option linter.unusedVariables false
set_option linter.unusedSimpArgs false
/- Contracts of chapter 12, of the program: searchableCode, IsModalTheorem, AreModallyEquivalent, at GL. -/
theorem Sl.atT12 {w : World} {A : Option Addr} {n c : Nat} {xs : List ByteArray} (h : Sl cS w (.slice A n c) xs) {k : Nat} (hk : k < xs.length) :
    ∃ b o, A = some ⟨b, o, none⟩ ∧ b < w.heap.size ∧ w.cell? ⟨b, o + k, none⟩ = some (.string xs[k]) := by
  obtain ⟨b, o, hA, hb, hc⟩ := h.cell hk
  have := hc 0 (.string xs[k]) rfl
  exact ⟨b, o, hA, hb, by simpa [cS] using this⟩
theorem slices_Index_str (v : Value) (xs : List ByteArray) (x : ByteArray) (k : Nat) (w : World) (h : Sl cS w v xs) (hl : xs.length ≤ 1048576) (hk : k < xs.length) (h1 : xs[k]? = some x) (h2 : ∀ j, j < k → ¬ xs[j]? = some x) :
    Calls Tryz.prog 236 #[v, .string x] w fun e w' => e = .returned (.int .i64 (k : Nat)) ∧ w = w' := by
  obtain ⟨A, c, rfl⟩ := h.opn
  have H1 := Lib.hid h1
  have H2 := Lib.hid h2
  clear h1 h2
  go_enter Tryz.func236, Tryz.ntmps236
  go_wp2
  go_loop [8] (fun i => ∃ j : Nat, j ≤ k ∧ i = .int .i64 j) (fun i => xs.length - (intOf i).toNat)
  case atStart => exact ⟨0, Nat.zero_le _, rfl⟩
  case round =>
    obtain ⟨j, hj, rfl⟩ := hrel
    have hlt : j < xs.length := by omega
    obtain ⟨b, o, rfl, hbl, hc0⟩ := h.atT12 hlt
    by_cases he : xs[j] = x
    · have hjk : j = k := by
        rcases Nat.lt_or_ge j k with h' | h'
        · exact absurd (by rw [List.getElem?_eq_getElem hlt, he]) (H2.out j h')
        · omega
      subst hjk
      rw [he] at hc0
      go_wp2
      go_ret
      exact ⟨rfl, rfl⟩
    · have hjk : j < k := by
        rcases Nat.lt_or_ge j k with h' | h'
        · exact h'
        · obtain rfl : j = k := by omega
          have := H1.out
          rw [List.getElem?_eq_getElem hlt] at this
          exact absurd (Option.some.inj this) he
      have hne : (x.toList == xs[j].toList) = false := beq_eq_false_iff_ne.2 (ba_ne fun e => he e.symm)
      generalize xs[j] = y at *
      clear he
      go_wp2
      go_round
      case rel => exact ⟨j + 1, by omega, by go_num⟩
      case measure => simp [intOf]; omega
def logs : List ByteArray := [⟨#[75]⟩, ⟨#[68]⟩, ⟨#[84]⟩, ⟨#[75, 52]⟩, ⟨#[83, 52]⟩, ⟨#[71, 76]⟩, ⟨#[83, 53]⟩, ⟨#[75, 66]⟩]
set_option maxRecDepth 100000 in
theorem impl_isSearchLogic_GL (w : World) :
    Calls Tryz.prog 124 #[.string ⟨#[71, 76]⟩] w fun e w' => e = .returned (.bool true) ∧ Below w.heap.size w w' := by
  have HL : Hid (Calls Tryz.prog 200 #[] w fun e w' => ∃ A c, e = .returned (.slice A 8 c) ∧ Sl cS w' (.slice A 8 c) logs ∧ Below w.heap.size w w') := by
    refine Lib.hid ?_
    go_enter Tryz.func200, Tryz.ntmps200
    go_wp2
    go_ret
    exact ⟨_, _, rfl, (Ow.lit (K := cS) (w := w) (B := w.heap.size) (n := 8) logs (hm := by decide) rfl rfl (Nat.le_refl _)).sl, below_alloc' _ _⟩
  go_enter Tryz.func124, Tryz.ntmps124
  go_wp2_with fail
  refine HL.out.mono ?_
  rintro e w1 ⟨A, c, rfl, hs, hb⟩
  have HB := Lib.hid hb
  have HI := Lib.hid (slices_Index_str _ logs ⟨#[71, 76]⟩ 5 w1 hs (by decide) (by decide) rfl (by
    intro j hj
    have hjc : j = 0 ∨ j = 1 ∨ j = 2 ∨ j = 3 ∨ j = 4 := by omega
    rcases hjc with rfl | rfl | rfl | rfl | rfl <;> decide))
  have HC : Hid (Calls Tryz.prog 199 #[.slice A 8 c, .string ⟨#[71, 76]⟩] w1 fun e w' => e = .returned (.bool true) ∧ w1 = w') := by
    refine Lib.hid ?_
    clear hs hb
    go_enter Tryz.func199, Tryz.ntmps199
    go_wp2_with fail
    refine HI.out.mono ?_
    rintro e w2 ⟨rfl, rfl⟩
    go_wp2
    go_ret
    exact ⟨rfl, rfl⟩
  clear hs hb
  go_wp2_with fail
  refine HC.out.mono ?_
  rintro e w2 ⟨rfl, rfl⟩
  go_wp2
  go_ret
  exact ⟨rfl, HB.out⟩
set_option maxRecDepth 100000 in
theorem impl_isSide1 (L : List Fm) (hL : L.length ≤ 1) (hg : gdF L) (v : Value) (w : World) (h : Sl cS w v (L.map txt)) :
    Calls Tryz.prog 222 #[v] w fun e w' => e = .returned (.bool true) ∧ Below w.heap.size w w' := by
  obtain ⟨A, c, rfl⟩ := h.opn
  rw [List.length_map] at h ⊢
  match L, hL, hg, h with
  | [], _, _, _ =>
    go_enter Tryz.func222, Tryz.ntmps222
    go_wp2
    go_loopw [7] (fun i wr => i = .int .i64 0 ∧ wr = w) (fun _ _ => 0)
    case atStart => exact ⟨rfl, rfl⟩
    case round =>
      obtain ⟨rfl, rfl⟩ := hrel
      go_wp2
      go_ret
      exact ⟨rfl, Below.refl _ _⟩
  | [f], _, hg, h =>
    obtain ⟨hok, h40⟩ := hg f (List.mem_singleton.2 rfl)
    have HT := Lib.hid (fun W => impl_isText (txt f) true ⟨fun _ => tx_self hok h40, fun _ => rfl⟩ W (by have := (tx_self hok h40).1; omega))
    obtain ⟨b, o, rfl, hbl, hc⟩ := h.atT12 (k := 0) (by simp)
    have hc0 : w.cell? ⟨b, o, none⟩ = some (.string (txt f)) := by simpa using hc
    clear hok h40 h hg hc
    have e1 : [f].length = 1 := rfl
    rw [e1]
    clear e1
    generalize txt f = tf at *
    go_enter Tryz.func222, Tryz.ntmps222
    go_wp2
    go_loopw [7] (fun i wr => ∃ j : Nat, j ≤ 1 ∧ i = .int .i64 j ∧ Below w.heap.size w wr) (fun i _ => 1 - (intOf i).toNat)
    case atStart => exact ⟨0, by omega, rfl, Below.refl _ _⟩
    case round =>
      obtain ⟨j, hj, rfl, hb⟩ := hrel
      have hj : j = 0 ∨ j = 1 := by omega
      have HB := Lib.hid hb
      rcases hj with rfl | rfl
      · have hc1 := (hb.cell (p := ⟨b, o, none⟩) hbl).trans hc0
        have hbl2 : b < wr.heap.size := Nat.lt_of_lt_of_le hbl hb.size
        clear hb
        go_wp2_with fail
        refine (HT.out _).mono ?_
        rintro e w2 ⟨rfl, hb⟩
        have HB2 := Lib.hid (bthen HB.out hb)
        clear hb
        go_wp2
        go_roundw
        case rel => exact ⟨1, by omega, by go_num, HB2.out⟩
        case measure => simp [intOf]
      · clear hb
        go_wp2
        go_ret
        exact ⟨rfl, HB.out⟩
set_option maxRecDepth 100000 in
theorem impl_isModalSequent1 (fs gs : List Fm) (hf : fs.length ≤ 1) (hh : gs.length ≤ 1) (hg : gdF (fs ++ gs)) (lv rv : Value) (w : World) (hl : Sl cS w lv (fs.map txt)) (hr : Sl cS w rv (gs.map txt)) :
    Calls Tryz.prog 152 #[.agg #[lv, rv]] w fun e w' => e = .returned (.bool true) ∧ Below w.heap.size w w' := by
  obtain ⟨A0, c0, rfl⟩ := hl.opn
  obtain ⟨A1, c1, rfl⟩ := hr.opn
  have HL := Lib.hid hl
  have HR := Lib.hid hr
  clear hl hr
  have LL : (fs.map txt).length = fs.length := List.length_map ..
  have LR : (gs.map txt).length = gs.length := List.length_map ..
  rw [LL] at HL ⊢
  rw [LR] at HR ⊢
  clear LL LR
  have H1 := Lib.hid (fun W (h : Sl cS W (.slice A0 fs.length c0) (fs.map txt)) => impl_isSide1 fs hf (fun f hf => hg f (List.mem_append_left _ hf)) _ W h)
  have H2 := Lib.hid (fun W (h : Sl cS W (.slice A1 gs.length c1) (gs.map txt)) => impl_isSide1 gs hh (fun f hf => hg f (List.mem_append_right _ hf)) _ W h)
  have i1 : (fs.length : Int) ≤ 16 := by omega
  have i2 : (gs.length : Int) ≤ 16 := by omega
  clear hg hf hh
  go_enter Tryz.func152, Tryz.ntmps152
  go_upto_region 1 with fail
  have hb := below_alloc' w (.cells #[.slice A0 fs.length c0, .slice A1 gs.length c1] 41)
  have K1 := Lib.hid (Blk.new w 41 #[.slice A0 fs.length c0, .slice A1 gs.length c1])
  have HB := Lib.hid hb
  replace HL := Lib.hid (HL.out.below hb)
  replace HR := Lib.hid (HR.out.below hb)
  clear hb
  generalize World.alloc w _ = w1 at *
  have k0 := K1.out.cell 0
  have k1 := K1.out.cell 1
  have k2 := K1.out.lt
  go_wp2_with fail
  refine (H1.out _ HL.out).mono ?_
  rintro e w2 ⟨rfl, hb⟩
  have HB2 := Lib.hid (bthen HB.out hb)
  have HR2 := Lib.hid (HR.out.below hb)
  have K2 := Lib.hid (K1.out.below hb K1.out.lt)
  clear hb k0 k1 k2
  have k0 := K2.out.cell 0
  have k1 := K2.out.cell 1
  have k2 := K2.out.lt
  go_wp2_with fail
  refine (H2.out _ HR2.out).mono ?_
  rintro e w3 ⟨rfl, hb⟩
  have HB3 := Lib.hid (bthen HB2.out hb)
  clear hb k0 k1 k2
  go_wp2
  go_ret
  exact ⟨rfl, HB3.out⟩
theorem en_searchable_1 : ∀ (args : Array Value) (w : World), (callFunc 151 args).run Tryz.prog w = .ok (.enter 151 args) w := enters Tryz.func151 (by kernel_rfl) (by kernel_rfl)
theorem en_searchable_2 : ∀ (args : Array Value) (w : World), (callFunc 153 args).run Tryz.prog w = .ok (.enter 153 args) w := enters Tryz.func153 (by kernel_rfl) (by kernel_rfl)
set_option maxRecDepth 100000 in
theorem impl_searchable_1 (fs gs : List Fm) (hf : fs.length ≤ 1) (hh : gs.length ≤ 1) (hg : gdF (fs ++ gs)) (lv rv : Value) (w : World) (hl : Sl cS w lv (fs.map txt)) (hr : Sl cS w rv (gs.map txt)) :
    Calls Tryz.prog 151 #[.agg #[lv, rv]] w fun e w' => e = .returned (.bool false) ∧ Below w.heap.size w w' := by
  obtain ⟨A0, c0, rfl⟩ := hl.opn
  obtain ⟨A1, c1, rfl⟩ := hr.opn
  have HL := Lib.hid hl
  have HR := Lib.hid hr
  clear hl hr
  have LL : (fs.map txt).length = fs.length := List.length_map ..
  have LR : (gs.map txt).length = gs.length := List.length_map ..
  rw [LL] at HL ⊢
  rw [LR] at HR ⊢
  clear LL LR
  have H1 := Lib.hid (fun W (h : Sl cS W (.slice A0 fs.length c0) (fs.map txt)) (h2 : Sl cS W (.slice A1 gs.length c1) (gs.map txt)) => impl_isModalSequent1 fs gs hf hh hg _ _ W h h2)
  clear hg hf hh
  go_enter Tryz.func151, Tryz.ntmps151
  go_upto_region 1 with fail
  have hb := below_alloc' w (.cells #[.slice A0 fs.length c0, .slice A1 gs.length c1] 41)
  have K1 := Lib.hid (Blk.new w 41 #[.slice A0 fs.length c0, .slice A1 gs.length c1])
  have HB := Lib.hid hb
  replace HL := Lib.hid (HL.out.below hb)
  replace HR := Lib.hid (HR.out.below hb)
  clear hb
  generalize World.alloc w _ = w1 at *
  have k0 := K1.out.cell 0
  have k1 := K1.out.cell 1
  have k2 := K1.out.lt
  go_wp2_with fail
  refine (H1.out _ HL.out HR.out).mono ?_
  rintro e w2 ⟨rfl, hb⟩
  have HB2 := Lib.hid (bthen HB.out hb)
  clear hb k0 k1 k2
  go_wp2
  go_ret
  exact ⟨rfl, HB2.out⟩
set_option maxRecDepth 100000 in
theorem impl_searchable_2 (fs gs : List Fm) (hf : fs.length ≤ 1) (hh : gs.length ≤ 1) (hg : gdF (fs ++ gs)) (lv rv : Value) (w : World) (hl : Sl cS w lv (fs.map txt)) (hr : Sl cS w rv (gs.map txt)) :
    Calls Tryz.prog 153 #[.agg #[lv, rv]] w fun e w' => e = .returned (.bool (decide (8 < (elF (fs ++ gs)).length))) ∧ Below w.heap.size w w' := by
  obtain ⟨A0, c0, rfl⟩ := hl.opn
  obtain ⟨A1, c1, rfl⟩ := hr.opn
  have HL := Lib.hid hl
  have HR := Lib.hid hr
  clear hl hr
  have LL : (fs.map txt).length = fs.length := List.length_map ..
  have LR : (gs.map txt).length = gs.length := List.length_map ..
  rw [LL] at HL ⊢
  rw [LR] at HR ⊢
  clear LL LR
  have H1 := Lib.hid (fun W (h : Sl cS W (.slice A0 fs.length c0) (fs.map txt)) (h2 : Sl cS W (.slice A1 gs.length c1) (gs.map txt)) => impl_elementaryParts fs gs _ _ W h h2 hg (by omega))
  clear hg hf hh
  generalize hP : elF (fs ++ gs) = P at *
  clear hP
  go_enter Tryz.func153, Tryz.ntmps153
  go_upto_region 1 with fail
  have hb := below_alloc' w (.cells #[.slice A0 fs.length c0, .slice A1 gs.length c1] 41)
  have K1 := Lib.hid (Blk.new w 41 #[.slice A0 fs.length c0, .slice A1 gs.length c1])
  have HB := Lib.hid hb
  replace HL := Lib.hid (HL.out.below hb)
  replace HR := Lib.hid (HR.out.below hb)
  clear hb
  generalize World.alloc w _ = w1 at *
  have k0 := K1.out.cell 0
  have k1 := K1.out.cell 1
  have k2 := K1.out.lt
  go_wp2_with fail
  refine (H1.out _ HL.out HR.out).mono ?_
  rintro e w2 ⟨u, rfl, ho, hb⟩
  have HB2 := Lib.hid (bthen HB.out hb)
  obtain ⟨A, c, rfl⟩ := ho.opn
  clear hb k0 k1 k2 ho
  have e8 : decide ((8 : Int) < (P.length : Int)) = decide (8 < P.length) := by
    by_cases h : 8 < P.length
    · rw [decide_eq_true h, decide_eq_true (by omega)]
    · rw [decide_eq_false h, decide_eq_false (by omega)]
  have E8 := Lib.hid e8
  clear e8
  go_wp2
  go_ret
  exact ⟨by rw [← E8.out]; rfl, HB2.out⟩
set_option maxRecDepth 100000 in
theorem slices_ContainsFunc_seq1 (g : Nat) (A0 A1 : Option Addr) (n0 n1 c0 c1 : Nat) (q : Bool) (k : FuncId) (w : World) (hg : g < w.heap.size) (h0 : w.cell? ⟨g, 0, none⟩ = some (.slice A0 n0 c0)) (h1 : w.cell? ⟨g, 1, none⟩ = some (.slice A1 n1 c1))
    (hk : ∀ (args : Array Value) (w : World), (callFunc k args).run Tryz.prog w = .ok (.enter k args) w)
    (hf : ∀ W, Below w.heap.size w W → Calls Tryz.prog k #[.agg #[.slice A0 n0 c0, .slice A1 n1 c1]] W fun e w' => e = .returned (.bool q) ∧ Below W.heap.size W w') :
    Calls Tryz.prog 150 #[.slice (some ⟨g, 0, none⟩) 1 1, .func (.func k) #[] #[]] w fun e w' => e = .returned (.bool q) ∧ Below w.heap.size w w' := by
  have HI : Hid (Calls Tryz.prog 221 #[.slice (some ⟨g, 0, none⟩) 1 1, .func (.func k) #[] #[]] w fun e w' => ∃ r : Int, e = .returned (.int .i64 r) ∧ decide (0 ≤ r) = q ∧ Below w.heap.size w w') := by
    have HF := Lib.hid hf; clear hf
    refine Lib.hid ?_
    go_enter Tryz.func221, Tryz.ntmps221
    go_wp2
    go_loopw [8] (fun i wr => ∃ j : Nat, j ≤ 1 ∧ i = .int .i64 j ∧ (j = 1 → q = false) ∧ Below w.heap.size w wr) (fun i _ => 1 - (intOf i).toNat)
    case atStart => exact ⟨0, by omega, rfl, fun h => by omega, Below.refl _ _⟩
    case round =>
      obtain ⟨j, hj, rfl, hq, hb⟩ := hrel
      have HQ := Lib.hid hq
      have HB := Lib.hid hb
      have hj : j = 0 ∨ j = 1 := by omega
      rcases hj with rfl | rfl
      · have k0 := (hb.cell (p := ⟨g, 0, none⟩) hg).trans h0
        have k1 := (hb.cell (p := ⟨g, 1, none⟩) hg).trans h1
        have k2 := Nat.lt_of_lt_of_le hg hb.size
        have HC := Lib.hid (HF.out wr hb)
        clear hb hq
        go_wp2_with fail
        refine HC.out.mono ?_
        rintro e w2 ⟨rfl, hb⟩
        have HB2 := Lib.hid (bthen HB.out hb)
        clear hb k0 k1 k2
        cases q
        · go_wp2
          go_roundw
          case rel => exact ⟨1, by omega, by go_num, fun _ => by trivial, HB2.out⟩
          case measure => simp [intOf]
        · go_wp2
          go_ret
          exact ⟨0, rfl, by decide, HB2.out⟩
      · have HE := Lib.hid (HQ.out rfl)
        clear hb hq
        go_wp2
        go_ret
        exact ⟨-1, rfl, by rw [HE.out]; decide, HB.out⟩
  clear hf hk h0 h1 hg
  go_enter Tryz.func150, Tryz.ntmps150
  go_wp2_with fail
  refine HI.out.mono ?_
  rintro e w1 ⟨r, rfl, hr, hb⟩
  have HR := Lib.hid hr; clear hr
  have HB := Lib.hid hb; clear hb
  go_wp2
  go_ret
  exact ⟨by rw [← HR.out]; rfl, HB.out⟩
noncomputable def scd (fs gs : List Fm) : Int := if 8 < (elF (fs ++ gs)).length then 3 else 0
set_option maxRecDepth 100000 in
theorem impl_searchableCode1 (fs gs : List Fm) (hf : fs.length ≤ 1) (hh : gs.length ≤ 1) (hgd : gdF (fs ++ gs)) (g : Nat) (A0 A1 : Option Addr) (c0 c1 : Nat) (w : World) (hg : g < w.heap.size) (h0 : w.cell? ⟨g, 0, none⟩ = some (.slice A0 fs.length c0)) (h1 : w.cell? ⟨g, 1, none⟩ = some (.slice A1 gs.length c1))
    (hl : Sl cS w (.slice A0 fs.length c0) (fs.map txt)) (hr : Sl cS w (.slice A1 gs.length c1) (gs.map txt)) :
    Calls Tryz.prog 89 #[.string ⟨#[71, 76]⟩, .slice (some ⟨g, 0, none⟩) 1 1] w fun e w' => e = .returned (.int .i64 (scd fs gs)) ∧ Below w.heap.size w w' := by
  have HC1 := Lib.hid (fun W (hb : Below w.heap.size w W) => slices_ContainsFunc_seq1 g A0 A1 fs.length gs.length c0 c1 false 151 W (Nat.lt_of_lt_of_le hg hb.size) ((hb.cell (p := ⟨g, 0, none⟩) hg).trans h0) ((hb.cell (p := ⟨g, 1, none⟩) hg).trans h1) en_searchable_1 (fun W2 hb2 => impl_searchable_1 fs gs hf hh hgd _ _ W2 ((hl.below hb).below hb2) ((hr.below hb).below hb2)))
  have HC2 := Lib.hid (fun W (hb : Below w.heap.size w W) => slices_ContainsFunc_seq1 g A0 A1 fs.length gs.length c0 c1 _ 153 W (Nat.lt_of_lt_of_le hg hb.size) ((hb.cell (p := ⟨g, 0, none⟩) hg).trans h0) ((hb.cell (p := ⟨g, 1, none⟩) hg).trans h1) en_searchable_2 (fun W2 hb2 => impl_searchable_2 fs gs hf hh hgd _ _ W2 ((hl.below hb).below hb2) ((hr.below hb).below hb2)))
  have HSc : Hid (scd fs gs = if decide (8 < (elF (fs ++ gs)).length) = true then 3 else 0) := Lib.hid (by unfold scd; simp)
  clear hf hh hgd hg h0 h1 hl hr
  generalize decide (8 < (elF (fs ++ gs)).length) = q at *
  generalize scd fs gs = cd at *
  go_enter Tryz.func89, Tryz.ntmps89
  go_wp2_with fail
  refine (impl_isSearchLogic_GL _).mono ?_
  rintro e w1 ⟨rfl, hb⟩
  have HB1 := Lib.hid hb
  clear hb
  go_wp2_with fail
  refine (HC1.out _ HB1.out).mono ?_
  rintro e w2 ⟨rfl, hb⟩
  have HB2 := Lib.hid (bthen HB1.out hb)
  clear hb
  go_wp2_with fail
  refine (HC2.out _ HB2.out).mono ?_
  rintro e w3 ⟨rfl, hb⟩
  have HB3 := Lib.hid (bthen HB2.out hb)
  clear hb
  cases q
  · go_wp2
    go_ret
    exact ⟨by rw [HSc.out]; rfl, HB3.out⟩
  · go_wp2
    go_ret
    exact ⟨by rw [HSc.out]; rfl, HB3.out⟩
/-- what IsModalTheorem returns -/
noncomputable def imtR (fs gs : List Fm) : Array Value := if scd fs gs = 0 then #[.bool (thB fs gs), .int .i64 0] else #[.bool false, .int .i64 (scd fs gs)]
set_option maxRecDepth 100000 in
theorem impl_IsModalTheorem1 (fs gs : List Fm) (hf : fs.length ≤ 1) (hh : gs.length ≤ 1) (hg : gdF (fs ++ gs)) (lv rv : Value) (w : World) (hl : Sl cS w lv (fs.map txt)) (hr : Sl cS w rv (gs.map txt)) :
    Calls Tryz.prog 19 #[.string ⟨#[71, 76]⟩, .agg #[lv, rv]] w fun e w' => e = .returned (.tuple (imtR fs gs)) ∧ Below w.heap.size w w' := by
  obtain ⟨A0, c0, rfl⟩ := hl.opn
  obtain ⟨A1, c1, rfl⟩ := hr.opn
  have HL := Lib.hid hl
  have HR := Lib.hid hr
  clear hl hr
  have LL : (fs.map txt).length = fs.length := List.length_map ..
  have LR : (gs.map txt).length = gs.length := List.length_map ..
  rw [LL] at HL ⊢
  rw [LR] at HR ⊢
  clear LL LR
  have HSc := Lib.hid (fun (g : Nat) W h1 h2 h3 h4 h5 => impl_searchableCode1 fs gs hf hh hg g A0 A1 c0 c1 W h1 h2 h3 h4 h5)
  have HTh := Lib.hid (fun (h8 : (elF (fs ++ gs)).length ≤ 8) W h1 h2 => impl_isModalTheorem fs gs (.slice A0 fs.length c0) (.slice A1 gs.length c1) W h1 h2 hg (by omega) h8)
  have HRt : Hid (scd fs gs = 0 → imtR fs gs = #[.bool (thB fs gs), .int .i64 0]) := Lib.hid fun h => by unfold imtR; rw [if_pos h]
  have HRf : Hid (scd fs gs = 3 → imtR fs gs = #[.bool false, .int .i64 3]) := Lib.hid fun h => by unfold imtR; rw [if_neg (by rw [h]; decide), h]
  have HCs : Hid ((scd fs gs = 0 ∧ (elF (fs ++ gs)).length ≤ 8) ∨ scd fs gs = 3) := Lib.hid (by unfold scd; split; exact .inr rfl; exact .inl ⟨rfl, by omega⟩)
  clear hf hh hg
  generalize imtR fs gs = res at *
  generalize scd fs gs = cd at *
  go_enter Tryz.func19, Tryz.ntmps19
  go_upto_region 1 with fail
  have hb := below_alloc' w (.cells #[.slice A0 fs.length c0, .slice A1 gs.length c1] 41)
  have K1 := Lib.hid (Blk.new w 41 #[.slice A0 fs.length c0, .slice A1 gs.length c1])
  have HB := Lib.hid hb
  replace HL := Lib.hid (HL.out.below hb)
  replace HR := Lib.hid (HR.out.below hb)
  clear hb
  generalize World.alloc w _ = w1 at *
  have k0 := K1.out.cell 0
  have k1 := K1.out.cell 1
  have k2 := K1.out.lt
  have hb := below_alloc' w1 (.cells #[.slice A0 fs.length c0, .slice A1 gs.length c1] 41)
  have K2 := (Blk.new w1 41 #[.slice A0 fs.length c0, .slice A1 gs.length c1])
  have HSc1 := Lib.hid (HSc.out w1.heap.size _ K2.lt (K2.cell 0) (K2.cell 1) (HL.out.below hb) (HR.out.below hb))
  have HB2 := Lib.hid (bthen HB.out hb)
  have HL2 := Lib.hid (HL.out.below hb)
  have HR2 := Lib.hid (HR.out.below hb)
  have KB2 := Lib.hid (K1.out.below hb K1.out.lt)
  clear hb K2 HSc
  go_wp2_with fail
  refine HSc1.out.mono ?_
  rintro e w3 ⟨rfl, hb⟩
  have HB3 := Lib.hid (bthen HB2.out hb)
  have HL3 := Lib.hid (HL2.out.below hb)
  have HR3 := Lib.hid (HR2.out.below hb)
  have K3 := Lib.hid (KB2.out.below hb KB2.out.lt)
  clear hb k0 k1 k2 HSc1 KB2 HL2 HR2
  rcases HCs.out with ⟨rfl, h8⟩ | rfl
  · have k0 := K3.out.cell 0
    have k1 := K3.out.cell 1
    have k2 := K3.out.lt
    have HT := Lib.hid (HTh.out h8)
    clear h8 HTh
    go_wp2_with fail
    refine (HT.out _ HL3.out HR3.out).mono ?_
    rintro e w4 ⟨rfl, hb⟩
    have HB4 := Lib.hid (bthen HB3.out hb)
    clear hb k0 k1 k2
    go_wp2
    go_ret2
    exact ⟨by rw [HRt.out (by trivial)]; rfl, HB4.out⟩
  · go_wp2
    go_ret2
    exact ⟨by rw [HRf.out (by trivial)]; rfl, HB3.out⟩
/- likeTexts5 of lists that are one (turned from 02Y); a list of one text. -/
theorem laws_likeTexts5 (v u : Value) (xs : List ByteArray) (w : World) (h : Sl cS w v xs) (h' : Sl cS w u xs) (hl : xs.length ≤ 1073741824) :
    Calls Tryz.prog 24 #[v, u] w fun e w' => e = .returned (.bool true) ∧ Below w.heap.size w w' := by
  obtain ⟨A, c, rfl⟩ := h.opn
  obtain ⟨A', c', rfl⟩ := h'.opn
  go_enter Tryz.func24, Tryz.ntmps24
  go_wp2
  go_loopw [5] (fun i wr => ∃ j : Nat, j ≤ xs.length ∧ i = .int .i64 j ∧ Below w.heap.size w wr) (fun i _ => xs.length - (intOf i).toNat)
  case atStart => exact ⟨0, Nat.zero_le _, rfl, Below.refl _ _⟩
  case round =>
    obtain ⟨j, hj, rfl, hbl⟩ := hrel
    have HB := Lib.hid hbl
    by_cases hlt : j < xs.length
    · obtain ⟨b, o, rfl, hb, c0⟩ := (h.below hbl).atT12 hlt
      obtain ⟨b', o', rfl, hb', c1⟩ := (h'.below hbl).atT12 hlt
      generalize xs[j] = x at *
      clear hbl h h'
      go_wp2
      go_quiet (fail)
      go_wp2
      go_roundw
      case rel => exact ⟨j + 1, by omega, by go_num, below_drewN HB.out _⟩
      case measure => simp [intOf]; omega
    · obtain rfl : j = xs.length := by omega
      go_wp2
      go_ret
      exact ⟨rfl, HB.out⟩
theorem lit_str0 (W : World) : Sl cS (W.alloc (.cells #[] 9)) (.slice (some ⟨W.heap.size, 0, none⟩) 0 0) [] :=
  (Ow.lit (K := cS) (w := W) (e := 9) (B := W.heap.size) [] (cs := #[]) (n := 0) rfl rfl (Nat.le_refl _)).sl
theorem lit_strO (W : World) (x : ByteArray) : Sl cS (W.alloc (.cells #[.string x] 9)) (.slice (some ⟨W.heap.size, 0, none⟩) 1 1) [x] :=
  (Ow.lit (K := cS) (w := W) (e := 9) (B := W.heap.size) [x] (cs := #[.string x]) (n := 1) rfl rfl (Nat.le_refl _)).sl
theorem imt_pack {f : Fm} (c : Prop) (h : c → thB [] [f] = true) : ∃ (b : Bool) (cd : Int), imtR [] [f] = #[.bool b, .int .i64 cd] ∧ ((cd = 0 ∧ (c → b = true)) ∨ cd = 3) := by
  by_cases hs : scd [] [f] = 0
  · exact ⟨thB [] [f], 0, by unfold imtR; rw [if_pos hs], .inl ⟨rfl, h⟩⟩
  · have h3 : scd [] [f] = 3 := by
      unfold scd at hs ⊢
      split
      · rfl
      · rename_i hh; rw [if_neg hh] at hs; exact absurd rfl hs
    exact ⟨false, 3, by unfold imtR; rw [if_neg hs, h3], .inr rfl⟩
end Go.Proofs.YtgcoohlakcncbaaGreat
