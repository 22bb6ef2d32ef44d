/- Contracts of the program: IntClasses. -/
import Derived.Test.YtaigiopoogbbbaaGreatY40
import Derived.Test.YtaigiopoogbbbaaGreatY49
namespace Go.Proofs.YtaigiopoogbbbaaGreat
open Go.RowKit Go.Maps
set_option linter.unusedVariables false
set_option linter.unusedSimpArgs false
theorem Sl2.pre {w : World} {A : Option Addr} {n c : Nat} {xss : List (List Nd)} (h : Sl2 cN w (.slice A n c) xss) {i : Nat} (hi : i ≤ xss.length) : Sl2 cN w (.slice A i c) (xss.take i) := by
  obtain ⟨hs, h1, h2, h3⟩ := h
  obtain ⟨-, hc, hm⟩ := h1.cap
  have h4 := h1.cutAt (A' := A) (n' := i) (i := 0) (j := i) (c' := c) (Nat.zero_le _) (by omega) rfl (fun b o e => by rw [e]; simp) (by omega) hm
  refine ⟨(hs.drop 0).take (i - 0), h4, by simp [h2], fun k a b => ?_⟩
  have ha : k < hs.length := by simp at a; omega
  have hb : k < xss.length := by simp at b; omega
  have := h3 k ha hb
  simpa using this
theorem en_IntClasses_1 : ∀ (args : Array Value) (w : World), (callFunc 21 args).run Tryz.prog w = .ok (.enter 21 args) w := fun _ _ => by kernel_rfl
theorem impl_IntClasses_1 (u : Value) (xs : List Nd) (A : Option Addr) (n c g : Nat) (w : World) (h : Sl cN w u xs) (hl : xs.length ≤ 1048576) (hn : n ≤ 1048576) (hg : g < w.heap.size) (hc : w.cell? ⟨g, 0, none⟩ = some (.slice A n c)) :
    Calls Tryz.prog 21 #[u, .pointer (some ⟨g, 0, none⟩)] w fun e w' => e = .returned (.bool (decide (20 < n + xs.length))) ∧ Below w.heap.size w w' := by
  obtain ⟨B, d, rfl⟩ := h.opn
  clear h
  generalize xs.length = m at *
  go_enter Tryz.func21, Tryz.ntmps21
  go_wp2
  go_ret
  refine ⟨?_, Below.refl _ _⟩
  show Ending.returned (.bool (decide ((20 : Int) < n + m))) = _
  rw [show decide ((20 : Int) < n + m) = decide (20 < n + m) by rw [decide_eq_decide]; omega]
/-- a row of the relation in the making -/
theorem mskT {p : Nat → Bool} {k : Nat} (h : p k = true) : msk p (k + 1) = msk p k ||| 2 ^ k := by
  refine (msk_eq (k + 1) p (Nat.or_lt_two_pow (Nat.lt_of_lt_of_le (msk_lt p k) (Nat.pow_le_pow_right (by decide) (by omega))) (Nat.pow_lt_pow_right (by decide) (by omega))) fun i hi => ?_).symm
  rw [Nat.testBit_or, msk_testBit, Nat.testBit_two_pow]
  by_cases e : i = k
  · subst e; simp [h]
  · rw [decide_eq_true (show i < k by omega), decide_eq_false (fun q => e q.symm)]; simp
theorem mskF {p : Nat → Bool} {k : Nat} (h : p k = false) : msk p (k + 1) = msk p k := by
  refine (msk_eq (k + 1) p (Nat.lt_of_lt_of_le (msk_lt p k) (Nat.pow_le_pow_right (by decide) (by omega))) fun i hi => ?_).symm
  rw [msk_testBit]
  by_cases e : i = k
  · subst e; simp [h]
  · rw [decide_eq_true (show i < k by omega)]; simp
/-- the relation in the making: rows before x, row x up to y -/
def RelI (O : List Fm) (x y : Nat) (os : List Nat) : Prop := os.length = O.length ∧ ∀ z, z < O.length → os.getD z 0 = if z < x then (ikey O).getD z 0 else if z = x then msk (fun j => eqv (fAt O x) (fAt O j)) y else 0
theorem RelI.start (O : List Fm) : RelI O 0 0 (List.replicate O.length 0) := by
  refine ⟨by simp, fun z hz => ?_⟩
  rw [List.getD_eq_getElem?_getD, List.getElem?_replicate, if_pos hz, if_neg (Nat.not_lt_zero _)]
  split <;> rfl
theorem RelI.skip {O : List Fm} {x y : Nat} {os : List Nat} (h : RelI O x y os) (e : eqv (fAt O x) (fAt O y) = false) : RelI O x (y + 1) os := by
  refine ⟨h.1, fun z hz => ?_⟩
  rw [h.2 z hz, mskF e]
theorem RelI.put {O : List Fm} {x y : Nat} {os : List Nat} (h : RelI O x y os) (hx : x < O.length) (e : eqv (fAt O x) (fAt O y) = true) : RelI O x (y + 1) (os.set x (os.getD x 0 ||| 2 ^ y)) := by
  refine ⟨by rw [List.length_set]; exact h.1, fun z hz => ?_⟩
  by_cases ezx : z = x
  · subst ezx
    rw [List.getD_eq_getElem?_getD, List.getElem?_set_self (by rw [h.1]; exact hz), Option.getD_some, h.2 z hz, if_neg (Nat.lt_irrefl _), if_pos rfl, if_neg (Nat.lt_irrefl _), if_pos rfl, mskT e]
  · rw [List.getD_eq_getElem?_getD, List.getElem?_set_ne (fun e => ezx e.symm), ← List.getD_eq_getElem?_getD, h.2 z hz, if_neg ezx, if_neg ezx]
theorem RelI.next {O : List Fm} {x : Nat} {os : List Nat} (h : RelI O x O.length os) : RelI O (x + 1) 0 os := by
  refine ⟨h.1, fun z hz => ?_⟩
  rw [h.2 z hz]
  by_cases h1 : z < x
  · rw [if_pos h1, if_pos (by omega)]
  · by_cases h2 : z = x
    · subst h2
      rw [if_neg h1, if_pos rfl, if_pos (by omega), ikey_get O hz]
    · rw [if_neg h1, if_neg h2, if_neg (by omega)]
      split <;> rfl
theorem RelI.last {O : List Fm} {os : List Nat} (h : RelI O O.length 0 os) : os = ikey O := by
  apply List.ext_getElem (by rw [h.1, ikey_len])
  intro z h1 h2
  have hz : z < O.length := by rw [← h.1]; exact h1
  have h3 := h.2 z hz
  rw [if_pos hz, List.getD_eq_getElem?_getD, List.getD_eq_getElem?_getD, List.getElem?_eq_getElem h1, List.getElem?_eq_getElem h2] at h3
  exact h3
theorem RelI.lt {O : List Fm} {x y : Nat} {os : List Nat} (h : RelI O x y os) (hO : O.length ≤ 8) (hx : x < O.length) (hy : y ≤ O.length) : os.getD x 0 < 256 := by
  rw [h.2 x hx, if_neg (Nat.lt_irrefl _), if_pos rfl]
  exact Nat.lt_of_lt_of_le (msk_lt _ _) (Nat.pow_le_pow_right (n := 2) (by decide) (Nat.le_trans hy hO))
set_option maxRecDepth 100000 in
set_option maxHeartbeats 1000000 in
theorem impl_IntClasses (v : Value) (xss : List (List Nd)) (R : List Int) (w : World) (h : Sl2 cN w v xss) (hl : tot xss ≤ 1048576) (hR : IcR xss R) :
    Calls Tryz.prog 7 #[v] w fun e w' => ∃ u, e = .returned (.tuple #[u, .int .i64 (icode xss)]) ∧ Ow cI 2 w.heap.size w' u R ∧ Below w.heap.size w w' := by
  obtain ⟨A, c, rfl⟩ := h.opn
  have H2 := Lib.hid h
  have hln := (tot_lenI hl).1
  have hly := (tot_lenI hl).2
  have HY := Lib.hid hly
  have HR0 := Lib.hid hR.1
  have HR1 := Lib.hid hR.2
  have HAF := Lib.hid (impl_areFormulas _ xss w h (by omega) hly)
  have HAP := Lib.hid (fun W (hW : Sl2 cN W (.slice A xss.length c) xss) => impl_allPlain _ xss W hW (by omega) hly)
  clear h hl hR hly
  cases hF : xss.all isF with
  | false =>
    have HC : Hid (icode xss = 1) := Lib.hid (by unfold icode; rw [if_neg (by rw [hF]; decide)])
    have HRR : Hid (R = []) := Lib.hid (HR0.out (by rw [HC.out]; decide))
    rw [hF] at HAF
    clear hF
    go_enter Tryz.func7, Tryz.ntmps7
    go_wp2_with fail
    refine HAF.out.mono ?_
    rintro e w1 ⟨rfl, hb⟩
    have HB := Lib.hid hb
    clear hb
    go_wp2
    go_ret2
    exact ⟨_, by rw [HC.out]; rfl, by rw [HRR.out]; exact Ow.nil _ _, HB.out⟩
  | true =>
  rw [hF] at HAF
  by_cases h8 : 8 < xss.length
  · have HC : Hid (icode xss = 2) := Lib.hid (icode_2 hF h8)
    have HRR : Hid (R = []) := Lib.hid (HR0.out (by rw [HC.out]; decide))
    clear hF
    go_enter Tryz.func7, Tryz.ntmps7
    go_wp2_with fail
    refine HAF.out.mono ?_
    rintro e w1 ⟨rfl, hb⟩
    have HB := Lib.hid hb
    clear hb
    go_wp2
    go_ret2
    exact ⟨_, by rw [HC.out]; rfl, by rw [HRR.out]; exact Ow.nil _ _, HB.out⟩
  cases hP : xss.all pl with
  | false =>
    have HC : Hid (icode xss = 5) := Lib.hid (icode_5 hF h8 hP)
    have HRR : Hid (R = []) := Lib.hid (HR0.out (by rw [HC.out]; decide))
    rw [hP] at HAP
    clear hF hP
    go_enter Tryz.func7, Tryz.ntmps7
    go_wp2_with fail
    refine HAF.out.mono ?_
    rintro e w1 ⟨rfl, hb⟩
    have HB := Lib.hid hb
    have HA1 := Lib.hid (HAP.out w1 (H2.out.below hb))
    clear hb HAP
    go_wp2_with fail
    refine HA1.out.mono ?_
    rintro e w2 ⟨rfl, hb⟩
    have HB2 := Lib.hid (bthen HB.out hb)
    clear hb
    go_wp2
    go_ret2
    exact ⟨_, by rw [HC.out]; rfl, by rw [HRR.out]; exact Ow.nil _ _, HB2.out⟩
  | true =>
  rw [hP] at HAP
  have HC3 := Lib.hid (fun (hb : bigP xss = true) => icode_3 hF h8 hP hb)
  have HC0 := Lib.hid (fun (hb : bigP xss = false) => icode_0 hF h8 hP hb)
  clear hF hP
  go_enter Tryz.func7, Tryz.ntmps7
  go_wp2_with fail
  refine HAF.out.mono ?_
  rintro e w1 ⟨rfl, hb⟩
  have HB0 := Lib.hid hb
  have HA1 := Lib.hid (HAP.out w1 (H2.out.below hb))
  clear hb HAP HAF
  go_wp2_with fail
  refine HA1.out.mono ?_
  rintro e w2 ⟨rfl, hb⟩
  have HB := Lib.hid (bthen HB0.out hb)
  have HL2 := Lib.hid ((H2.out.below HB0.out).below hb)
  clear hb HA1 HB0
  go_wp2
  go_loopw [25] (fun i wr => ∃ j : Nat, j ≤ xss.length ∧ i = .int .i64 j ∧ Below w2.heap.size w2 wr ∧ ∀ i k, i < j → k < i → (xss.getD i []).length + (xss.getD k []).length ≤ 20) (fun i _ => xss.length - (intOf i).toNat)
  case atStart => exact ⟨0, Nat.zero_le _, rfl, Below.refl _ _, fun i k h => absurd h (Nat.not_lt_zero _)⟩
  case round =>
    obtain ⟨j, hj, rfl, hbr, hh⟩ := hrel
    have HH := Lib.hid hh
    have HBR := Lib.hid hbr
    clear hh
    by_cases hlt : j < xss.length
    · obtain ⟨b, o, Ai, ci, rfl, hbl, hc0, hs⟩ := (HL2.out.below hbr).atM hlt
      have hgj : xss.getD j [] = xss[j]'hlt := getD_at xss hlt
      have hni : (xss[j]'hlt).length ≤ 1048576 := HY.out _ (List.getElem_mem hlt)
      have HCF := Lib.hid (fun W (hW : Below wr.heap.size wr W) g (hg : g < W.heap.size) (hc : W.cell? ⟨g, 0, none⟩ = some (.slice Ai (xss[j]'hlt).length ci)) =>
        slices_ContainsFunc_nodes' (.slice (some ⟨b, o, none⟩) j c) (xss.take j) 21 #[.pointer (some ⟨g, 0, none⟩)] (fun k => decide (20 < (xss[j]'hlt).length + (xss.getD k []).length)) W (((HL2.out.below hbr).below hW).pre hj) (by rw [List.length_take]; omega) en_IntClasses_1 (fun W' hW' u k hk hu => by
          have hk1 : k < j := by rw [List.length_take] at hk; omega
          have e1 : (xss.take j)[k]'hk = xss.getD k [] := by rw [List.getElem_take, getD_at xss (by omega)]
          rw [e1] at hu
          exact impl_IntClasses_1 u (xss.getD k []) Ai _ ci g W' hu (by rw [getD_at xss (by omega)]; exact HY.out _ (List.getElem_mem _)) hni (Nat.lt_of_lt_of_le hg hW'.size) ((hW'.cell (p := ⟨g, 0, none⟩) hg).trans hc)))
      have HYES : Hid (((List.range (xss.take j).length).any fun k => decide (20 < (xss[j]'hlt).length + (xss.getD k []).length)) = true → icode xss = 3) := Lib.hid fun h => by
        obtain ⟨k, hk, h1⟩ := List.any_eq_true.1 h
        have hk1 : k < j := by have := List.mem_range.1 hk; rw [List.length_take] at this; omega
        refine HC3.out (bigP_yes hlt hk1 ?_)
        rw [hgj]
        exact of_decide_eq_true h1
      have HNO : Hid (((List.range (xss.take j).length).any fun k => decide (20 < (xss[j]'hlt).length + (xss.getD k []).length)) = false → ∀ i k, i < j + 1 → k < i → (xss.getD i []).length + (xss.getD k []).length ≤ 20) := Lib.hid fun h i k hi hk => by
        by_cases e : i = j
        · subst e
          rw [List.any_eq_false] at h
          have := h k (by rw [List.mem_range, List.length_take]; omega)
          rw [hgj]
          simpa using this
        · exact HH.out i k (by omega) hk
      generalize ((List.range (xss.take j).length).any fun k => decide (20 < (xss[j]'hlt).length + (xss.getD k []).length)) = bb at *
      generalize (xss[j]'hlt).length = nj at *
      clear hs hgj
      have hjc : j ≤ c := by
        obtain ⟨hs', q1, q2, q3⟩ := H2.out
        obtain ⟨-, q4, -⟩ := q1.cap
        omega
      have HBS := Lib.hid (below_alloc' wr (.cells #[.slice Ai nj ci] 37))
      go_wp2_with fail
      refine (HCF.out _ HBS.out wr.heap.size (by simp) ((Blk.new wr 37 #[.slice Ai nj ci]).cell 0)).mono ?_
      rintro e w3 ⟨rfl, hb⟩
      have HB3 := Lib.hid (bthen (bthen HBR.out (below_alloc' wr (.cells #[.slice Ai nj ci] 37))) hb)
      clear hb HCF HBS hc0 hbl hbr
      cases bb with
      | true =>
        have HC := Lib.hid (HYES.out rfl)
        have HRR : Hid (R = []) := Lib.hid (HR0.out (by rw [HC.out]; decide))
        clear HYES HNO
        go_wp2
        go_ret2
        exact ⟨_, by rw [HC.out]; rfl, by rw [HRR.out]; exact Ow.nil _ _, bthen HB.out HB3.out⟩
      | false =>
        have HN := Lib.hid (HNO.out rfl)
        clear HYES HNO
        go_wp2
        go_roundw
        case rel => exact ⟨j + 1, by omega, by go_num, HB3.out, HN.out⟩
        case measure => simp [intOf]; omega
    · obtain rfl : j = xss.length := by omega
      have hbig : bigP xss = false := bigP_of fun i k hi hk => HH.out i k hi hk
      have HC := Lib.hid (HC0.out hbig)
      obtain ⟨O, hO, hgd, hO8, hRR⟩ := HR1.out HC.out
      have HRR := Lib.hid hRR
      have HGD := Lib.hid hgd
      have HSM := Lib.hid (fun i k (hi : i < O.length) (hk : k < O.length) (hne : ¬ i = k) => show (enc (fAt O i)).length + (enc (fAt O k)).length ≤ 20 by
        have e1 : ∀ i, i < O.length → xss.getD i [] = enc (fAt O i) := fun i hi => by
          rw [hO, List.getD_eq_getElem?_getD, List.getElem?_map, List.getElem?_eq_getElem hi]
          unfold fAt
          rw [List.getD_eq_getElem?_getD, List.getElem?_eq_getElem hi]
          rfl
        have hxl : xss.length = O.length := by rw [hO, List.length_map]
        rcases Nat.lt_or_ge k i with h | h
        · have := HH.out i k (by omega) h
          rw [e1 i hi, e1 k hk] at this; exact this
        · have := HH.out k i (by omega) (by omega)
          rw [e1 i hi, e1 k hk] at this; omega)
      have HFA := Lib.hid (fun i (hi : i < O.length) => show gdF1 (fAt O i) by
        unfold fAt
        rw [List.getD_eq_getElem?_getD, List.getElem?_eq_getElem hi]
        exact hgd _ (List.getElem_mem hi))
      have HLO := Lib.hid (HL2.out.below hbr)
      have hxl : xss.length = O.length := by rw [hO, List.length_map]
      have HAT := Lib.hid (fun W (hW : Below wr.heap.size wr W) y (hy : y < O.length) => show ∃ b o Ai ci, A = some ⟨b, o, none⟩ ∧ b < W.heap.size ∧ W.cell? ⟨b, o + y, none⟩ = some (.slice Ai (enc (fAt O y)).length ci) ∧ Sl cN W (.slice Ai (enc (fAt O y)).length ci) (enc (fAt O y)) by
        obtain ⟨b, o, Ai, ci, h1, h2, h3, h4⟩ := (HLO.out.below hW).atM (k := y) (by omega)
        have e1 : xss[y]'(by omega) = enc (fAt O y) := by
          unfold fAt
          rw [List.getD_eq_getElem?_getD, List.getElem?_eq_getElem hy]
          simp [hO]
        rw [e1] at h3 h4
        exact ⟨b, o, Ai, ci, h1, h2, h3, h4⟩)
      have HBW := Lib.hid (bthen HB.out hbr)
      clear HH HBR hbr HC0 HC3 HR1 HR0 hRR hgd hbig HL2 HLO HB H2 HY
      generalize xss.length = n1 at *
      subst hxl
      clear hO
      obtain ⟨wA, hwA⟩ : ∃ W, W = wr := ⟨_, rfl⟩
      subst hwA
      go_wp2_with (at_make; refine stopHere ?_)
      refine goHere ?_
      refine mk_full (K := cI) wA ty_int64 rfl _ _ rfl wA.heap.size O.length 0 rfl rfl rfl (by omega) (Nat.le_refl _) ?_
      intro w5 ho hg hb hz
      have EZ : List.replicate O.length (0 : Int) = li (List.replicate O.length 0) := by unfold li; rw [List.map_replicate]; rfl
      rw [EZ] at ho
      have HO := Lib.hid ho
      have HB5 := Lib.hid hb
      clear ho hg hb hz EZ
      obtain ⟨G, hG⟩ : ∃ G, wA.heap.size = G := ⟨_, rfl⟩
      have HGG : Hid (wA.heap.size ≤ G) := Lib.hid (by omega)
      have HGE := Lib.hid hG
      rw [hG] at HO ⊢
      clear hG
      go_wp2
      go_loopw [41] (fun i wr => ∃ x : Nat, x ≤ O.length ∧ i = .int .i64 x ∧ (∃ os, RelI O x 0 os ∧ Ow cI 2 G wr (.slice (some ⟨G, 0, none⟩) O.length O.length) (li os)) ∧ Below wA.heap.size wA wr) (fun i _ => O.length - (intOf i).toNat)
      case atStart => exact ⟨0, Nat.zero_le _, rfl, ⟨_, RelI.start O, HO.out⟩, HB5.out⟩
      case round =>
        obtain ⟨x, hx, rfl, ⟨os, hri, ho⟩, hbx⟩ := hrel
        obtain ⟨wB, hwB⟩ : ∃ W, W = wr := ⟨_, rfl⟩
        subst hwB
        have HRI := Lib.hid hri
        have HOx := Lib.hid ho
        have HBx := Lib.hid hbx
        by_cases hxn : x < O.length
        · obtain ⟨b, o, Ai, ci, rfl, hblA, hcA, hs0⟩ := HAT.out wA (Below.refl _ _) x hxn
          have hc0 := (hbx.cell (p := ⟨b, o + x, none⟩) hblA).trans hcA
          have hbl := Nat.lt_of_lt_of_le hblA hbx.size
          have HS0 := Lib.hid hs0
          have HCA := Lib.hid hcA
          clear hri ho hbx hs0 hcA
          go_wp2
          go_loopw [48] (fun i wr => ∃ y : Nat, y ≤ O.length ∧ i = .int .i64 y ∧ (∃ os, RelI O x y os ∧ Ow cI 2 G wr (.slice (some ⟨G, 0, none⟩) O.length O.length) (li os)) ∧ Below wA.heap.size wA wr) (fun i _ => O.length - (intOf i).toNat)
          case atStart => exact ⟨0, Nat.zero_le _, rfl, ⟨_, HRI.out, HOx.out⟩, HBx.out⟩
          case round =>
            clear HRI HOx HBx
            obtain ⟨y, hy, rfl, ⟨os, hri, hp⟩, hb⟩ := hrel
            by_cases hyn : y < O.length
            · obtain ⟨b', o', Ak, ck, e', hblA', hcA, hs1⟩ := HAT.out wA (Below.refl _ _) y hyn
              injection e' with e'
              injection e' with e1 e2
              subst e1 e2
              have hc1 := (hb.cell (p := ⟨b, o + y, none⟩) hblA).trans hcA
              have hbl' := Nat.lt_of_lt_of_le hblA hb.size
              clear hc0 hcA
              by_cases hxy : x = y
              · have HEV : Hid (eqv (fAt O x) (fAt O y) = true) := Lib.hid (by rw [hxy]; exact eqv_refl _)
                have hxy2 : ((x : Int) == (y : Int)) = true := by simp [hxy]
                clear hxy hs1
                have hod := hp.below (Below.refl _ _).drew
                obtain ⟨cj, -, -, -⟩ := hp.at1 rfl (j := x) (by rw [li_length, hri.1]; omega) rfl
                obtain ⟨cj4, fj, -, -⟩ := hod.at1 rfl (j := x) (by rw [li_length, hri.1]; omega) rfl
                rw [li_get] at cj cj4
                have hset := Lib.hid ((hod.set1 (j := x) (x := ((os.getD x 0 ||| 2 ^ y : Nat) : Int)) (u := .int .i64 (os.getD x 0 ||| 2 ^ y : Nat)) rfl rfl (by rw [li_length, hri.1]; omega)))
                rw [li_set] at hset
                have hbs := Lib.hid ((hb.drew).setCell (p := ⟨G, x, none⟩) HGG.out (.int .i64 (os.getD x 0 ||| 2 ^ y : Nat)))
                have HRP := Lib.hid (hri.put hxn HEV.out)
                have hy := hri.lt hO8 hxn (Nat.le_of_lt hyn)
                clear hp hod hb hri
                generalize os.getD x 0 = m at *
                have e2 := i64_or_nat m (2 ^ y) (by omega) (two_pow_lt (by omega))
                have e3 := wrap_two_pow'' (n := y) (by omega)
                rw [← cast_two_pow] at e2
                go_wp2
                go_still_tail 8, (by kernel_rfl)
                change wpList _ _ _ _ _ (World.drew _)
                clear cj
                generalize World.drew _ = w4 at *
                go_wp2
                go_roundw
                case rel => exact ⟨y + 1, by omega, by go_num, ⟨_, HRP.out, hset.out⟩, hbs.out⟩
                case measure => simp [intOf]; omega
              · have HEQ := Lib.hid (impl_equivalent (fAt O x) (fAt O y) _ _ wr (HFA.out x hxn).1 (HFA.out y hyn).1 (HFA.out x hxn).2.1 (HFA.out y hyn).2.1 (HSM.out x y hxn hyn hxy) (HS0.out.below hb) (hs1.below hb))
                have hxy2 : ((x : Int) == (y : Int)) = false := by
                  rw [beq_eq_false_iff_ne]
                  omega
                have HRI := Lib.hid hri
                have HPx := Lib.hid hp
                have HBx := Lib.hid hb
                clear hxy hs1 hri hp hb
                cases hev : eqv (fAt O x) (fAt O y) with
                | false =>
                  rw [hev] at HEQ
                  have HEV := Lib.hid hev
                  clear hev
                  go_wp2_with fail
                  refine HEQ.out.mono ?_
                  rintro e wq ⟨rfl, hbq⟩
                  have HRN := Lib.hid (HRI.out.skip HEV.out)
                  have HPP := Lib.hid (HPx.out.below hbq)
                  have HBB := Lib.hid (bthen HBx.out hbq)
                  clear hbq hc1
                  go_wp2
                  go_roundw
                  case rel => exact ⟨y + 1, by omega, by go_num, ⟨_, HRN.out, HPP.out⟩, HBB.out⟩
                  case measure => simp [intOf]; omega
                | true =>
                  rw [hev] at HEQ
                  have HEV := Lib.hid hev
                  clear hev
                  go_wp2_with fail
                  refine HEQ.out.mono ?_
                  rintro e wq ⟨rfl, hbq⟩
                  have hri := HRI.out
                  have hp := HPx.out.below hbq
                  have hb := bthen HBx.out hbq
                  clear hbq hc1 HRI HPx HBx
                  have hod := hp.below (Below.refl _ _).drew
                  obtain ⟨cj, -, -, -⟩ := hp.at1 rfl (j := x) (by rw [li_length, hri.1]; omega) rfl
                  obtain ⟨cj4, fj, -, -⟩ := hod.at1 rfl (j := x) (by rw [li_length, hri.1]; omega) rfl
                  rw [li_get] at cj cj4
                  have hset := Lib.hid ((hod.set1 (j := x) (x := ((os.getD x 0 ||| 2 ^ y : Nat) : Int)) (u := .int .i64 (os.getD x 0 ||| 2 ^ y : Nat)) rfl rfl (by rw [li_length, hri.1]; omega)))
                  rw [li_set] at hset
                  have hbs := Lib.hid ((hb.drew).setCell (p := ⟨G, x, none⟩) HGG.out (.int .i64 (os.getD x 0 ||| 2 ^ y : Nat)))
                  have HRP := Lib.hid (hri.put hxn HEV.out)
                  have hy := hri.lt hO8 hxn (Nat.le_of_lt hyn)
                  clear hp hod hb hri
                  generalize os.getD x 0 = m at *
                  have e2 := i64_or_nat m (2 ^ y) (by omega) (two_pow_lt (by omega))
                  have e3 := wrap_two_pow'' (n := y) (by omega)
                  rw [← cast_two_pow] at e2
                  go_wp2
                  go_still_tail 8, (by kernel_rfl)
                  change wpList _ _ _ _ _ (World.drew _)
                  clear cj
                  generalize World.drew _ = w4 at *
                  go_wp2
                  go_roundw
                  case rel => exact ⟨y + 1, by omega, by go_num, ⟨_, HRP.out, hset.out⟩, hbs.out⟩
                  case measure => simp [intOf]; omega
            · obtain rfl : y = O.length := by omega
              have HRN := Lib.hid hri.next
              have HPP := Lib.hid hp
              have HBB := Lib.hid hb
              clear hri hp hb
              go_wp2
              go_roundw
              case rel => exact ⟨x + 1, by omega, by go_num, ⟨_, HRN.out, HPP.out⟩, HBB.out⟩
              case measure => simp [intOf]; omega
        · obtain rfl : x = O.length := by omega
          have hrl := hri.last
          subst hrl
          have HCL := Lib.hid (impl_classesOf _ (ikey O) wB ho.sl (fun i => ikey_lt O hO8 i) (by rw [ikey_len]; omega))
          have HKL := Lib.hid (ikey_len O)
          have HBX := Lib.hid (bthen HBW.out hbx)
          have hzz := HBX.out.size
          rw [HKL.out] at HCL
          clear hri ho hbx HO HB5
          go_wp2_with fail
          refine HCL.out.mono ?_
          rintro e w6 ⟨u, rfl, ho, hb⟩
          have HO6 := Lib.hid (ho.mono hzz)
          have HB6 := Lib.hid (bthen HBX.out hb)
          clear ho hb
          go_wp2
          go_ret2
          exact ⟨_, by rw [HC.out]; rfl, by rw [HRR.out]; exact HO6.out, HB6.out⟩
end Go.Proofs.YtaigiopoogbbbaaGreat
