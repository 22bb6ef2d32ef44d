/- Contracts of the reference: IntClasses. -/
import Derived.Test.YtaigiopoogbbbaaGreatY44
import Derived.Test.YtaigiopoogbbbaaGreatY48
namespace Go.Proofs.YtaigiopoogbbbaaGreat
open Go.RowKit
set_option linter.unusedVariables false
set_option linter.unusedSimpArgs false
/-- what IntClasses answers beside its code -/
def IcR (xss : List (List Nd)) (R : List Int) : Prop := (icode xss ≠ 0 → R = []) ∧ (icode xss = 0 → ∃ O : List Fm, xss = O.map enc ∧ (∀ g ∈ O, gdF1 g) ∧ O.length ≤ 8 ∧ R = li (dvd (fun y => (ikey O).getD y 0) O.length).1)
theorem tot_lenI {yss : List (List Nd)} {n : Nat} (h : tot yss ≤ n) : yss.length ≤ n ∧ ∀ xs ∈ yss, xs.length ≤ n := by
  have hT : tot yss = yss.length + sumL yss := rfl
  refine ⟨by omega, fun xs hx => ?_⟩
  obtain ⟨i, hi, rfl⟩ := List.mem_iff_getElem.1 hx
  have := sumL_get yss i hi
  omega
theorem all_encI : ∀ (yss : List (List Nd)), yss.all isF = true → ∃ I : List Fm, yss = I.map enc ∧ ∀ g ∈ I, g.ok = true ∧ (enc g).length ≤ 40
  | [], _ => ⟨[], rfl, fun g h => by cases h⟩
  | y :: yss, h => by
    simp only [List.all_cons, Bool.and_eq_true] at h
    obtain ⟨I, rfl, hI⟩ := all_encI yss h.2
    obtain ⟨f, hok, rfl, hl⟩ := (isF_iff _).1 h.1
    exact ⟨f :: I, rfl, fun g hg => by rcases List.mem_cons.1 hg with rfl | hg; exact ⟨hok, hl⟩; exact hI g hg⟩
theorem all_get {α : Type} {p : α → Bool} {xs : List α} (h : ∀ k (hk : k < xs.length), p (xs[k]'hk) = true) : xs.all p = true :=
  List.all_eq_true.2 fun x hx => by obtain ⟨k, hk, rfl⟩ := List.getElem_of_mem hx; exact h k hk
theorem icode_1 {xss : List (List Nd)} {j : Nat} (hj : j < xss.length) (h : isF (xss[j]'hj) = false) : icode xss = 1 := by
  unfold icode; rw [if_neg]; intro h1; rw [List.all_eq_true.1 h1 _ (List.getElem_mem hj)] at h; cases h
theorem icode_2 {xss : List (List Nd)} (h : xss.all isF = true) (h2 : 8 < xss.length) : icode xss = 2 := by
  unfold icode; rw [if_pos h, if_pos h2]
theorem icode_5 {xss : List (List Nd)} (h : xss.all isF = true) (h2 : ¬ 8 < xss.length) (h3 : xss.all pl = false) : icode xss = 5 := by
  unfold icode; rw [if_pos h, if_neg h2, if_neg (by rw [h3]; decide)]
theorem icode_3 {xss : List (List Nd)} (h : xss.all isF = true) (h2 : ¬ 8 < xss.length) (h3 : xss.all pl = true) (h4 : bigP xss = true) : icode xss = 3 := by
  unfold icode; rw [if_pos h, if_neg h2, if_pos h3, if_pos h4]
theorem icode_0 {xss : List (List Nd)} (h : xss.all isF = true) (h2 : ¬ 8 < xss.length) (h3 : xss.all pl = true) (h4 : bigP xss = false) : icode xss = 0 := by
  unfold icode; rw [if_pos h, if_neg h2, if_pos h3, if_neg (by rw [h4]; decide)]
theorem getD_at (xss : List (List Nd)) {j : Nat} (h : j < xss.length) : xss.getD j [] = xss[j] := by
  rw [List.getD_eq_getElem?_getD, List.getElem?_eq_getElem h]; rfl
set_option maxRecDepth 100000 in
set_option maxHeartbeats 1000000 in
/-- the last loops, behind all checks -/
theorem spec_IntClasses (v : Value) (xss : List (List Nd)) (R : List Int) (w : World) (h : Sl2 cN w v xss) (hl : tot xss ≤ 1048576) (hR : IcR xss R) :
    Calls Tryz.prog 5 #[v] w fun e w' => ∃ u, e = .returned (.tuple #[u, .int .i64 (icode xss)]) ∧ Ow cI 2 w.heap.size w' u R ∧ Below w.heap.size w w' := by
  obtain ⟨A, c, rfl⟩ := h.opn
  have H2 := Lib.hid h
  have hln := (tot_lenI hl).1
  have HY := Lib.hid (tot_lenI hl).2
  have HR0 := Lib.hid hR.1
  have HR1 := Lib.hid hR.2
  have HP1 := Lib.hid (fun j (hj : j < xss.length) (e : isF (xss[j]'hj) = false) => icode_1 hj e)
  have HT := Lib.hid (fun j (hj : j < xss.length) => show (xss.take (j + 1)).all pl = ((xss.take j).all pl && pl (xss[j]'hj)) by rw [List.take_succ_eq_append_getElem hj, List.all_append]; simp)
  have HT0 : Hid ((xss.take 0).all pl = true) := Lib.hid rfl
  clear h hl hR
  go_enter Tryz.func5, Tryz.ntmps5
  go_wp2
  go_loop [4, 5] (fun q i => ∃ j : Nat, j ≤ xss.length ∧ i = .int .i64 j ∧ q = .bool ((xss.take j).all pl) ∧ ∀ k (hk : k < xss.length), k < j → isF (xss[k]'hk) = true) (fun _ i => xss.length - (intOf i).toNat)
  case atStart => exact ⟨0, Nat.zero_le _, rfl, by rw [HT0.out], fun k hk h => by omega⟩
  case round =>
    obtain ⟨j, hj, rfl, rfl, hh⟩ := hrel
    have HH := Lib.hid hh
    clear hh
    by_cases hlt : j < xss.length
    · obtain ⟨b, o, Ai, ci, rfl, hbl, hc0, hs⟩ := H2.out.atM hlt
      have HI := Lib.hid (spec_l02Is _ _ _ hs (by have := HY.out _ (List.getElem_mem hlt); omega))
      have HJ := Lib.hid (spec_l02Plain _ _ _ hs (by have := HY.out _ (List.getElem_mem hlt); omega))
      have HPj := Lib.hid (HP1.out j hlt)
      have HTj := Lib.hid (HT.out j hlt)
      obtain ⟨m, hm⟩ : ∃ m, (xss[j]'hlt).length = m := ⟨_, rfl⟩
      obtain ⟨z, hz⟩ : ∃ z, isF (xss[j]'hlt) = z := ⟨_, rfl⟩
      have HZ := Lib.hid hz
      rw [hz] at HI HPj
      rw [hm] at HI HJ hc0
      clear hs hm hz
      generalize pl (xss[j]'hlt) = r at *
      obtain ⟨q, hq⟩ : ∃ q, (xss.take j).all pl = q := ⟨_, rfl⟩
      rw [hq] at HTj ⊢
      clear hq
      cases z
      · have HC := Lib.hid (HPj.out (by trivial))
        have HRR : Hid (R = []) := Lib.hid (HR0.out (by rw [HC.out]; decide))
        cases q
        all_goals
          go_wp2_with fail
          refine HI.out.mono ?_
          rintro e w2 ⟨rfl, rfl⟩
          go_wp2
          go_ret2
          exact ⟨_, by rw [HC.out]; rfl, by rw [HRR.out]; exact Ow.nil _ _, Below.refl _ _⟩
      · have HN : Hid (∀ k (hk : k < xss.length), k < j + 1 → isF (xss[k]'hk) = true) := Lib.hid fun k hk hkj => by
          by_cases e : k = j
          · subst e; exact HZ.out
          · exact HH.out k hk (by omega)
        cases q
        · go_wp2_with fail
          refine HI.out.mono ?_
          rintro e w2 ⟨rfl, rfl⟩
          go_wp2
          go_round
          case rel => exact ⟨j + 1, by omega, by go_num, by rw [HTj.out]; rfl, HN.out⟩
          case measure => simp [intOf]; omega
        · go_wp2_with fail
          refine HI.out.mono ?_
          rintro e w2 ⟨rfl, rfl⟩
          go_wp2_with fail
          refine HJ.out.mono ?_
          rintro e w2 ⟨rfl, rfl⟩
          go_wp2
          go_round
          case rel => exact ⟨j + 1, by omega, by go_num, by rw [HTj.out]; rfl, HN.out⟩
          case measure => simp [intOf]; omega
    · obtain rfl : j = xss.length := by omega
      have HAF : Hid (xss.all isF = true) := Lib.hid (all_get fun k hk => HH.out k hk hk)
      clear HH hlt hj HP1 HT HT0
      rw [List.take_length]
      by_cases h8 : 8 < xss.length
      · have HC := Lib.hid (icode_2 HAF.out h8)
        have HRR : Hid (R = []) := Lib.hid (HR0.out (by rw [HC.out]; decide))
        generalize xss.all pl = q at *
        go_wp2
        go_ret2
        exact ⟨_, by rw [HC.out]; rfl, by rw [HRR.out]; exact Ow.nil _ _, Below.refl _ _⟩
      cases hpl : xss.all pl
      case false =>
        have HC := Lib.hid (icode_5 HAF.out h8 hpl)
        have HRR : Hid (R = []) := Lib.hid (HR0.out (by rw [HC.out]; decide))
        clear hpl
        go_wp2
        go_ret2
        exact ⟨_, by rw [HC.out]; rfl, by rw [HRR.out]; exact Ow.nil _ _, Below.refl _ _⟩
      case true =>
      have HC3 := Lib.hid (icode_3 HAF.out h8 hpl)
      have HC0 := Lib.hid (icode_0 HAF.out h8 hpl)
      clear hpl
      have HS8 : Hid (xss.length ≤ 8) := Lib.hid (by omega)
      have HPP := Lib.hid (fun i k (h1 : i < xss.length) (h2 : k < i) => show bigP xss = false → (xss.getD i []).length + (xss.getD k []).length ≤ 20 from fun e => bigP_no e h1 h2)
      have HPY := Lib.hid (fun i k (h1 : i < xss.length) (h2 : k < i) (h3 : 20 < (xss.getD i []).length + (xss.getD k []).length) => bigP_yes h1 h2 h3)
      have HGA := Lib.hid (fun j (h : j < xss.length) => getD_at xss h)
      clear HAF
      go_wp2
      clear h8
      go_loopw [6] (fun i wr => ∃ j : Nat, j ≤ xss.length ∧ i = .int .i64 j ∧ Below w.heap.size w wr ∧ ∀ i k, i < j → k < i → (xss.getD i []).length + (xss.getD k []).length ≤ 20) (fun i _ => xss.length - (intOf i).toNat)
      case atStart => exact ⟨0, Nat.zero_le _, rfl, Below.refl _ _, fun i k h => by omega⟩
      case round =>
        obtain ⟨j, hj, rfl, hb, hh⟩ := hrel
        have HH := Lib.hid hh
        have HB := Lib.hid hb
        clear hh hb
        by_cases hlt : j < xss.length
        · go_wp2
          go_loopw [7] (fun i wr => ∃ k : Nat, k ≤ j ∧ i = .int .i64 k ∧ Below w.heap.size w wr ∧ ∀ m, m < k → (xss.getD j []).length + (xss.getD m []).length ≤ 20) (fun i _ => j - (intOf i).toNat)
          case atStart => exact ⟨0, Nat.zero_le _, rfl, HB.out, fun m h => by omega⟩
          case round =>
            clear HB
            obtain ⟨k, hk, rfl, hb, hh⟩ := hrel
            have HK := Lib.hid hh
            have HB := Lib.hid hb
            clear hh
            by_cases hkj : k < j
            · obtain ⟨b, o, Ai, ci, rfl, hbl, hc0, hs0⟩ := (H2.out.below hb).atM hlt
              obtain ⟨b', o', Ak, ck, e', hbl', hc1, hs1⟩ := (H2.out.below hb).atM (show k < xss.length by omega)
              injection e' with e'
              injection e' with e1 e2
              subst e1 e2
              have HL1 := Lib.hid (HY.out _ (List.getElem_mem hlt))
              have HL2 := Lib.hid (HY.out _ (List.getElem_mem (show k < xss.length by omega)))
              have HPk := Lib.hid (HPY.out j k hlt hkj)
              have hg1 := HGA.out j hlt
              have hg2 := HGA.out k (by omega)
              have HNX : Hid ((xss[j]'hlt).length + (xss[k]'(by omega)).length ≤ 20 → ∀ m, m < k + 1 → (xss.getD j []).length + (xss.getD m []).length ≤ 20) := Lib.hid fun h m hm => by
                by_cases e : m = k
                · rw [e, hg1, hg2]; exact h
                · exact HK.out m (by omega)
              rw [hg1, hg2] at HPk
              clear hs0 hs1 hg1 hg2 hb HK hbl'
              generalize (xss[j]'hlt).length = m1 at *
              generalize (xss[k]'(by omega)).length = m2 at *
              have hm1 := HL1.out
              have hm2 := HL2.out
              have ik : (k : Int) < (xss.length : Int) := by omega
              have ij : (j : Int) < (xss.length : Int) := by omega
              by_cases hgt : 20 < m1 + m2
              · have HC := Lib.hid (HC3.out (HPk.out hgt))
                have HRR : Hid (R = []) := Lib.hid (HR0.out (by rw [HC.out]; decide))
                have hgi : (20 : Int) < (m1 : Int) + (m2 : Int) := by omega
                go_wp2
                go_quiet (fail)
                go_wp2
                go_ret2
                exact ⟨_, by rw [HC.out]; rfl, by rw [HRR.out]; exact Ow.nil _ _, below_drewN HB.out _⟩
              · have HN := Lib.hid (HNX.out (by omega))
                have hgi : ¬ (20 : Int) < (m1 : Int) + (m2 : Int) := by omega
                go_wp2
                go_quiet (fail)
                go_wp2
                go_roundw
                case rel => exact ⟨k + 1, by omega, by go_num, below_drewN HB.out _, HN.out⟩
                case measure => simp [intOf]; omega
            · obtain rfl : k = j := by omega
              have HN : Hid (∀ i m, i < k + 1 → m < i → (xss.getD i []).length + (xss.getD m []).length ≤ 20) := Lib.hid fun i m hi hm => by
                by_cases e : i = k
                · subst e; exact HK.out m hm
                · exact HH.out i m (by omega) hm
              clear HK HH hb
              go_wp2
              go_roundw
              case rel => exact ⟨k + 1, by omega, by go_num, HB.out, HN.out⟩
              case measure => simp [intOf]; omega
        · obtain rfl : j = xss.length := by omega
          have HC := Lib.hid (HC0.out (bigP_of fun i k h1 h2 => HH.out i k h1 h2))
          obtain ⟨O, hO, hgd, h8, hRe⟩ := HR1.out HC.out
          have HLE := Lib.hid (fun i k (h1 : i < xss.length) (h2 : k < i) => HH.out i k h1 h2)
          clear HH HC3 HC0 HPP HPY hlt hj
          have HLO : Hid (xss.length = O.length) := Lib.hid (by rw [hO, List.length_map])
          have HGD := Lib.hid hgd
          have HFA : Hid (∀ j (h : j < O.length), xss.getD j [] = enc (fAt O j) ∧ gdF1 (fAt O j)) := Lib.hid fun j h => by
            have e1 : fAt O j = O[j] := by unfold fAt; rw [List.getD_eq_getElem?_getD, List.getElem?_eq_getElem h]; rfl
            rw [e1, hO, List.getD_eq_getElem?_getD, List.getElem?_map, List.getElem?_eq_getElem h]
            exact ⟨rfl, HGD.out _ (List.getElem_mem h)⟩
          have HRE := Lib.hid hRe
          clear HR0 HR1 hO hgd HGD hRe HS8
          have HAT : Hid (∀ W, Below w.heap.size w W → ∀ j (h : j < O.length), ∃ b o Ai ci, A = some ⟨b, o, none⟩ ∧ b < W.heap.size ∧ W.cell? ⟨b, o + j, none⟩ = some (.slice Ai (enc (fAt O j)).length ci) ∧ Sl cN W (.slice Ai (enc (fAt O j)).length ci) (enc (fAt O j))) := Lib.hid fun W hW j h => by
            have h1 : j < xss.length := by rw [HLO.out]; exact h
            have e1 := (HFA.out j h).1
            rw [getD_at xss h1] at e1
            have h2 := (H2.out.below hW).atM h1
            rw [e1] at h2
            exact h2
          have HL2 : Hid (∀ i k, i < O.length → k < i → (enc (fAt O i)).length + (enc (fAt O k)).length ≤ 20) := Lib.hid fun i k h1 h2 => by
            have := HLE.out i k (by rw [HLO.out]; exact h1) h2
            rw [(HFA.out i h1).1, (HFA.out k (by omega)).1] at this
            exact this
          have HFG : Hid (∀ j, j < O.length → gdF1 (fAt O j)) := Lib.hid fun j h => (HFA.out j h).2
          have HKE := Lib.hid (fun i k (hi : i < O.length) (hk : k < O.length) => ikey_eq O hi hk)
          have hnO := HLO.out
          clear H2 HLE HFA HY HGA HLO
          generalize xss.length = n1 at *
          subst hnO
          obtain ⟨w1, hw1⟩ : ∃ W, W = wr := ⟨_, rfl⟩
          subst hw1
          obtain ⟨key, hkey⟩ : ∃ key, (fun y => (ikey O).getD y 0) = key := ⟨_, rfl⟩
          have HKK : Hid (∀ i, (ikey O).getD i 0 = key i) := Lib.hid fun i => by rw [← hkey]
          have HRR : Hid (R = li (dvd key O.length).1) := Lib.hid (by rw [← hkey]; exact HRE.out)
          have HKE : Hid (∀ i k, i < O.length → k < O.length → (key k = key i ↔ eqv (fAt O i) (fAt O k) = true)) := Lib.hid fun i k h1 h2 => by rw [← HKK.out, ← HKK.out]; exact ikey_eq O h1 h2
          clear HKK hkey HRE
          have hz1 := HB.out.size
          go_wp2
          go_loopw [8, 9, 10] (fun v ct i wr => ∃ x : Nat, x ≤ O.length ∧ i = .int .i64 x ∧ ct = .int .i64 (dvd key x).2 ∧ Ow cI 2 w1.heap.size wr v (li (dvd key x).1) ∧ Below w1.heap.size w1 wr) (fun _ _ i _ => O.length - (intOf i).toNat)
          case atStart => exact ⟨0, Nat.zero_le _, rfl, rfl, Ow.lit [] rfl rfl (Nat.le_refl _), (Below.refl _ _).alloc (Nat.le_refl _) _⟩
          case round =>
            obtain ⟨x, hx, rfl, rfl, ho, hb⟩ := hrel
            obtain ⟨Ao, co, rfl⟩ := ho.opn
            have hLo : (li (dvd key x).1).length = x := by rw [li_length]; exact dvd_length _ _
            rw [hLo] at ho ⊢
            have HO := Lib.hid ho
            have HBx := Lib.hid hb
            by_cases hxn : x < O.length
            · clear ho hb
              have hcx := dvd_count key x
              have HD : Hid (dvd key (x + 1) = match (List.range x).find? (fun y => decide (key y = key x)) with
                | some y => ((dvd key x).1 ++ [(dvd key x).1.getD y 0], (dvd key x).2)
                | none => ((dvd key x).1 ++ [(dvd key x).2], (dvd key x).2 + 1)) := Lib.hid rfl
              have HLT := Lib.hid (dvd_lt key x)
              obtain ⟨d, hd⟩ : ∃ d, dvd key x = d := ⟨_, rfl⟩
              rw [hd] at HO hcx HD HLT hLo ⊢
              obtain ⟨dl, dc⟩ := d
              clear hd
              simp only at HO hcx HD HLT hLo ⊢
              have HLd := Lib.hid hLo
              go_wp2
              go_loopw [11, 12] (fun cl y wq => ∃ j : Nat, j ≤ x ∧ y = .int .i64 j ∧ ((cl = .int .i64 (-1) ∧ ∀ i, i < j → ¬ key i = key x) ∨
                (∃ i, cl = .int .i64 (dl.getD i 0 : Nat) ∧ i < x ∧ (List.range x).find? (fun y => decide (key y = key x)) = some i)) ∧ Ow cI 2 w1.heap.size wq (.slice Ao x co) (li dl) ∧ Below w1.heap.size w1 wq) (fun _ y _ => x - (intOf y).toNat)
              case atStart => exact ⟨0, Nat.zero_le _, rfl, .inl ⟨rfl, fun i hi => by omega⟩, HO.out, HBx.out⟩
              case round =>
                clear HO HBx
                obtain ⟨j, hj, rfl, hor, ho, hb⟩ := hrel
                obtain ⟨wq, hwq⟩ : ∃ W, W = wr := ⟨_, rfl⟩
                subst hwq
                have HO := Lib.hid ho
                have HBx := Lib.hid hb
                have hsz := hb.size
                clear ho hb
                rcases hor with ⟨rfl, hno⟩ | ⟨i, rfl, hix, hfi⟩
                · by_cases hjx : j < x
                  · have HNO := Lib.hid hno
                    clear hno
                    obtain ⟨b, o, Ai, ci, rfl, hbl, hc0, hs0⟩ := HAT.out _ (bthen HB.out HBx.out) x hxn
                    obtain ⟨b', o', Ak, ck, e', hbl', hc1, hs1⟩ := HAT.out _ (bthen HB.out HBx.out) j (by omega)
                    injection e' with e'
                    injection e' with e1 e2
                    subst e1 e2
                    have hll := HL2.out x j hxn hjx
                    have HOR := Lib.hid (fun W (h1 : Sl cN W (.slice Ai (enc (fAt O x)).length ci) (enc (fAt O x))) (h2 : Sl cN W (.slice Ak (enc (fAt O j)).length ck) (enc (fAt O j))) => spec_l23Order (fAt O x) (fAt O j) _ _ W (HFG.out x hxn) (HFG.out j (by omega)) ⟨by omega, by omega⟩ h1 h2)
                    have HZ : Hid ((ord3 (fAt O x) (fAt O j) == 0) = true ↔ key j = key x) := Lib.hid (by rw [ord3_zero, HKE.out x j hxn (by omega)])
                    have S0 : Hid (Sl cN (World.drew wq) (.slice Ai (enc (fAt O x)).length ci) (enc (fAt O x))) := Lib.hid hs0
                    have S1 : Hid (Sl cN (World.drew wq) (.slice Ak (enc (fAt O j)).length ck) (enc (fAt O j))) := Lib.hid hs1
                    have hdw : Below wq.heap.size wq (World.drew wq) := (Below.refl _ _).drew
                    have HO4 := Lib.hid (HO.out.below hdw)
                    have HB4 := Lib.hid (bthen HBx.out hdw)
                    clear hs0 hs1 hdw hbl' hll HO HBx
                    generalize (enc (fAt O x)).length = m1 at *
                    generalize (enc (fAt O j)).length = m2 at *
                    generalize ord3 (fAt O x) (fAt O j) = z at *
                    have ij : (j : Int) < (O.length : Int) := by omega
                    have ix : (x : Int) < (O.length : Int) := by omega
                    go_wp2
                    go_still_tail 8, (by kernel_rfl)
                    change wpList _ _ _ _ _ (World.drew _)
                    clear hc0 hc1 hbl
                    generalize World.drew _ = w4 at *
                    go_wp2_with fail
                    refine (HOR.out _ S0.out S1.out).mono ?_
                    rintro e w5 ⟨rfl, hb5⟩
                    have HO5 := Lib.hid (HO4.out.below hb5)
                    have HB5 := Lib.hid (bthen HB4.out hb5)
                    clear hb5 HO4 HB4 S0 S1 HOR
                    have hjo : j < (li dl).length := by rw [HLd.out]; exact hjx
                    obtain ⟨b2, o2, hA2, hbl2, hd0⟩ := HO5.out.sl.atI hjo
                    rw [li_get] at hd0
                    subst hA2
                    obtain ⟨q, hqq⟩ : ∃ q, dl.getD j 0 = q := ⟨_, rfl⟩
                    have HQQ := Lib.hid hqq
                    rw [hqq] at hd0
                    clear hqq
                    have jx : (j : Int) < (x : Int) := by omega
                    by_cases he : key j = key x
                    · have hz : z = 0 := by simpa using HZ.out.2 he
                      subst hz
                      have HF : Hid ((List.range x).find? (fun y => decide (key y = key x)) = some j) := Lib.hid (find_first hjx (decide_eq_true he) (fun i hi => decide_eq_false (HNO.out i hi)))
                      clear he HNO HZ
                      go_wp2
                      go_roundw
                      case rel => exact ⟨j + 1, by omega, by go_num, .inr ⟨j, by rw [HQQ.out], hjx, HF.out⟩, HO5.out, HB5.out⟩
                      case measure => simp [intOf]; omega
                    · have hz : ¬ z = 0 := fun e => he (HZ.out.1 (by rw [e]; rfl))
                      have HNO' : Hid (∀ i, i < j + 1 → ¬ key i = key x) := Lib.hid (fun i hi => (Nat.lt_or_ge i j).elim (fun h => HNO.out i h) (fun h => (show i = j by omega) ▸ he))
                      clear he HNO HZ
                      go_wp2
                      go_roundw
                      case rel => exact ⟨j + 1, by omega, by go_num, .inl ⟨rfl, HNO'.out⟩, HO5.out, HB5.out⟩
                      case measure => simp [intOf]; omega
                  · have hjx : j = x := by omega
                    subst hjx
                    have HF : Hid ((List.range j).find? (fun y => decide (key y = key j)) = none) := Lib.hid (by
                      rw [List.find?_eq_none]
                      intro y hy
                      rw [List.mem_range] at hy
                      rw [decide_eq_true_eq]
                      exact hno y hy)
                    rw [HF.out] at HD
                    have HD2 : Hid (dvd key (j + 1) = (dl ++ [dc], dc + 1)) := Lib.hid HD.out
                    clear hno HF HD
                    go_wp2_with (at_builtin; refine stopHere ?_)
                    refine goHere ?_
                    refine ap_one (K := cI) _ ty_int64 rfl _ _ rfl (B := w1.heap.size) (xs := li dl) rfl HO.out (dc : Int) rfl rfl (by rw [HLd.out]; omega) hsz ?_
                    intro v1 w5 ho1 hg1 hb1 hat1
                    have O1 := Lib.hid ho1
                    have HB5 := Lib.hid (HBx.out.trans hb1)
                    clear ho1 hg1 hb1 hat1
                    go_wp2
                    go_roundw
                    case rel => exact ⟨j + 1, by omega, by go_num, by rw [HD2.out]; go_num, by rw [HD2.out, show li (dl ++ [dc]) = li dl ++ [(dc : Int)] from li_append _ _]; exact O1.out, HB5.out⟩
                    case measure => simp [intOf]; omega
                · rw [hfi] at HD
                  have HD2 : Hid (dvd key (x + 1) = (dl ++ [dl.getD i 0], dc)) := Lib.hid HD.out
                  clear hfi HD
                  generalize hq : dl.getD i 0 = q at *
                  clear hq
                  have hd1 : decide ((q : Int) < 0) = false := decide_eq_false (by omega)
                  by_cases hjx : j < x
                  all_goals
                    go_wp2_with (at_builtin; refine stopHere ?_)
                    refine goHere ?_
                    refine ap_one (K := cI) _ ty_int64 rfl _ _ rfl (B := w1.heap.size) (xs := li dl) rfl HO.out (q : Int) rfl rfl (by rw [HLd.out]; omega) hsz ?_
                    intro v1 w5 ho1 hg1 hb1 hat1
                    have O1 := Lib.hid ho1
                    have HB5 := Lib.hid (HBx.out.trans hb1)
                    clear ho1 hg1 hb1 hat1
                    go_wp2
                    go_roundw
                    case rel => exact ⟨x + 1, by omega, by go_num, by rw [HD2.out], by rw [HD2.out, show li (dl ++ [q]) = li dl ++ [(q : Int)] from li_append _ _]; exact O1.out, HB5.out⟩
                    case measure => simp [intOf]; omega
            · obtain rfl : x = O.length := by omega
              have hO2 := Lib.hid (ho.mono hz1)
              clear ho hb
              go_wp2
              go_ret2
              exact ⟨_, by rw [HC.out]; rfl, by rw [HRR.out]; exact hO2.out, bthen HB.out HBx.out⟩
end Go.Proofs.YtaigiopoogbbbaaGreat
