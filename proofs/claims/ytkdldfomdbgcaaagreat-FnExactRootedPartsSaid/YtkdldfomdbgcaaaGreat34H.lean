/- Contracts of the least renumbering, of the reference: l05Orders, l05Least. -/
import Derived.Test.YtkdldfomdbgcaaaGreat34G
import Derived.Test.YtkdldfomdbgcaaaGreat34U
namespace Go.Proofs.YtkdldfomdbgcaaaGreat
open Go.RowKit
set_option linter.unusedVariables false
set_option linter.unusedSimpArgs false
theorem ty_intssO : Ty Tryz.prog 83 22 (.slice none 0 0) 1 24 := Ty.mk' Tryz.underlying83 (by kernel_rfl) rfl (by decide)
theorem OwI.monoO {B B' : Nat} {R : Option Nat} {w : World} {v : Value} {xss : List (List Int)} (h : OwI B R w v xss) (hB : B' ≤ B) : OwI B' R w v xss := by
  obtain ⟨hs, h1, h0, h2, h3⟩ := h
  exact ⟨hs, h1.mono hB, h0, h2, h3⟩
theorem OwI.nilO {B : Nat} {w : World} (hB : B ≤ w.heap.size) : OwI B none (w.alloc (.cells #[] 22)) (.slice (some ⟨w.heap.size, 0, none⟩) 0 0) [] :=
  ⟨[], Ow.lit (K := cH) [] rfl rfl hB, fun r hr => (by cases hr), rfl, fun i a b => by simp at a⟩
theorem OwI.startO (w : World) : OwI w.heap.size none ((w.alloc (.cells #[] 2)).alloc (.cells #[.slice (some ⟨w.heap.size, 0, none⟩) 0 0] 22)) (.slice (some ⟨w.heap.size + 1, 0, none⟩) 1 1) [[]] := by
  have h := OwI.one (B := w.heap.size) (w := w.alloc (.cells #[] 2)) (B2 := w.heap.size) (A := some ⟨w.heap.size, 0, none⟩) (n := 0) (c := 0) (xs := []) (Ow.lit (K := cI) [] rfl rfl (Nat.le_refl _)) (by simp)
  rw [show (w.alloc (.cells #[] 2)).heap.size = w.heap.size + 1 by simp] at h
  exact h
/-- the orders that the first i of a level make -/
def nxa (n : Nat) (L : List (List Nat)) (i : Nat) : List (List Nat) := (L.take i).flatMap fun o => (frs n o).map fun v => o ++ [v]
/-- those that one order makes with numbers below v -/
def nxb (o : List Nat) (v : Nat) : List (List Nat) := (frs v o).map fun v => o ++ [v]
theorem nxa_zero (n : Nat) (L : List (List Nat)) : nxa n L 0 = [] := by simp [nxa]
theorem nxa_all (n : Nat) (L : List (List Nat)) : nxa n L L.length = nxt n L := by unfold nxa nxt; rw [List.take_length]
theorem nxa_succ (n : Nat) (L : List (List Nat)) {i : Nat} (hi : i < L.length) : nxa n L (i + 1) = nxa n L i ++ nxb L[i] n := by
  unfold nxa nxb
  rw [List.take_succ_eq_append_getElem hi, List.flatMap_append]
  simp
theorem nxb_zero (o : List Nat) : nxb o 0 = [] := by simp [nxb, frs]
theorem nxb_succ (o : List Nat) (v : Nat) : nxb o (v + 1) = if v ∈ o then nxb o v else nxb o v ++ [o ++ [v]] := by
  unfold nxb frs
  rw [List.range_succ, List.filter_append, List.map_append]
  by_cases h : v ∈ o
  · rw [if_pos h]; simp [h]
  · rw [if_neg h]; simp [h]
theorem nxb_len (o : List Nat) : ∀ v, (nxb o v).length ≤ v
  | 0 => by rw [nxb_zero]; exact Nat.le_refl _
  | v + 1 => by
    rw [nxb_succ]
    have := nxb_len o v
    split
    · omega
    · simp; omega
theorem nxa_len (n : Nat) (L : List (List Nat)) : ∀ i, i ≤ L.length → (nxa n L i).length ≤ i * n
  | 0, _ => by rw [nxa_zero]; simp
  | i + 1, h => by
    rw [nxa_succ n L (by omega), List.length_append]
    have h1 := nxa_len n L i (by omega)
    have h2 := nxb_len L[i] n
    rw [Nat.succ_mul]
    omega
theorem ors_len (n : Nat) : ∀ k, (ors n k).length ≤ n ^ k
  | 0 => by simp [ors]
  | k + 1 => by
    rw [ors, ← nxa_all]
    have h1 := nxa_len n (ors n k) _ (Nat.le_refl _)
    have h2 := ors_len n k
    rw [Nat.pow_succ]
    exact Nat.le_trans h1 (Nat.mul_le_mul_right _ h2)
theorem ors_len6 {n k : Nat} (hn : n ≤ 6) (hk : k ≤ n) : (ors n k).length ≤ 46656 := by
  refine Nat.le_trans (ors_len n k) ?_
  by_cases h0 : n = 0
  · subst h0
    have : k = 0 := by omega
    subst this
    decide
  · exact Nat.le_trans (Nat.pow_le_pow_right (by omega) (by omega : k ≤ 6)) (Nat.pow_le_pow_left hn 6)
theorem ors_in {n : Nat} : ∀ {k : Nat} {o : List Nat}, o ∈ ors n k → Ord n o ∧ o.length = k := by
  intro k o h
  rw [ors_eq] at h
  have := ext_ord (n := n) k [] o ⟨by simp, by simp⟩ h
  refine ⟨this.1, by simpa using this.2⟩
theorem mapli_get (L : List (List Nat)) (k : Nat) (h : k < (L.map li).length) : (L.map li)[k] = li (L[k]'(by simpa using h)) := by simp
theorem mem_liO (o : List Nat) (v : Nat) : decide ((v : Int) ∈ li o) = decide (v ∈ o) := by
  congr 1
  unfold li
  rw [List.mem_map]
  apply propext
  constructor
  · rintro ⟨x, h, e⟩
    have : x = v := by exact_mod_cast e
    rwa [← this]
  · exact fun h => ⟨v, h, rfl⟩
set_option maxRecDepth 100000 in
set_option maxHeartbeats 1000000 in
theorem spec_l05Orders (n : Nat) (w : World) (hn : n ≤ 6) :
    Calls Tryz.prog 71 #[.int .i64 (n : Int)] w fun e w' => ∃ v, e = .returned v ∧ Sl2 cI w' v ((ors n n).map li) ∧ Below w.heap.size w w' := by
  have HLE := Lib.hid (fun k (hk : k ≤ n) => ors_len6 hn hk)
  have HIN := Lib.hid (fun k o (h : o ∈ ors n k) => ors_in h)
  go_enter Tryz.func71, Tryz.ntmps71
  go_wp2
  go_loopw [3, 4] (fun o k wr => ∃ j : Nat, j ≤ n ∧ k = .int .i64 j ∧ OwI w.heap.size none wr o ((ors n j).map li) ∧ Below w.heap.size w wr) (fun _ k _ => n - (intOf k).toNat)
  case atStart => exact ⟨0, Nat.zero_le _, rfl, OwI.startO w, bthen (below_alloc' _ _) (below_alloc' _ _)⟩
  case round =>
    obtain ⟨j, hj, rfl, ho, hb⟩ := hrel
    obtain ⟨w1, hw1⟩ : ∃ W, W = wr := ⟨_, rfl⟩
    subst hw1
    obtain ⟨A, c, rfl⟩ := ho.sl2.opn
    have hLL := HLE.out j hj
    have hIN := HIN.out j
    have HNX : Hid (nxa n (ors n j) (ors n j).length = ors n (j + 1)) := Lib.hid (nxa_all n (ors n j))
    have HNL := Lib.hid (nxa_len n (ors n j))
    have HNS := Lib.hid (fun i (hi : i < (ors n j).length) => nxa_succ n (ors n j) hi)
    have HN0 := Lib.hid (nxa_zero n (ors n j))
    rw [List.length_map] at ho ⊢
    have HO := Lib.hid ho
    have HB := Lib.hid hb
    clear ho hb
    by_cases hlt : j < n
    · have i1 : (j : Int) < (n : Int) := by omega
      generalize ors n j = L at *
      obtain ⟨LL, hLE⟩ : ∃ q, L.length = q := ⟨_, rfl⟩
      rw [hLE] at HO hLL HNX HNL ⊢
      have HLE2 := Lib.hid hLE
      have HIN2 := Lib.hid hIN
      clear hLE hIN
      go_wp2
      go_loopw [5, 6] (fun nx i wr => ∃ q : Nat, q ≤ LL ∧ i = .int .i64 q ∧ OwI w1.heap.size none wr nx ((nxa n L q).map li) ∧ Below w1.heap.size w1 wr) (fun _ i _ => LL - (intOf i).toNat)
      case atStart => exact ⟨0, Nat.zero_le _, rfl, by rw [HN0.out]; exact OwI.nilO (Nat.le_refl _), below_alloc' _ _⟩
      case round =>
        obtain ⟨q, hq, rfl, ho, hb⟩ := hrel
        obtain ⟨w2, hw2⟩ : ∃ W, W = wr := ⟨_, rfl⟩
        subst hw2
        have OX := Lib.hid ho
        have BX := Lib.hid hb
        clear ho hb
        by_cases hlq : q < LL
        · have i2 : (q : Int) < (LL : Int) := by omega
          have hqm : q < L.length := by rw [HLE2.out]; exact hlq
          have HNq := Lib.hid (HNS.out q hqm)
          have HIq := HIN2.out L[q] (List.getElem_mem hqm)
          have HOL : Hid ((li L[q]).length = j) := Lib.hid (by rw [li_length]; exact HIq.2)
          have hxl := HNL.out q (by omega)
          have HXL : Hid ((nxa n L q).length ≤ 279936) := Lib.hid (Nat.le_trans hxl (Nat.le_trans (Nat.mul_le_mul (by omega : q ≤ 46656) hn) (by decide)))
          have HYL := Lib.hid (nxb_len L[q])
          have HYS := Lib.hid (nxb_succ L[q])
          have HY0 := Lib.hid (nxb_zero L[q])
          obtain ⟨b, o, Ai, ni, ci, rfl, hbl, hc0, hs0⟩ := HO.out.sl2.at_ (k := q) (by rw [List.length_map, HLE2.out]; exact hlq)
          rw [mapli_get L q (by rw [List.length_map]; exact hqm)] at hs0
          have hni : ni = j := by
            obtain ⟨A', c', hv⟩ := hs0.opn
            rw [HOL.out] at hv
            injection hv
          subst hni
          have HQ0 := Lib.hid hs0
          have HC0 : Hid (w1.cell? ⟨b, o + q, none⟩ = some (.slice Ai ni ci)) := Lib.hid hc0
          have HBL : Hid (b < w1.heap.size) := Lib.hid hbl
          have HML := Lib.hid (mem_liO L[q])
          clear hs0 hc0 hbl hxl
          generalize L[q] = oq at *
          go_wp2
          go_loopw [5, 7] (fun nx v wr => ∃ m : Nat, m ≤ n ∧ v = .int .i64 m ∧ OwI w1.heap.size none wr nx ((nxa n L q ++ nxb oq m).map li) ∧ Below w1.heap.size w1 wr) (fun _ v _ => n - (intOf v).toNat)
          case atStart => exact ⟨0, Nat.zero_le _, rfl, by rw [HY0.out, List.append_nil]; exact OX.out, BX.out⟩
          case round =>
            obtain ⟨m, hm, rfl, ho, hb⟩ := hrel
            obtain ⟨w3, hw3⟩ : ∃ W, W = wr := ⟨_, rfl⟩
            subst hw3
            obtain ⟨A5, c5, e5⟩ := ho.sl2.opn
            obtain ⟨l5, hl5⟩ : ∃ z, ((nxa n L q ++ nxb oq m).map li).length = z := ⟨_, rfl⟩
            have hl6 : l5 ≤ 279942 := by
              rw [← hl5, List.length_map, List.length_append]
              have := HXL.out
              have := HYL.out m
              omega
            rw [hl5] at e5
            subst e5
            have HL5 := Lib.hid hl5
            have O3 := Lib.hid ho
            have B3 := Lib.hid hb
            have hc3 : w3.cell? ⟨b, o + q, none⟩ = some (.slice Ai ni ci) := (hb.cell (p := ⟨b, o + q, none⟩) HBL.out).trans HC0.out
            have HQ3 := Lib.hid (HQ0.out.below hb)
            clear ho hb hl5
            by_cases hlm : m < n
            · have i3 : (m : Int) < (n : Int) := by omega
              have HSm := Lib.hid (HYS.out m)
              have HHa := Lib.hid (fun W (hW : Sl cI W (.slice Ai ni ci) (li oq)) => spec_l01Has _ (li oq) m W hW (by rw [HOL.out]; omega))
              rw [HML.out m] at HHa
              go_wp2_with fail
              refine (HHa.out _ HQ3.out).mono ?_
              rintro e w4 ⟨rfl, rfl⟩
              by_cases hin : m ∈ oq
              · rw [if_pos hin] at HSm
                rw [decide_eq_true hin]
                clear hin
                go_wp2
                go_roundw
                case rel => exact ⟨m + 1, by omega, by go_num, by rw [HSm.out]; exact O3.out, B3.out⟩
                case measure => simp [intOf]; omega
              · rw [if_neg hin] at HSm
                rw [decide_eq_false hin]
                clear hin
                go_wp2_with fail
                refine (spec_l01Own _ (li oq) _ HQ3.out (by rw [HOL.out]; omega)).mono ?_
                rintro e w4 ⟨u4, rfl, ho4, hb4⟩
                obtain ⟨A6, c6, e6⟩ := ho4.opn
                rw [HOL.out] at e6
                subst e6
                have O4 := Lib.hid ho4
                have B4 := Lib.hid (hb4)
                have hc4 : w4.cell? ⟨b, o + q, none⟩ = some (.slice Ai ni ci) := (hb4.cell (p := ⟨b, o + q, none⟩) (Nat.lt_of_lt_of_le HBL.out B3.out.size)).trans hc3
                clear ho4 hb4 hc3
                go_wp2_with (at_builtin; refine stopHere ?_)
                refine goHere ?_
                refine ap_one (K := cI) _ ty_int64 rfl _ _ rfl (B := w3.heap.size) (v := .slice A6 ni c6) (xs := li oq) rfl O4.out (m : Int) rfl rfl (by rw [HOL.out]; omega) B4.out.size ?_
                intro v5 w5 ho1 hg1 hb1 hat1
                obtain ⟨A7, c7, e7⟩ := ho1.opn
                rw [List.length_append, HOL.out, List.length_singleton] at e7
                subst e7
                have OL : Hid (Ow cI 2 w3.heap.size w5 (.slice A7 (ni + 1) c7) (li (oq ++ [m]))) := Lib.hid (by rw [li_append]; exact ho1)
                have B5 := Lib.hid (B4.out.trans hb1)
                have O5 := Lib.hid (O3.out.below B5.out)
                obtain ⟨hs, g1, g2, g3⟩ := O5.out.push OL.out (by
                  obtain ⟨hs, q1, _⟩ := O3.out
                  exact fun k hk => (q1.block k hk).2) (fun r hr => by cases hr)
                have G1 := Lib.hid g1
                have G2 : Hid (hs.length = l5) := Lib.hid (by rw [g2, HL5.out])
                have G3 := Lib.hid g3
                clear ho1 hg1 hb1 hat1 g1 g2 g3 hc4
                have B6 := Lib.hid (B3.out.trans (B5.out.mono B3.out.size))
                go_wp2_with (at_builtin; refine stopHere ?_)
                refine goHere ?_
                refine ap_one (K := cH) _ ty_intssO rfl _ _ rfl (B := w1.heap.size) (v := .slice A5 l5 c5) (xs := hs) rfl G1.out ⟨A7, ni + 1, c7⟩ rfl rfl (by rw [G2.out]; omega) B6.out.size ?_
                intro v8 w8 ho1 hg1 hb1 hat1
                have O8 := Lib.hid (G3.out _ _ ho1 hg1 hat1)
                have B8 := Lib.hid (B6.out.trans hb1)
                clear ho1 hg1 hb1 hat1
                go_wp2
                go_roundw
                case rel => exact ⟨m + 1, by omega, by go_num, by rw [HSm.out, ← List.append_assoc, List.map_append]; exact O8.out, B8.out⟩
                case measure => simp [intOf]; omega
            · obtain rfl : m = n := by omega
              clear hc3
              go_wp2
              go_roundw
              case rel => exact ⟨q + 1, by omega, by go_num, by rw [HNq.out]; exact O3.out, B3.out⟩
              case measure => simp [intOf]; omega
        · obtain rfl : q = LL := by omega
          go_wp2
          go_roundw
          case rel => exact ⟨j + 1, by omega, by go_num, by rw [← HNX.out]; exact OX.out.monoO HB.out.size, HB.out.trans (BX.out.mono HB.out.size)⟩
          case measure => simp [intOf]; omega
    · obtain rfl : j = n := by omega
      go_wp2
      go_ret
      exact ⟨_, rfl, HO.out.sl2, HB.out⟩
end Go.Proofs.YtkdldfomdbgcaaaGreat
