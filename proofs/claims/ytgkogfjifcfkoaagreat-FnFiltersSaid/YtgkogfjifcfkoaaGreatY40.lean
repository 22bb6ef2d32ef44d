/- Heyting algebras, of the program: pull, imageSet, keeps. -/
import Derived.Test.YtgkogfjifcfkoaaGreatY32
import Derived.Test.YtgkogfjifcfkoaaGreatY39
namespace Go.Proofs.YtgkogfjifcfkoaaGreat
open Go.RowKit
set_option linter.unusedVariables false
set_option linter.unusedSimpArgs false
theorem impl_pullM (v : Value) (m : Nat) (os : List Nat) (w : World) (h : Sl cI w v (li os)) (hm : m < 1073741824) (h30 : os.length ≤ 30) (hx : ∀ x ∈ os, x < 30) :
    Calls Tryz.prog 34 #[v, .int .i64 m] w fun e w' => e = .returned (.int .i64 (sqM m os os.length : Nat)) ∧ w = w' := by
  obtain ⟨R, hR⟩ : ∃ R, sqM m os os.length = R := ⟨_, rfl⟩
  rw [hR]
  have HE := Lib.hid hR
  clear hR
  have HL := Lib.hid (li_length os)
  have HO := Lib.hid (fun j (hj : j < os.length) => hx (os.getD j 0) (getD_mem hj))
  have HST : Hid (∀ k, sqM m os (k + 1) = sqM m os k ||| if m.testBit (os.getD k 0) then 2 ^ k else 0) := Lib.hid fun k => rfl
  have HZ : Hid (sqM m os 0 = 0) := Lib.hid rfl
  have HLT : Hid (∀ k, sqM m os k < 2 ^ k) := Lib.hid (fun k => msk_lt _ _)
  obtain ⟨A, c, rfl⟩ := h.opn
  rw [HL.out] at h ⊢
  clear hx
  go_enter Tryz.func34, Tryz.ntmps34
  go_wp2
  go_loop [5, 10] (fun t i => ∃ j : Nat, j ≤ os.length ∧ i = .int .i64 j ∧ t = .int .i64 (sqM m os j : Nat)) (fun _ i => os.length - (intOf i).toNat)
  case atStart => exact ⟨0, Nat.zero_le _, rfl, by rw [HZ.out]; rfl⟩
  case round =>
    obtain ⟨j, hj, rfl, rfl⟩ := hrel
    by_cases hlt : j < os.length
    · obtain ⟨b, o, rfl, hbl, hc0⟩ := h.atI (k := j) (by rw [HL.out]; exact hlt)
      rw [li_get] at hc0
      have hxn := HO.out j hlt
      have HS := Lib.hid (HST.out j)
      have hq : sqM m os j < 1073741824 := Nat.lt_of_lt_of_le (HLT.out j) (two_pow_30 (by omega))
      generalize os.getD j 0 = x at *
      generalize sqM m os j = q at *
      go_wp2_with fail
      refine (impl_has m x _ (by omega) (by omega)).mono ?_
      rintro e w2 ⟨rfl, rfl⟩
      cases ht : m.testBit x
      · rw [ht] at HS
        clear ht
        go_wp2
        go_round
        case rel => exact ⟨j + 1, by omega, by go_num, by rw [HS.out]; simp⟩
        case measure => simp [intOf]; omega
      · rw [ht] at HS
        clear ht
        have e2 := i64_or_nat q (2 ^ j) (by omega) (two_pow_lt (by omega))
        have e3 := wrap_two_pow'' (n := j) (by omega)
        rw [← cast_two_pow] at e2
        go_wp2
        go_round
        case rel => exact ⟨j + 1, by omega, by go_num, by rw [HS.out]; simp⟩
        case measure => simp [intOf]; omega
    · have HE2 : Hid (sqM m os j = R) := Lib.hid (by rw [← HE.out]; congr 1; omega)
      go_wp2
      go_ret
      exact ⟨by rw [HE2.out]; rfl, rfl⟩
/-- the set of the first images -/
def imS (os : List Nat) : Nat → Nat
  | 0 => 0
  | k + 1 => imS os k ||| 2 ^ os.getD k 0
theorem imS_bit (os : List Nat) (k c : Nat) : (imS os k).testBit c = true ↔ ∃ x, x < k ∧ os.getD x 0 = c := by
  induction k with
  | zero => simp [imS]
  | succ k ih =>
    rw [imS, Nat.testBit_or, Bool.or_eq_true, ih, Nat.testBit_two_pow, decide_eq_true_eq]
    constructor
    · rintro (⟨x, h1, h2⟩ | h)
      · exact ⟨x, by omega, h2⟩
      · exact ⟨k, by omega, h⟩
    · rintro ⟨x, h1, h2⟩
      by_cases hx : x = k
      · subst hx; exact .inr h2
      · exact .inl ⟨x, by omega, h2⟩
theorem imS_lt {os : List Nat} {n : Nat} (h : ∀ x ∈ os, x < n) : ∀ k, k ≤ os.length → imS os k < 2 ^ n
  | 0, _ => Nat.pow_pos (by decide)
  | k + 1, hk => Nat.or_lt_two_pow (imS_lt h k (by omega)) (Nat.pow_lt_pow_right (by decide) (h _ (getD_mem (by omega))))
theorem impl_imageSetM (v : Value) (os : List Nat) (w : World) (h : Sl cI w v (li os)) (h30 : os.length ≤ 30) (hx : ∀ x ∈ os, x < 30) :
    Calls Tryz.prog 31 #[v] w fun e w' => e = .returned (.int .i64 (imS os os.length : Nat)) ∧ w = w' := by
  obtain ⟨R, hR⟩ : ∃ R, imS os os.length = R := ⟨_, rfl⟩
  rw [hR]
  have HE := Lib.hid hR
  clear hR
  have HL := Lib.hid (li_length os)
  have HO := Lib.hid (fun j (hj : j < os.length) => hx (os.getD j 0) (getD_mem hj))
  have HST : Hid (∀ k, imS os (k + 1) = imS os k ||| 2 ^ os.getD k 0) := Lib.hid fun k => rfl
  have HZ : Hid (imS os 0 = 0) := Lib.hid rfl
  have HLT : Hid (∀ k, k ≤ os.length → imS os k < 2 ^ 30) := Lib.hid (imS_lt hx)
  obtain ⟨A, c, rfl⟩ := h.opn
  rw [HL.out] at h ⊢
  clear hx
  go_enter Tryz.func31, Tryz.ntmps31
  go_wp2
  go_loop [3, 8] (fun t i => ∃ j : Nat, j ≤ os.length ∧ i = .int .i64 j ∧ t = .int .i64 (imS os j : Nat)) (fun _ i => os.length - (intOf i).toNat)
  case atStart => exact ⟨0, Nat.zero_le _, rfl, by rw [HZ.out]; rfl⟩
  case round =>
    obtain ⟨j, hj, rfl, rfl⟩ := hrel
    by_cases hlt : j < os.length
    · obtain ⟨b, o, rfl, hbl, hc0⟩ := h.atI (k := j) (by rw [HL.out]; exact hlt)
      rw [li_get] at hc0
      have hxn := HO.out j hlt
      have HS := Lib.hid (HST.out j)
      have hq : imS os j < 1073741824 := HLT.out j hj
      generalize os.getD j 0 = x at *
      generalize imS os j = q at *
      have e2 := i64_or_nat q (2 ^ x) (by omega) (two_pow_lt (by omega))
      have e3 := wrap_two_pow'' (n := x) (by omega)
      rw [← cast_two_pow] at e2
      go_wp2
      go_round
      case rel => exact ⟨j + 1, by omega, by go_num, by rw [HS.out]⟩
      case measure => simp [intOf]; omega
    · have HE2 : Hid (imS os j = R) := Lib.hid (by rw [← HE.out]; congr 1; omega)
      go_wp2
      go_ret
      exact ⟨by rw [HE2.out]; rfl, rfl⟩
/-- the tables, by number -/
def tb3 (A O I : List (List Nat)) : Nat → List (List Nat)
  | 0 => A
  | 1 => O
  | _ => I
def kok (X X' : List (List Nat)) (L : List Nat) (x y : Nat) : Prop := ent X x y < L.length → L.getD (ent X x y) 0 = ent X' (L.getD x 0) (L.getD y 0)
/-- can the first images be those of a homomorphism? -/
def kpP (A O I : List (List Nat)) (b t : Nat) (A' O' I' : List (List Nat)) (b' t' : Nat) (L : List Nat) : Prop :=
  (b < L.length → L.getD b 0 = b') ∧ (t < L.length → L.getD t 0 = t') ∧ ∀ k, k < 3 → ∀ x, x < L.length → ∀ y, y < L.length → kok (tb3 A O I k) (tb3 A' O' I' k) L x y
theorem imgs_cells {w : World} {vv : Option Addr} {cv : Nat} {L : List Nat} (h : Sl cI w (.slice vv L.length cv) (li L)) :
    ∃ bl ol, (0 < L.length → vv = some ⟨bl, ol, none⟩ ∧ bl < w.heap.size) ∧ ∀ W, Below w.heap.size w W → ∀ k, k < L.length → W.cell? ⟨bl, ol + k, none⟩ = some (.int .i64 ((L.getD k 0 : Nat) : Int)) := by
  rcases Nat.eq_zero_or_pos L.length with h0 | h0
  · exact ⟨0, 0, fun hh => by omega, fun W _ k hk => by omega⟩
  · obtain ⟨b, o, rfl, hb, -⟩ := h.atI (k := 0) (by rw [li_length]; exact h0)
    refine ⟨b, o, fun _ => ⟨rfl, hb⟩, fun W hW k hk => ?_⟩
    obtain ⟨b', o', e, hb', hc'⟩ := h.atI (k := k) (by rw [li_length]; exact hk)
    injection e with e
    injection e with e1 e2
    subst e1
    subst e2
    rw [li_get] at hc'
    exact (hW.cell (p := ⟨b, o + k, none⟩) hb').trans hc'
set_option maxHeartbeats 8000000 in
set_option maxRecDepth 100000 in
theorem impl_keeps_yes (a o i a' o' i' v : Value) (A O I A' O' I' : List (List Nat)) (b t b' t' n n' : Nat) (L : List Nat) (w : World) (h : Hy w a o i (lil A) (lil O) (lil I)) (h' : Hy w a' o' i' (lil A') (lil O') (lil I')) (hv : Sl cI w v (li L))
    (tA : TabN n A) (tO : TabN n O) (tI : TabN n I) (tA' : TabN n' A') (tO' : TabN n' O') (tI' : TabN n' I') (hn : n ≤ 30) (hn' : n' ≤ 30) (hL : L.length = n) (hLb : ∀ x ∈ L, x < n') (hbn : b < n) (htn : t < n) (hk : kpP A O I b t A' O' I' b' t' L) :
    Calls Tryz.prog 82 #[.agg #[a, o, i, .int .i64 (b : Int), .int .i64 (t : Int)], .agg #[a', o', i', .int .i64 (b' : Int), .int .i64 (t' : Int)], v] w fun e w' => e = .returned (.bool true) ∧ Below w.heap.size w w' := by
  obtain ⟨va, ca, rfl⟩ := h.a.opn
  obtain ⟨vo, co, rfl⟩ := h.o.opn
  obtain ⟨vi, ci, rfl⟩ := h.i.opn
  obtain ⟨va', ca', rfl⟩ := h'.a.opn
  obtain ⟨vo', co', rfl⟩ := h'.o.opn
  obtain ⟨vi', ci', rfl⟩ := h'.i.opn
  obtain ⟨vv, cv, rfl⟩ := hv.opn
  have lA := (lil_length A).trans tA.l
  have lO := (lil_length O).trans tO.l
  have lI := (lil_length I).trans tI.l
  have lA' := (lil_length A').trans tA'.l
  have lO' := (lil_length O').trans tO'.l
  have lI' := (lil_length I').trans tI'.l
  rw [lA, lO, lI] at h ⊢
  rw [lA', lO', lI'] at h' ⊢
  rw [li_length] at hv ⊢
  have RX0 := run_ix3_0 (.slice va n ca) (.slice vo n co) (.slice vi n ci)
  have RX1 := run_ix3_1 (.slice va n ca) (.slice vo n co) (.slice vi n ci)
  have RX2 := run_ix3_2 (.slice va n ca) (.slice vo n co) (.slice vi n ci)
  have TB : Hid (∀ W, Below w.heap.size w W → ∀ k : Nat, k < 3 → ∃ A1 c1 A2 c2, (∀ W', (Instr.index 91 (.agg #[.slice va n ca, .slice vo n co, .slice vi n ci]) (.int .i64 (k : Int))).run Tryz.prog W' = .ok (.slice A1 n c1) W') ∧ Sl2 cI W (.slice A1 n c1) (lil (tb3 A O I k)) ∧ TabN n (tb3 A O I k) ∧
      (#[.slice va' n' ca', .slice vo' n' co', .slice vi' n' ci'] : Array Value)[k]? = some (.slice A2 n' c2) ∧ Sl2 cI W (.slice A2 n' c2) (lil (tb3 A' O' I' k)) ∧ TabN n' (tb3 A' O' I' k)) := Lib.hid (fun W hW k hk => by
    rcases (show k = 0 ∨ k = 1 ∨ k = 2 by omega) with rfl | rfl | rfl
    · exact ⟨va, ca, va', ca', RX0, (h.below hW).a, tA, rfl, (h'.below hW).a, tA'⟩
    · exact ⟨vo, co, vo', co', RX1, (h.below hW).o, tO, rfl, (h'.below hW).o, tO'⟩
    · exact ⟨vi, ci, vi', ci', RX2, (h.below hW).i, tI, rfl, (h'.below hW).i, tI'⟩)
  have HV := Lib.hid (fun W (hW : Below w.heap.size w W) => hv.below hW)
  have LV := Lib.hid (li_length L)
  have LB := Lib.hid (fun j (hj : j < L.length) => hLb (L.getD j 0) (getD_mem hj))
  obtain ⟨bl, ol, hvv, hcc⟩ := imgs_cells hv
  have HVV := Lib.hid hvv
  have HCC := Lib.hid hcc
  clear hvv hcc
  have T1 := Lib.hid (fun W (hW : Below w.heap.size w W) => impl_tables _ _ _ (b : Int) (t : Int) _ _ _ W (h.below hW))
  have T2 := Lib.hid (fun W (hW : Below w.heap.size w W) => impl_tables _ _ _ (b' : Int) (t' : Int) _ _ _ W (h'.below hW))
  have hb0 := below_alloc' w (.cells #[.slice va n ca, .slice vo n co, .slice vi n ci, .int .i64 (b : Int), .int .i64 (t : Int)] 26)
  have hk0 := Blk.new w 26 #[.slice va n ca, .slice vo n co, .slice vi n ci, .int .i64 (b : Int), .int .i64 (t : Int)]
  have hb1 := below_alloc' (w.alloc (.cells #[.slice va n ca, .slice vo n co, .slice vi n ci, .int .i64 (b : Int), .int .i64 (t : Int)] 26)) (.cells #[.slice va' n' ca', .slice vo' n' co', .slice vi' n' ci', .int .i64 (b' : Int), .int .i64 (t' : Int)] 26)
  have hk1 : Blk _ (w.heap.size + 1) _ _ := Blk.new' (w.alloc (.cells #[.slice va n ca, .slice vo n co, .slice vi n ci, .int .i64 (b : Int), .int .i64 (t : Int)] 26)) 26 #[.slice va' n' ca', .slice vo' n' co', .slice vi' n' ci', .int .i64 (b' : Int), .int .i64 (t' : Int)] (by simp)
  have HB := Lib.hid (bthen hb0 hb1)
  have HK0 := Lib.hid (hk0.below hb1 hk0.lt)
  have HK1 := Lib.hid hk1
  clear hb0 hb1 hk0 hk1 h h' hv tA tO tI tA' tO' tI' RX0 RX1 RX2 lA lO lI lA' lO' lI' hLb
  subst hL
  obtain ⟨kb, kt, kk⟩ := hk
  have KB := Lib.hid (kb hbn)
  have KT := Lib.hid (kt htn)
  have KK : Hid (∀ k, k < 3 → TabN L.length (tb3 A O I k) → ∀ x, x < L.length → ∀ y, y < L.length → L.getD (ent (tb3 A O I k) x y) 0 = ent (tb3 A' O' I' k) (L.getD x 0) (L.getD y 0)) := Lib.hid (fun k hk hT x hx y hy => kk k hk x hx y hy (hT.ent_lt hx hy))
  clear kb kt kk
  go_enter Tryz.func82, Tryz.ntmps82
  go_upto_region 1 with fail
  generalize World.alloc (w.alloc _) _ = W at *
  go_upto_region 2 with fail
  have k0 := HK0.out.cell
  have k1 := HK1.out.cell
  have l0 := HK0.out.lt
  have l1 := HK1.out.lt
  -- WALK
  obtain ⟨hvv, hbl⟩ := HVV.out (by omega)
  subst hvv
  have i1 : (b : Int) < (L.length : Int) := by omega
  have i2 : (t : Int) < (L.length : Int) := by omega
  have hcb := HCC.out W HB.out b hbn
  have hct := HCC.out W HB.out t htn
  rw [KB.out] at hcb
  rw [KT.out] at hct
  have hbe : (((b' : Nat) : Int) != (b' : Int)) = false := by simp
  have hte : (((t' : Nat) : Int) != (t' : Int)) = false := by simp
  go_quiet (fail)
  clear i1 i2 hcb hct hbe hte k0 k1 l0 l1
  replace HB := Lib.hid (below_drewN HB.out nq)
  replace HK0 := Lib.hid (HK0.out.drewN nq)
  replace HK1 := Lib.hid (HK1.out.drewN nq)
  generalize World.drewN W nq = W1 at *
  have k0 := HK0.out.cell
  have k1 := HK1.out.cell
  have l0 := HK0.out.lt
  have l1 := HK1.out.lt
  go_wp2_with fail
  refine (T2.out _ HB.out).mono ?_
  rintro e w2 ⟨rfl, hb⟩
  have HB2 := Lib.hid (bthen HB.out hb)
  have M0 := Lib.hid (HK0.out.below hb l0)
  clear k0 k1 l0 l1 hb T2
  go_upto_region 5 with fail
  have hbx := below_alloc' w2 (.cells #[.slice va' n' ca', .slice vo' n' co', .slice vi' n' ci'] 91)
  have PX := Lib.hid (Blk.new w2 91 #[.slice va' n' ca', .slice vo' n' co', .slice vi' n' ci'])
  have M1 := Lib.hid (M0.out.below hbx M0.out.lt)
  have HB3 := Lib.hid (bthen HB2.out hbx)
  clear hbx
  obtain ⟨F, hF⟩ : ∃ F, w2.heap.size = F := ⟨_, rfl⟩
  rw [hF] at PX ⊢
  clear hF
  generalize World.alloc w2 _ = w3 at *
  have k0 := M1.out.cell
  have l0 := M1.out.lt
  go_wp2_with fail
  refine (T1.out _ HB3.out).mono ?_
  rintro e w4 ⟨rfl, hb⟩
  have HB4 := Lib.hid (bthen HB3.out hb)
  have P4 := Lib.hid (PX.out.below hb PX.out.lt)
  clear k0 l0 hb T1 PX M1
  go_wp2
  go_loopw [50] (fun i wr => ∃ k : Nat, k ≤ 3 ∧ i = .int .i64 k ∧ Below w4.heap.size w4 wr) (fun i _ => 3 - (intOf i).toNat)
  case atStart => exact ⟨0, by omega, rfl, Below.refl _ _⟩
  case round =>
    obtain ⟨k, hk, rfl, hb5⟩ := hrel
    obtain ⟨w5, hw5⟩ : ∃ W, W = wr := ⟨_, rfl⟩
    subst hw5
    have HB5 := Lib.hid hb5
    clear hb5
    by_cases hk3 : k < 3
    · obtain ⟨A1, c1, A2, c2, hix, hs1, ht1, hkc, hs2, ht2⟩ := TB.out w4 HB4.out k hk3
      have KKk := Lib.hid (KK.out k hk3 ht1)
      have HCK := Lib.hid ((P4.out.cell k).trans hkc)
      generalize tb3 A O I k = X at *
      generalize tb3 A' O' I' k = X' at *
      have S1 := Lib.hid hs1
      have S2 := Lib.hid hs2
      have TX := Lib.hid ht1
      have TX' := Lib.hid ht2
      clear hs1 hs2 ht1 ht2 hkc
      go_wp2
      clear hix
      go_loopw [55] (fun i wr => ∃ x : Nat, x ≤ L.length ∧ i = .int .i64 x ∧ Below w4.heap.size w4 wr) (fun i _ => L.length - (intOf i).toNat)
      case atStart => exact ⟨0, by omega, rfl, HB5.out⟩
      case round =>
        clear HB5
        obtain ⟨x, hx, rfl, hb5⟩ := hrel
        obtain ⟨w6, hw6⟩ : ∃ W, W = wr := ⟨_, rfl⟩
        subst hw6
        have HB5 := Lib.hid hb5
        clear hb5
        by_cases hlt : x < L.length
        · go_wp2
          go_loopw [59] (fun i wr => ∃ y : Nat, y ≤ L.length ∧ i = .int .i64 y ∧ Below w4.heap.size w4 wr) (fun i _ => L.length - (intOf i).toNat)
          case atStart => exact ⟨0, by omega, rfl, HB5.out⟩
          case round =>
            clear HB5
            obtain ⟨y, hy, rfl, hb5⟩ := hrel
            obtain ⟨w7, hw7⟩ : ∃ W, W = wr := ⟨_, rfl⟩
            subst hw7
            have HB5 := Lib.hid hb5
            by_cases hlt2 : y < L.length
            · obtain ⟨b2, o2, d2, q2, j2, e2, hb2, hc2, hd2, he2⟩ := ent_at (S1.out.below hb5) TX.out hlt hlt2
              subst e2
              have hz := TX.out.ent_lt hlt hlt2
              have hw7 := bthen HB4.out hb5
              have hcz := HCC.out w7 hw7 (ent X x y) hz
              have hcx := HCC.out w7 hw7 x hlt
              have hcy := HCC.out w7 hw7 y hlt2
              have hEQ := KKk.out x hlt y hlt2
              have lx := LB.out x hlt
              have ly := LB.out y hlt2
              obtain ⟨b3, o3, d3, q3, j3, e3, hb3, hc3, hd3, he3⟩ := ent_at (S2.out.below hb5) TX'.out lx ly
              subst e3
              rw [← hEQ] at he3
              have hck := (hb5.cell (p := ⟨F, k, none⟩) P4.out.lt).trans HCK.out
              generalize L.getD (ent X x y) 0 = r at *
              generalize ent X x y = z at *
              generalize L.getD x 0 = px at *
              generalize L.getD y 0 = py at *
              have iz : (z : Int) < (L.length : Int) := by omega
              have ir : ((r : Int) != (r : Int)) = false := by simp
              clear hEQ hw7 hb5
              go_upto_region 15 with fail
              go_quiet (fail)
              go_wp2
              exact ⟨⟨y + 1, by omega, by go_num, below_drewN HB5.out nq⟩, by simp [intOf]; omega⟩
            · obtain rfl : y = L.length := by omega
              clear hb5
              go_wp2
              exact ⟨⟨x + 1, by omega, by go_num, HB5.out⟩, by simp [intOf]; omega⟩
        · obtain rfl : x = L.length := by omega
          go_wp2
          exact ⟨⟨k + 1, by omega, by go_num, HB5.out⟩, by simp [intOf]; omega⟩
    · obtain rfl : k = 3 := by omega
      go_wp2
      go_ret
      exact ⟨rfl, bthen HB4.out HB5.out⟩
end Go.Proofs.YtgkogfjifcfkoaaGreat
