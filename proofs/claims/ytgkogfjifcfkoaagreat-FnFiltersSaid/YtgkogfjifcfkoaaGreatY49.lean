/- The reference's least subalgebra, by the shape of its answer: a set of elements. -/
import Derived.Test.YtgkogfjifcfkoaaGreatY17
namespace Go.Proofs.YtgkogfjifcfkoaaGreat
open Go.RowKit
set_option linter.unusedVariables false
set_option linter.unusedSimpArgs false
theorem q_l01OneM (z Q : Nat) (hQ : 2 ^ z = Q) (hz : z ≤ 62) (W : World) (n : Nat) :
    Calls Tryz.prog 33 #[.int .i64 (z : Int)] (W.drewN n) fun e w'' => e = .returned (.int .i64 (Q : Int)) ∧ ∃ q, w'' = W.drewN q :=
  (spec_l01One z _ (by omega) (by omega)).mono fun e w' hh => ⟨by rw [hh.1, Int.toNat_natCast, cast_two_pow, hQ], n, hh.2.symm⟩
theorem or_ge (a b : Nat) : a ≤ a ||| b := Nat.left_le_or
set_option maxRecDepth 100000 in
set_option maxHeartbeats 4000000 in
theorem spec_l19Close (a o i : Value) (A O I : List (List Nat)) (b t m : Nat) (w : World) (h : Hy w a o i (lil A) (lil O) (lil I)) (hT : HyT A O I b t) (hm : m < 2 ^ A.length) :
    Calls Tryz.prog 141 #[.agg #[a, o, i, .int .i64 (b : Int), .int .i64 (t : Int)], .int .i64 (m : Int)] w fun e w' => ∃ r : Int, e = .returned (.int .i64 r) ∧ Below w.heap.size w w' := by
  obtain ⟨va, ca, rfl⟩ := h.a.opn
  obtain ⟨vo, co, rfl⟩ := h.o.opn
  obtain ⟨vi, ci, rfl⟩ := h.i.opn
  have h30 := hT.n30
  have lA := lil_length A
  have lO := (lil_length O).trans hT.tO.l
  have lI := (lil_length I).trans hT.tI.l
  rw [lA, lO, lI] at h ⊢
  clear lA lO lI
  have TA := Lib.hid hT.tA
  have TO := Lib.hid hT.tO
  have TI := Lib.hid hT.tI
  have hbl := hT.bl
  have htl := hT.tl
  obtain ⟨n, hn⟩ : ∃ n, A.length = n := ⟨_, rfl⟩
  rw [hn] at h h30 TA TO TI hbl htl hm ⊢
  clear hn hT
  have HH := Lib.hid (fun W (hW : Below w.heap.size w W) => h.below hW)
  have HOR0 : ∀ x y, x < 2 ^ n → y < 2 ^ n → x ||| y < 2 ^ n := fun x y hx hy => Nat.or_lt_two_pow hx hy
  have HPW0 : ∀ z, z < n → 2 ^ z < 2 ^ n := fun z hz => Nat.pow_lt_pow_right (by decide) hz
  have hN30 : 2 ^ n ≤ 1073741824 := two_pow_30 h30
  have MMo := Lib.hid (fun m (hm : m < 2 ^ n) => (mems_mb hm (show n ≤ 64 by omega)))
  obtain ⟨N, hN⟩ : ∃ N, 2 ^ n = N := ⟨_, rfl⟩
  rw [hN] at hm HOR0 HPW0 hN30 MMo
  have HOR := Lib.hid HOR0
  have HPW := Lib.hid HPW0
  have HORI := Lib.hid (fun x y (hx : x < N) (hy : y < N) => i64_or_nat x y (by omega) (by omega))
  clear hN HOR0 HPW0
  have hb0 := below_alloc' w (.cells #[.slice va n ca, .slice vo n co, .slice vi n ci, .int .i64 (b : Int), .int .i64 (t : Int)] 26)
  have hk0 := Blk.new w 26 #[.slice va n ca, .slice vo n co, .slice vi n ci, .int .i64 (b : Int), .int .i64 (t : Int)]
  have HB := Lib.hid hb0
  have HK := Lib.hid hk0
  clear hb0 hk0 h
  go_enter Tryz.func141, Tryz.ntmps141
  go_upto_region 1 with fail
  generalize World.alloc w _ = W at *
  have hb62 : b ≤ 62 := by omega
  have ht62 : t ≤ 62 := by omega
  obtain ⟨Qb, hQb⟩ : ∃ Q, 2 ^ b = Q := ⟨_, rfl⟩
  obtain ⟨Qt, hQt⟩ : ∃ Q, 2 ^ t = Q := ⟨_, rfl⟩
  have hqb := HPW.out b hbl
  have hqt := HPW.out t htl
  rw [hQb] at hqb
  rw [hQt] at hqt
  have O1 := Lib.hid (fun n => q_l01OneM b Qb hQb hb62 W n)
  have O2 := Lib.hid (fun n => q_l01OneM t Qt hQt ht62 W n)
  have e1 := HORI.out m Qb hm hqb
  have h1 := HOR.out m Qb hm hqb
  have e2 := HORI.out (m ||| Qb) Qt h1 hqt
  have h2 := HOR.out (m ||| Qb) Qt h1 hqt
  generalize m ||| Qb = m1 at *
  generalize m1 ||| Qt = m2 at *
  clear hQb hQt hqb hqt h1
  have k0 := HK.out.cell
  have l0 := HK.out.lt
  go_quiet ((go_at_call 33; first | exact O1.out _ | exact O2.out _))
  clear k0 l0 e1 e2 O1 O2
  replace HB := Lib.hid (below_drewN HB.out nq)
  replace HK := Lib.hid (HK.out.drewN nq)
  generalize World.drewN W nq = W1 at *
  go_wp2
  go_loopw [1] (fun x wr => ∃ m' : Nat, m' < N ∧ x = .int .i64 m' ∧ Below w.heap.size w wr ∧ Blk wr w.heap.size 26 #[.slice va n ca, .slice vo n co, .slice vi n ci, .int .i64 (b : Int), .int .i64 (t : Int)]) (fun x _ => N - (intOf x).toNat)
  case atStart => exact ⟨m2, h2, rfl, HB.out, HK.out⟩
  case round =>
    clear HB HK h2
    obtain ⟨m', hm', rfl, hb, hk⟩ := hrel
    obtain ⟨w4, hw4⟩ : ∃ W, W = wr := ⟨_, rfl⟩
    subst hw4
    have HB := Lib.hid hb
    have HK := Lib.hid hk
    clear hb hk
    go_wp2_with fail
    refine (spec_l01List m' _ (by omega)).mono ?_
    rintro e w5 ⟨u2, rfl, ho, hb⟩
    rw [MMo.out m' hm'] at ho
    have MI := Lib.hid (fun i (hi : i < (mb m' n).length) => (mb_in hi).1)
    have hLL : (mb m' n).length ≤ n := Nat.le_trans (List.length_filter_le _ _) (by rw [List.length_range]; exact Nat.le_refl _)
    generalize mb m' n = L at *
    replace HB := Lib.hid (bthen HB.out hb)
    replace HK := Lib.hid (HK.out.below hb HK.out.lt)
    obtain ⟨vl, cl, rfl⟩ := ho.opn
    have LI := Lib.hid (li_length L)
    rw [LI.out] at ho ⊢
    have HL5 := Lib.hid ho.sl
    clear hb ho
    go_wp2
    go_loopw [5, 7] (fun q i wr => ∃ p x : Nat, x ≤ L.length ∧ i = .int .i64 x ∧ q = .int .i64 p ∧ m' ≤ p ∧ p < N ∧ Below w5.heap.size w5 wr) (fun _ i _ => L.length - (intOf i).toNat)
    case atStart => exact ⟨m', 0, Nat.zero_le _, rfl, rfl, Nat.le_refl _, hm', Below.refl _ _⟩
    case round =>
      obtain ⟨p, x, hx, rfl, rfl, hmp, hpN, hb⟩ := hrel
      obtain ⟨w6, hw6⟩ : ∃ W, W = wr := ⟨_, rfl⟩
      subst hw6
      have B6 := Lib.hid hb
      clear hb
      by_cases hlt : x < L.length
      · go_wp2
        go_loopw [5, 8] (fun q i wr => ∃ p' y : Nat, y ≤ L.length ∧ i = .int .i64 y ∧ q = .int .i64 p' ∧ m' ≤ p' ∧ p' < N ∧ Below w5.heap.size w5 wr) (fun _ i _ => L.length - (intOf i).toNat)
        case atStart => exact ⟨p, 0, Nat.zero_le _, rfl, rfl, hmp, hpN, B6.out⟩
        case round =>
          clear hmp hpN
          obtain ⟨p', y, hy, rfl, rfl, hmp, hpN, hb⟩ := hrel
          obtain ⟨w7, hw7⟩ : ∃ W, W = wr := ⟨_, rfl⟩
          subst hw7
          have B7 := Lib.hid hb
          have B07 := Lib.hid (bthen HB.out hb)
          clear hb
          by_cases hlt2 : y < L.length
          · have p1 := MI.out x hlt
            have q1 := MI.out y hlt2
            obtain ⟨b1, o1, e1, hb1, hc1⟩ := (HL5.out.below B7.out).atI (k := x) (by rw [LI.out]; exact hlt)
            obtain ⟨b2, o2, e2, hb2, hc2⟩ := (HL5.out.below B7.out).atI (k := y) (by rw [LI.out]; exact hlt2)
            rw [li_get] at hc1 hc2
            subst e1
            injection e2 with e2
            injection e2 with e2 e3
            subst e2; subst e3
            have hz1 := TA.out.ent_lt p1 q1
            have hz2 := TO.out.ent_lt p1 q1
            have hz3 := TI.out.ent_lt p1 q1
            obtain ⟨b3, o3, d3, q3, cj3, e4, hb3, hc3, hd3, hc4⟩ := ent_at (HH.out _ B07.out).a TA.out p1 q1
            obtain ⟨b5, o5, d5, q5, cj5, e5, hb5, hc5, hd5, hc6⟩ := ent_at (HH.out _ B07.out).o TO.out p1 q1
            obtain ⟨b7, o7, d7, q7, cj7, e7, hb7, hc7, hd7, hc8⟩ := ent_at (HH.out _ B07.out).i TI.out p1 q1
            subst e4
            subst e5
            subst e7
            generalize ent A (L.getD x 0) (L.getD y 0) = z1 at *
            generalize ent O (L.getD x 0) (L.getD y 0) = z2 at *
            generalize ent I (L.getD x 0) (L.getD y 0) = z3 at *
            generalize L.getD x 0 = lx at *
            generalize L.getD y 0 = ly at *
            have y1 : z1 ≤ 62 := by omega
            have y2 : z2 ≤ 62 := by omega
            have y3 : z3 ≤ 62 := by omega
            obtain ⟨Q1, hQ1⟩ : ∃ Q, 2 ^ z1 = Q := ⟨_, rfl⟩
            obtain ⟨Q2, hQ2⟩ : ∃ Q, 2 ^ z2 = Q := ⟨_, rfl⟩
            obtain ⟨Q3, hQ3⟩ : ∃ Q, 2 ^ z3 = Q := ⟨_, rfl⟩
            have g1 := HPW.out z1 hz1
            have g2 := HPW.out z2 hz2
            have g3 := HPW.out z3 hz3
            rw [hQ1] at g1
            rw [hQ2] at g2
            rw [hQ3] at g3
            have O1 := Lib.hid (fun n => q_l01OneM z1 Q1 hQ1 y1 w7 n)
            have O2 := Lib.hid (fun n => q_l01OneM z2 Q2 hQ2 y2 w7 n)
            have O3 := Lib.hid (fun n => q_l01OneM z3 Q3 hQ3 y3 w7 n)
            clear hQ1 hQ2 hQ3
            have f1 := HORI.out p' Q1 hpN g1
            have r1 := HOR.out p' Q1 hpN g1
            have s1 := Nat.le_trans hmp (or_ge p' Q1)
            generalize p' ||| Q1 = t1 at *
            have f2 := HORI.out t1 Q2 r1 g2
            have r2 := HOR.out t1 Q2 r1 g2
            have s2 := Nat.le_trans s1 (or_ge t1 Q2)
            generalize t1 ||| Q2 = t2 at *
            have f3 := HORI.out t2 Q3 r2 g3
            have r3 := HOR.out t2 Q3 r2 g3
            have s3 := Nat.le_trans s2 (or_ge t2 Q3)
            generalize t2 ||| Q3 = t3 at *
            have j5 := HK.out.below B7.out HK.out.lt
            have k0 := j5.cell
            have l0 := j5.lt
            clear j5 r1 r2 s1 s2 g1 g2 g3 hmp hpN
            go_wp2
            go_quiet ((go_at_call 33; first | exact O1.out _ | exact O2.out _ | exact O3.out _))
            clear k0 l0 hc1 hc2 hc3 hc4 hc5 hc6 hc7 hc8 f1 f2 f3
            go_wp2
            exact ⟨⟨t3, y + 1, by omega, by go_num, rfl, s3, r3, below_drewN B7.out _⟩, by simp [intOf]; omega⟩
          · obtain rfl : y = L.length := by omega
            go_wp2
            exact ⟨⟨p', x + 1, by omega, by go_num, rfl, hmp, hpN, B7.out⟩, by simp [intOf]; omega⟩
      · obtain rfl : x = L.length := by omega
        by_cases hpm : p = m'
        · have q1 : ((p : Int) == (m' : Int)) = true := by rw [hpm]; simp
          have HZ := Lib.hid (bthen HB.out B6.out)
          clear hpm
          go_wp2
          go_ret
          exact ⟨_, rfl, HZ.out⟩
        · have q1 : ((p : Int) == (m' : Int)) = false := beq_eq_false_iff_ne.2 (by omega)
          have HZ := Lib.hid (bthen HB.out B6.out)
          have HKZ := Lib.hid (HK.out.below B6.out HK.out.lt)
          go_wp2
          exact ⟨⟨p, hpN, rfl, HZ.out, HKZ.out⟩, by simp [intOf]; omega⟩
end Go.Proofs.YtgkogfjifcfkoaaGreat
