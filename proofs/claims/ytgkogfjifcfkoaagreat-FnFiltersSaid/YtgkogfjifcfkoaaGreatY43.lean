/- Joined of several texts. -/
import Derived.Test.YtgkogfjifcfkoaaGreatY42
import Derived.Test.YtgkogfjifcfkoaaGreatY16
import Derived.Test.YtgkogfjifcfkoaaGreatY09
import Derived.Test.YtgkogfjifcfkoaaGreatY07
import Derived.Test.YtgkogfjifcfkoaaGreatY38
import Derived.Test.YtgkogfjifcfkoaaGreatY06
namespace Go.Proofs.YtgkogfjifcfkoaaGreat
/- The laws' functions that FnFilters calls, where both arguments read alike: same19, sameHeyting9; full9. -/
open Go.RowKit
set_option linter.unusedVariables false
set_option linter.unusedSimpArgs false
set_option maxRecDepth 100000 in
theorem laws_same19 (v u : Value) (X : List (List Int)) (w : World) (h : Sl2 cI w v X) (h' : Sl2 cI w u X) (hl : SzT X) :
    Calls Tryz.prog 62 #[v, u] w fun e w' => e = .returned (.bool true) ∧ Below w.heap.size w w' := by
  obtain ⟨A0, c0, rfl⟩ := h.opn
  obtain ⟨A1, c1, rfl⟩ := h'.opn
  have HX := Lib.hid h
  have HY := Lib.hid h'
  have HRX := Lib.hid (fun i (a : i < X.length) => hl.r _ (List.getElem_mem a))
  have hxl := hl.l
  clear h h' hl
  go_enter Tryz.func62, Tryz.ntmps62
  go_wp2
  go_loopw [5] (fun i wr => ∃ x : Nat, x ≤ X.length ∧ i = .int .i64 x ∧ Below w.heap.size w wr) (fun i _ => X.length - (intOf i).toNat)
  case atStart => exact ⟨0, Nat.zero_le _, rfl, Below.refl _ _⟩
  case round =>
    obtain ⟨x, hx, rfl, hb⟩ := hrel
    obtain ⟨w2, hw2⟩ : ∃ W, W = wr := ⟨_, rfl⟩
    subst hw2
    have HB := Lib.hid hb
    by_cases hlt : x < X.length
    · obtain ⟨b, o, Aj, nj, cj, rfl, hbl, hcx, hsx⟩ := (HX.out.below hb).at_ (k := x) hlt
      obtain ⟨d, q, Ak, nk, ck, rfl, hdl, hdx, hsy⟩ := (HY.out.below hb).at_ (k := x) hlt
      have hlx := HRX.out x hlt
      have HC := Lib.hid (fun W (hW : Below w2.heap.size w2 W) => laws_likeInts _ _ X[x] W (hsx.below hW) (hsy.below hW) (by omega))
      clear hb hsx hsy hlx
      generalize X[x] = m at *
      go_upto_region 6 with fail
      have hI := (Below.refl w2.heap.size w2).drew
      refine wp_region_sched (Below w2.heap.size w2) 10 [0, 1, 2, 3, 4, 5, 6, 7, 9] [0, 1, 2, 3, 4, 5, 6, 7, 8, 9] (by kernel_rfl) (by kernel_rfl) hI ?_
      repeat
        apply wpSched_q rfl rfl
        case h =>
          intro w' hI K hK
          have hcx' := (hI.cell (p := ⟨b, o + x, none⟩) hbl).trans hcx
          have hdx' := (hI.cell (p := ⟨d, q + x, none⟩) hdl).trans hdx
          simp only [quietV, stillV]
          go_simp
          exact hK
        go_simp
      refine wpSched_r rfl rfl ?_ hI
      intro K hK _
      go_simp
      refine (HC.out _ hI).mono ?_
      rintro e w3 ⟨rfl, hbb⟩
      replace hI := hI.trans (hbb.mono hI.size)
      refine hK _ _ hI ?_
      clear hK K hbb
      repeat
        apply wpSched_q rfl rfl
        case h =>
          intro w' hI K hK
          simp only [quietV, stillV]
          go_simp
          exact hK
        go_simp
      refine wpSched_nil ?_
      try simp only [List.drop_succ_cons, List.drop_zero, List.drop_nil]
      have HB3 := Lib.hid (bthen HB.out hI)
      clear hI hcx hdx
      go_wp2
      exact ⟨⟨x + 1, by omega, by go_num, HB3.out⟩, by simp [intOf]; omega⟩
    · obtain rfl : x = X.length := by omega
      clear hb
      go_wp2
      go_ret
      exact ⟨rfl, HB.out⟩
set_option maxRecDepth 100000 in
theorem laws_sameHeyting9 (a o i a' o' i' : Value) (b t : Int) (A O I : List (List Int)) (w : World) (h : Hy w a o i A O I) (h' : Hy w a' o' i' A O I) (hs : SzH A O I) :
    Calls Tryz.prog 20 #[.agg #[a, o, i, .int .i64 b, .int .i64 t], .agg #[a', o', i', .int .i64 b, .int .i64 t]] w
      fun e w' => e = .returned (.bool true) ∧ Below w.heap.size w w' := by
  obtain ⟨va, ca, rfl⟩ := h.a.opn
  obtain ⟨vo, co, rfl⟩ := h.o.opn
  obtain ⟨vi, ci, rfl⟩ := h.i.opn
  obtain ⟨va', ca', rfl⟩ := h'.a.opn
  obtain ⟨vo', co', rfl⟩ := h'.o.opn
  obtain ⟨vi', ci', rfl⟩ := h'.i.opn
  have hb0 := below_alloc' w (.cells #[.slice va A.length ca, .slice vo O.length co, .slice vi I.length ci, .int .i64 b, .int .i64 t] 26)
  have hk0 := Blk.new w 26 #[.slice va A.length ca, .slice vo O.length co, .slice vi I.length ci, .int .i64 b, .int .i64 t]
  have hb1 := below_alloc' (w.alloc (.cells #[.slice va A.length ca, .slice vo O.length co, .slice vi I.length ci, .int .i64 b, .int .i64 t] 26)) (.cells #[.slice va' A.length ca', .slice vo' O.length co', .slice vi' I.length ci', .int .i64 b, .int .i64 t] 26)
  have hk1 : Blk _ (w.heap.size + 1) _ _ := Blk.new' (w.alloc (.cells #[.slice va A.length ca, .slice vo O.length co, .slice vi I.length ci, .int .i64 b, .int .i64 t] 26)) 26 #[.slice va' A.length ca', .slice vo' O.length co', .slice vi' I.length ci', .int .i64 b, .int .i64 t] (by simp)
  have HB := Lib.hid (bthen hb0 hb1)
  have HK0 := Lib.hid (hk0.below hb1 hk0.lt)
  have HK1 := Lib.hid hk1
  have S1 := Lib.hid (fun W (hW : Below w.heap.size w W) => laws_same19 _ _ A W (h.a.below hW) (h'.a.below hW) hs.a)
  have S2 := Lib.hid (fun W (hW : Below w.heap.size w W) => laws_same19 _ _ O W (h.o.below hW) (h'.o.below hW) hs.o)
  have S3 := Lib.hid (fun W (hW : Below w.heap.size w W) => laws_same19 _ _ I W (h.i.below hW) (h'.i.below hW) hs.i)
  clear hb0 hb1 hk0 hk1 h h' hs
  go_enter Tryz.func20, Tryz.ntmps20
  go_upto_region 1 with fail
  generalize World.alloc (w.alloc _) _ = W at *
  have k0 := HK0.out.cell
  have k1 := HK1.out.cell
  have l0 := HK0.out.lt
  have l1 := HK1.out.lt
  go_wp2_with fail
  refine (S1.out _ HB.out).mono ?_
  rintro e w1 ⟨rfl, hb⟩
  have HB1 := Lib.hid (bthen HB.out hb)
  have J0 := Lib.hid (HK0.out.below hb l0)
  have J1 := Lib.hid (HK1.out.below hb l1)
  clear k0 k1 l0 l1 hb
  have k0 := J0.out.cell
  have k1 := J1.out.cell
  have l0 := J0.out.lt
  have l1 := J1.out.lt
  go_wp2_with fail
  refine (S2.out _ HB1.out).mono ?_
  rintro e w2 ⟨rfl, hb⟩
  have HB2 := Lib.hid (bthen HB1.out hb)
  have M0 := Lib.hid (J0.out.below hb l0)
  have M1 := Lib.hid (J1.out.below hb l1)
  clear k0 k1 l0 l1 hb
  have k0 := M0.out.cell
  have k1 := M1.out.cell
  have l0 := M0.out.lt
  have l1 := M1.out.lt
  go_wp2_with fail
  refine (S3.out _ HB2.out).mono ?_
  rintro e w3 ⟨rfl, hb⟩
  have HB3 := Lib.hid (bthen HB2.out hb)
  have N0 := Lib.hid (M0.out.below hb l0)
  have N1 := Lib.hid (M1.out.below hb l1)
  clear k0 k1 l0 l1 hb
  have k0 := N0.out.cell
  have k1 := N1.out.cell
  have l0 := N0.out.lt
  have l1 := N1.out.lt
  go_wp2
  go_ret
  exact ⟨by simp, HB3.out⟩
theorem laws_full9M (n F : Nat) (hF : F = 2 ^ n - 1) (w : World) (hn : n ≤ 30) :
    Calls Tryz.prog 27 #[.int .i64 n] w fun e w' => e = .returned (.int .i64 (F : Int)) ∧ w = w' := by
  have e1 := wrap_two_pow (n := n) (by omega)
  have e2 := two_pow_le (n := n) (by omega)
  have e3 : (0 : Int) < 2 ^ n := Int.pow_pos (by decide)
  have HE : Hid ((F : Int) = 2 ^ n - 1) := Lib.hid (by rw [hF, Int.ofNat_sub (Nat.pow_pos (by decide)), ← cast_two_pow]; rfl)
  clear hF
  go_enter Tryz.func27, Tryz.ntmps27
  go_wp2
  go_ret
  exact ⟨by rw [HE.out]; rfl, rfl⟩
/- Contracts of partitions of posets, of the reference: l21Images, l24Classes, l24Alike, l21Correct. -/
open Go.RowKit
set_option linter.unusedVariables false
set_option linter.unusedSimpArgs false
/- Contracts of posets of the reference: l16Make, l21Quotient, l21Partitions. -/
open Go.RowKit
set_option linter.unusedVariables false
set_option linter.unusedSimpArgs false
theorem spec_l16Make (v : Value) (xs : List Int) (w : World) (h : Sl cI w v xs) (hl : xs.length ≤ 1048576) :
    Calls Tryz.prog 170 #[v] w fun e w' => ∃ A c, e = .returned (.agg #[.int .i64 xs.length, .slice A xs.length c]) ∧ Ow cI 2 w.heap.size w' (.slice A xs.length c) xs ∧ Below w.heap.size w w' := by
  obtain ⟨A0, c0, rfl⟩ := h.opn
  have HS := Lib.hid h
  clear h
  have A := Lib.hid (Below.refl w.heap.size w)
  go_enter Tryz.func170, Tryz.ntmps170
  go_upto_region 1 with fail
  have hb := below_alloc' w (.cells #[.int .i64 0, .slice none 0 0] 42)
  have HK : Hid (Blk (World.alloc w (.cells #[.int .i64 0, .slice none 0 0] 42)) w.heap.size 42 #[.int .i64 0, .slice none 0 0]) := Lib.hid (Blk.new w 42 #[.int .i64 0, .slice none 0 0])
  replace HS := Lib.hid (HS.out.below hb)
  replace A := Lib.hid (bthen A.out hb)
  clear hb
  generalize World.alloc w _ = w1 at *
  go_wp2_with fail
  refine (spec_l01Own _ xs _ HS.out (by omega)).mono ?_
  rintro e w2 ⟨u, rfl, ho, hb⟩
  obtain ⟨A1, c1, rfl⟩ := ho.opn
  have hk1 := HK.out.lt
  have r := HK.out.below hb hk1
  have rc := r.cell
  have rf := r.frozen
  have rl := r.lt
  have B2 := Lib.hid (bthen A.out hb)
  have HO := Lib.hid ho
  clear hb A HK HS r ho
  go_wp2
  refine bodyPost_ret (v := .agg #[.int .i64 xs.length, .slice A1 xs.length c1]) (by simp [results, Tryz.results170, go_sem, rc, rf, rl]) rfl ⟨_, _, rfl, ?_, ?_⟩
  · exact ((HO.out.setBelow hk1 _).setBelow hk1 _).mono (by omega)
  · exact (B2.out.setCell (Nat.le_refl _) _).setCell (Nat.le_refl _) _
theorem OwI.mono {B B' : Nat} {R : Option Nat} {w : World} {v : Value} {xss : List (List Int)} (h : OwI B R w v xss) (hB : B' ≤ B) : OwI B' R w v xss := by
  obtain ⟨hs, h1, h0, h2, h3⟩ := h
  exact ⟨hs, h1.mono hB, h0, h2, h3⟩
theorem OwI.get {B : Nat} {R : Option Nat} {w : World} {A : Option Addr} {n c : Nat} {xss : List (List Int)} (h : OwI B R w (.slice A n c) xss) {k : Nat} (hk : k < xss.length) :
    ∃ b o Ai ni ci, A = some ⟨b, o, none⟩ ∧ b < w.heap.size ∧ w.cell? ⟨b, o + k, none⟩ = some (.slice Ai ni ci) ∧ Sl cI w (.slice Ai ni ci) xss[k] ∧ ∀ j, (Value.slice Ai ni ci).ownBlock = some j → j < w.heap.size := by
  obtain ⟨hs, h1, h0, h2, h3⟩ := h
  have hk' : k < hs.length := by omega
  obtain ⟨b, o, hA, hb, hc⟩ := h1.sl.cell hk'
  have := hc 0 hs[k].val rfl
  refine ⟨b, o, hs[k].a, hs[k].n, hs[k].c, hA, hb, by simpa [cH, Hd.val] using this, (h3 k hk' hk).1, fun j hj => ?_⟩
  rcases (h3 k hk' hk).2 with h | ⟨-, h⟩
  · rw [show (Value.slice hs[k].a hs[k].n hs[k].c).ownBlock = none from h] at hj; cases hj
  · exact (h j hj).1
/- The first part of DV (Dp, Dq, Dr2), for seats that take SchT from 18S. -/
open Go.RowKit
set_option linter.unusedVariables false
set_option linter.unusedSimpArgs false
/- The reference's drawing functions of posets and valuations, by the shape of what they draw: first parts (written by program, gendr8.py). -/
theorem q_l01FullP (k F : Nat) (hF : F = 2 ^ k - 1) (h1 : k ≤ 62) (W : World) (n : Nat) :
    Calls Tryz.prog 86 #[.int .i64 (k : Int)] (W.drewN n) fun e w'' => e = .returned (.int .i64 (F : Int)) ∧ ∃ q, w'' = W.drewN q :=
  (spec_l01Full' k F hF _ h1).mono fun e w' hh => ⟨hh.1, n, hh.2.symm⟩
theorem getD_all {os : List Nat} {n : Nat} (h : ∀ x ∈ os, x < n) {i : Nat} (hi : i < os.length) : os.getD i 0 < n := h _ (getD_mem hi)
/- The reference's drawing functions of posets, by the shape of what they draw (written by program, gendr9.py). -/
/- The reference's drawing functions of posets, by the shape of what they draw (written by program, gendr9.py). -/
end Go.Proofs.YtgkogfjifcfkoaaGreat
