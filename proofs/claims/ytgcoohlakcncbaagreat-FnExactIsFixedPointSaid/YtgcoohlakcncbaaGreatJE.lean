/- Joined of several texts: 12D, 12E, 12F, 12G. -/
import Derived.Test.YtgcoohlakcncbaaGreatJD
import Derived.StillTailTactics
namespace Go.Proofs.YtgcoohlakcncbaaGreat
open Go.RowKit
set_option linter.unusedVariables false
set_option linter.unusedSimpArgs false
/- Contracts of chapter 12, of the program: what types see, witnesses, survival. -/
def sGL : ByteArray := ⟨#[71, 76]⟩
/-- a types value that is complete, to be read -/
def TyR (P : List Fm) (N p : Nat) (al rf : List Bool) (W : World) : Prop := ∃ (A0 A1 A2 A3 : Option Addr) (c0 c1 c2 c3 : Nat),
  Blk W p 192 #[.string ⟨#[71, 76]⟩, .slice A0 P.length c0, .slice A1 (mdx P).length c1, .int .i64 (N : Int), .slice A2 N c2, .slice A3 N c3] ∧
  RdS (ndS P) (fun _ => False) W (.slice A1 (mdx P).length c1) (mdx P) ∧ Sl cB W (.slice A2 N c2) rf ∧ Sl cB W (.slice A3 N c3) al ∧ al.length = N ∧ rf.length = N
theorem TyR.below {P : List Fm} {N p : Nat} {al rf : List Bool} {W W' : World} (h : TyR P N p al rf W) (hb : Below W.heap.size W W') : TyR P N p al rf W' := by
  obtain ⟨A0, A1, A2, A3, c0, c1, c2, c3, h1, h2, h3, h4, h5, h6⟩ := h
  exact ⟨A0, A1, A2, A3, c0, c1, c2, c3, h1.below hb h1.lt, h2.below hb, h3.below hb, h4.below hb, h5, h6⟩
theorem pow8 {n : Nat} (h : n ≤ 8) : 2 ^ n ≤ 256 := by
  have : 2 ^ n ≤ 2 ^ 8 := Nat.pow_le_pow_right (by decide) h
  omega
def pq (P : List Fm) (t u i : Nat) : Bool := dmd P t i && (!mts P u i || !dmd P u i)
theorem psT_any (P : List Fm) (t u : Nat) : psT P t u = !(mdx P).any (pq P t u) := by
  rw [Bool.eq_iff_iff, psT_iff, Bool.not_eq_true', List.any_eq_false]
  constructor
  · intro h i hi hq
    obtain ⟨h1, h2⟩ := mdx_mem.1 hi
    unfold pq at hq
    rw [Bool.and_eq_true] at hq
    have := h i h1 h2 hq.1
    rw [this.1, this.2] at hq
    simp at hq
  · intro h i hi hm hd
    have := h i (mdx_mem.2 ⟨hi, hm⟩)
    unfold pq at this
    rw [hd] at this
    simpa using this
def sq (P : List Fm) (t u i : Nat) : Bool := dmd P u i && !dmd P t i
theorem stT_any (P : List Fm) (t u : Nat) : stT P t u = (mdx P).any (sq P t u) := by
  rw [Bool.eq_iff_iff, stT_iff, List.any_eq_true]
  constructor
  · rintro ⟨i, hi, h1, h2, h3⟩
    exact ⟨i, mdx_mem.2 ⟨hi, h1⟩, by unfold sq; rw [h2, h3]; rfl⟩
  · rintro ⟨i, hi, h⟩
    obtain ⟨h1, h2⟩ := mdx_mem.1 hi
    unfold sq at h
    rw [Bool.and_eq_true, Bool.not_eq_true'] at h
    exact ⟨i, h1, h2, h.1, h.2⟩
theorem box2 (w : World) (c1 c2 : Array Value) (t1 t2 : TypeId) : Below w.heap.size w ((w.alloc (.cells c1 t1)).alloc (.cells c2 t2)) ∧ Blk ((w.alloc (.cells c1 t1)).alloc (.cells c2 t2)) w.heap.size t1 c1 ∧ Blk ((w.alloc (.cells c1 t1)).alloc (.cells c2 t2)) (w.heap.size + 1) t2 c2 :=
  ⟨bthen (below_alloc' _ _) (below_alloc' _ _), (Blk.new w t1 c1).alloc _, Blk.new' _ t2 c2 (by simp)⟩
theorem box3 (w : World) (c1 c2 c3 : Array Value) (t1 t2 t3 : TypeId) : Below w.heap.size w (((w.alloc (.cells c1 t1)).alloc (.cells c2 t2)).alloc (.cells c3 t3)) ∧ Blk (((w.alloc (.cells c1 t1)).alloc (.cells c2 t2)).alloc (.cells c3 t3)) w.heap.size t1 c1 ∧
    Blk (((w.alloc (.cells c1 t1)).alloc (.cells c2 t2)).alloc (.cells c3 t3)) (w.heap.size + 1) t2 c2 ∧ Blk (((w.alloc (.cells c1 t1)).alloc (.cells c2 t2)).alloc (.cells c3 t3)) (w.heap.size + 2) t3 c3 :=
  ⟨bthen (box2 w c1 c2 t1 t2).1 (below_alloc' _ _), (box2 w c1 c2 t1 t2).2.1.alloc _, (box2 w c1 c2 t1 t2).2.2.alloc _, Blk.new' _ t3 c3 (by simp)⟩
theorem en_passes_1 : ∀ (args : Array Value) (w : World), (callFunc 315 args).run Tryz.prog w = .ok (.enter 315 args) w := enters Tryz.func315 (by kernel_rfl) (by kernel_rfl)
set_option maxRecDepth 100000 in
theorem impl_passes_1 (P : List Fm) (N p t u i : Nat) (al rf : List Bool) (hP : P.length ≤ 8) (hN : N = 2 ^ P.length) (ht : t < N) (hu : u < N) (hi : i ∈ mdx P) (A : Option Addr) (n c f g q : Nat) (w : World) (hT : TyR P N p al rf w)
    (hf : w.cell? ⟨f, 0, none⟩ = some (.int .i64 (t : Int))) (hq : w.cell? ⟨q, 0, none⟩ = some (.pointer (some ⟨p, 0, none⟩))) (hg : w.cell? ⟨g, 0, none⟩ = some (.int .i64 (u : Int))) (lf : f < w.heap.size) (lq : q < w.heap.size) (lg : g < w.heap.size)
    (hS : Sl cB w (.slice A n c) (inr P i)) :
    Calls Tryz.prog 315 #[.agg #[.int .i64 (i : Int), .int .i64 (kdF (P.getD i .fls)), .slice A n c], .pointer (some ⟨f, 0, none⟩), .pointer (some ⟨q, 0, none⟩), .pointer (some ⟨g, 0, none⟩)] w fun e w' => e = .returned (.bool (pq P t u i)) ∧ Below w.heap.size w w' := by
  obtain ⟨hi1, hi2⟩ := mdx_mem.1 hi
  have h256 : N ≤ 256 := hN ▸ pow8 hP
  obtain ⟨A0, A1, A2, A3, c0, c1, c2, c3, hK, -⟩ := hT
  have HD := Lib.hid (fun W => dmd_eq (P := P) (t := t) hi2 ▸ impl_demands i t (kdF (P.getD i .fls)) (.slice A n c) W (by omega) (by omega))
  have HDu := Lib.hid (fun W => dmd_eq (P := P) (t := u) hi2 ▸ impl_demands i u (kdF (P.getD i .fls)) (.slice A n c) W (by omega) (by omega))
  have HM := Lib.hid (fun W (hW : Sl cB W (.slice A n c) (inr P i)) => impl_meets (i : Int) (kdF (P.getD i .fls)) u (.slice A n c) (inr P i) W hW (by rw [inr_length, ← hN]; exact hu))
  rw [inr_get, ← mts_eq hi2] at HM
  have HPQ : Hid (pq P t u i = (dmd P t i && (!mts P u i || !dmd P u i))) := Lib.hid rfl
  have hb := below_alloc' w (.cells #[.int .i64 (i : Int), .int .i64 (kdF (P.getD i .fls)), .slice A n c] 194)
  have K1 := Lib.hid (Blk.new w 194 #[.int .i64 (i : Int), .int .i64 (kdF (P.getD i .fls)), .slice A n c])
  have HF := Lib.hid ((hb.cell (p := ⟨f, 0, none⟩) lf).trans hf)
  have HQ := Lib.hid ((hb.cell (p := ⟨q, 0, none⟩) lq).trans hq)
  have HG := Lib.hid ((hb.cell (p := ⟨g, 0, none⟩) lg).trans hg)
  have LF := Lib.hid (Nat.lt_of_lt_of_le lf hb.size)
  have LQ := Lib.hid (Nat.lt_of_lt_of_le lq hb.size)
  have LG := Lib.hid (Nat.lt_of_lt_of_le lg hb.size)
  have HK := Lib.hid (hK.below hb hK.lt)
  have HS := Lib.hid (hS.below hb)
  have HB := Lib.hid hb
  clear hb hf hq hg lf lq lg hK hS hi hi1 hi2 ht hu hN
  generalize pq P t u i = res at *
  generalize dmd P t i = d1 at *
  generalize dmd P u i = d2 at *
  generalize mts P u i = m2 at *
  generalize kdF (P.getD i .fls) = kd at *
  go_enter Tryz.func315, Tryz.ntmps315
  go_upto_region 1 with fail
  generalize World.alloc w _ = w1 at *
  have k0 := K1.out.cell 0
  have k1 := K1.out.cell 1
  have k3 := K1.out.cell 2
  have k2 := K1.out.lt
  have f0 := HF.out
  have f1 := LF.out
  go_wp2_with fail
  refine (HD.out _).mono ?_
  rintro e w2 ⟨rfl, hb⟩
  have HB2 := Lib.hid (bthen HB.out hb)
  have K2 := Lib.hid (K1.out.below hb K1.out.lt)
  have T2 := Lib.hid (HK.out.below hb HK.out.lt)
  have Q2 := Lib.hid ((hb.cell (p := ⟨q, 0, none⟩) LQ.out).trans HQ.out)
  have G2 := Lib.hid ((hb.cell (p := ⟨g, 0, none⟩) LG.out).trans HG.out)
  have LQ2 := Lib.hid (Nat.lt_of_lt_of_le LQ.out hb.size)
  have LG2 := Lib.hid (Nat.lt_of_lt_of_le LG.out hb.size)
  have S2 := Lib.hid (HS.out.below hb)
  clear hb k0 k1 k2 k3 f0 f1
  cases d1
  · go_wp2
    go_ret
    exact ⟨by rw [HPQ.out]; rfl, HB2.out⟩
  · have k0 := K2.out.cell 0
    have k1 := K2.out.cell 1
    have k3 := K2.out.cell 2
    have k2 := K2.out.lt
    have t0 := T2.out.cell 0
    have t1 := T2.out.lt
    have q0 := Q2.out
    have q1 := LQ2.out
    have g0 := G2.out
    have g1 := LG2.out
    go_wp2_with fail
    refine (HM.out _ S2.out).mono ?_
    rintro e w3 ⟨rfl, hb⟩
    have HB3 := Lib.hid (bthen HB2.out hb)
    have K3 := Lib.hid (K2.out.below hb K2.out.lt)
    have G3 := Lib.hid ((hb.cell (p := ⟨g, 0, none⟩) LG2.out).trans G2.out)
    have LG3 := Lib.hid (Nat.lt_of_lt_of_le LG2.out hb.size)
    clear hb k0 k1 k2 k3 t0 t1 q0 q1 g0 g1
    cases m2
    · go_wp2
      go_ret
      exact ⟨by rw [HPQ.out]; rfl, HB3.out⟩
    · have k0 := K3.out.cell 0
      have k1 := K3.out.cell 1
      have k3 := K3.out.cell 2
      have k2 := K3.out.lt
      have g0 := G3.out
      have g1 := LG3.out
      go_wp2_with fail
      refine (HDu.out _).mono ?_
      rintro e w4 ⟨rfl, hb⟩
      have HB4 := Lib.hid (bthen HB3.out hb)
      clear hb k0 k1 k2 k3 g0 g1
      go_wp2
      go_ret
      exact ⟨by rw [HPQ.out]; cases d2 <;> rfl, HB4.out⟩
set_option maxRecDepth 100000 in
theorem impl_passes (P : List Fm) (N p t u : Nat) (al rf : List Bool) (hP : P.length ≤ 8) (hN : N = 2 ^ P.length) (ht : t < N) (hu : u < N) (w : World) (hT : TyR P N p al rf w) :
    Calls Tryz.prog 310 #[.pointer (some ⟨p, 0, none⟩), .int .i64 (t : Int), .int .i64 (u : Int)] w fun e w' => e = .returned (.bool (psT P t u)) ∧ Below w.heap.size w w' := by
  obtain ⟨hb, K1, K2, K3⟩ := box3 w #[.pointer (some ⟨p, 0, none⟩)] #[.int .i64 (t : Int)] #[.int .i64 (u : Int)] 148 2 2
  have hT3 := hT.below hb
  obtain ⟨A0, A1, A2, A3, c0, c1, c2, c3, hK, hNd, -⟩ := hT3
  have HX := Lib.hid (slices_ContainsFunc_need _ P _ 315 #[.pointer (some ⟨w.heap.size + 1, 0, none⟩), .pointer (some ⟨w.heap.size, 0, none⟩), .pointer (some ⟨w.heap.size + 2, 0, none⟩)] (pq P t u) _ hNd (by omega) en_passes_1 (fun w' hb' i hi A n c hS =>
    impl_passes_1 P N p t u i al rf hP hN ht hu hi A n c (w.heap.size + 1) (w.heap.size + 2) w.heap.size w' ((hT.below hb).below hb') ((hb'.cell (p := ⟨w.heap.size + 1, 0, none⟩) K2.lt).trans (K2.cell 0)) ((hb'.cell (p := ⟨w.heap.size, 0, none⟩) K1.lt).trans (K1.cell 0)) ((hb'.cell (p := ⟨w.heap.size + 2, 0, none⟩) K3.lt).trans (K3.cell 0))
      (Nat.lt_of_lt_of_le K2.lt hb'.size) (Nat.lt_of_lt_of_le K1.lt hb'.size) (Nat.lt_of_lt_of_le K3.lt hb'.size) hS))
  have HR := Lib.hid (psT_any P t u)
  have KK := Lib.hid K1
  have KP := Lib.hid hK
  have HB := Lib.hid hb
  clear hb K1 K2 K3 hK hNd hT ht hu hN
  generalize (mdx P).any (pq P t u) = r at *
  generalize psT P t u = res at *
  go_enter Tryz.func310, Tryz.ntmps310
  go_upto_region 1 with fail
  generalize World.alloc (World.alloc (World.alloc w _) _) _ = w3 at *
  have k0 := KK.out.cell 0
  have k1 := KK.out.lt
  have p0 := KP.out.cell 2
  have p1 := KP.out.lt
  go_wp2_with fail
  refine HX.out.mono ?_
  rintro e w4 ⟨rfl, hb⟩
  have HB4 := Lib.hid (bthen HB.out hb)
  clear hb k0 k1 p0 p1
  go_wp2
  go_ret
  exact ⟨by rw [HR.out]; rfl, HB4.out⟩
theorem en_sees_2 : ∀ (args : Array Value) (w : World), (callFunc 311 args).run Tryz.prog w = .ok (.enter 311 args) w := enters Tryz.func311 (by kernel_rfl) (by kernel_rfl)
set_option maxRecDepth 100000 in
theorem impl_sees_2 (P : List Fm) (N t u i : Nat) (hP : P.length ≤ 8) (hN : N = 2 ^ P.length) (ht : t < N) (hu : u < N) (hi : i ∈ mdx P) (A : Option Addr) (n c f g : Nat) (w : World)
    (hf : w.cell? ⟨f, 0, none⟩ = some (.int .i64 (t : Int))) (hg : w.cell? ⟨g, 0, none⟩ = some (.int .i64 (u : Int))) (lf : f < w.heap.size) (lg : g < w.heap.size) :
    Calls Tryz.prog 311 #[.agg #[.int .i64 (i : Int), .int .i64 (kdF (P.getD i .fls)), .slice A n c], .pointer (some ⟨g, 0, none⟩), .pointer (some ⟨f, 0, none⟩)] w fun e w' => e = .returned (.bool (sq P t u i)) ∧ Below w.heap.size w w' := by
  obtain ⟨hi1, hi2⟩ := mdx_mem.1 hi
  have h256 : N ≤ 256 := hN ▸ pow8 hP
  have HD := Lib.hid (fun W => dmd_eq (P := P) (t := t) hi2 ▸ impl_demands i t (kdF (P.getD i .fls)) (.slice A n c) W (by omega) (by omega))
  have HDu := Lib.hid (fun W => dmd_eq (P := P) (t := u) hi2 ▸ impl_demands i u (kdF (P.getD i .fls)) (.slice A n c) W (by omega) (by omega))
  have HPQ : Hid (sq P t u i = (dmd P u i && !dmd P t i)) := Lib.hid rfl
  have hb := below_alloc' w (.cells #[.int .i64 (i : Int), .int .i64 (kdF (P.getD i .fls)), .slice A n c] 194)
  have K1 := Lib.hid (Blk.new w 194 #[.int .i64 (i : Int), .int .i64 (kdF (P.getD i .fls)), .slice A n c])
  have HF := Lib.hid ((hb.cell (p := ⟨f, 0, none⟩) lf).trans hf)
  have HG := Lib.hid ((hb.cell (p := ⟨g, 0, none⟩) lg).trans hg)
  have LF := Lib.hid (Nat.lt_of_lt_of_le lf hb.size)
  have LG := Lib.hid (Nat.lt_of_lt_of_le lg hb.size)
  have HB := Lib.hid hb
  clear hb hf hg lf lg hi hi1 hi2 ht hu hN
  generalize sq P t u i = res at *
  generalize dmd P t i = d1 at *
  generalize dmd P u i = d2 at *
  generalize kdF (P.getD i .fls) = kd at *
  go_enter Tryz.func311, Tryz.ntmps311
  go_upto_region 1 with fail
  generalize World.alloc w _ = w1 at *
  have k0 := K1.out.cell 0
  have k1 := K1.out.cell 1
  have k3 := K1.out.cell 2
  have k2 := K1.out.lt
  have g0 := HG.out
  have g1 := LG.out
  go_wp2_with fail
  refine (HDu.out _).mono ?_
  rintro e w2 ⟨rfl, hb⟩
  have HB2 := Lib.hid (bthen HB.out hb)
  have K2 := Lib.hid (K1.out.below hb K1.out.lt)
  have F2 := Lib.hid ((hb.cell (p := ⟨f, 0, none⟩) LF.out).trans HF.out)
  have LF2 := Lib.hid (Nat.lt_of_lt_of_le LF.out hb.size)
  clear hb k0 k1 k2 k3 g0 g1
  cases d2
  · go_wp2
    go_ret
    exact ⟨by rw [HPQ.out]; rfl, HB2.out⟩
  · have k0 := K2.out.cell 0
    have k1 := K2.out.cell 1
    have k3 := K2.out.cell 2
    have k2 := K2.out.lt
    have f0 := F2.out
    have f1 := LF2.out
    go_wp2_with fail
    refine (HD.out _).mono ?_
    rintro e w3 ⟨rfl, hb⟩
    have HB3 := Lib.hid (bthen HB2.out hb)
    clear hb k0 k1 k2 k3 f0 f1
    go_wp2
    go_ret
    exact ⟨by rw [HPQ.out]; cases d1 <;> rfl, HB3.out⟩
set_option maxRecDepth 100000 in
theorem impl_sees (P : List Fm) (N p t u : Nat) (al rf : List Bool) (hP : P.length ≤ 8) (hN : N = 2 ^ P.length) (ht : t < N) (hu : u < N) (w : World) (hT : TyR P N p al rf w) :
    Calls Tryz.prog 302 #[.pointer (some ⟨p, 0, none⟩), .int .i64 (t : Int), .int .i64 (u : Int)] w fun e w' => e = .returned (.bool (seT P t u)) ∧ Below w.heap.size w w' := by
  obtain ⟨hb, K1, K2⟩ := box2 w #[.int .i64 (t : Int)] #[.int .i64 (u : Int)] 2 2
  have HT := Lib.hid (hT.below hb)
  have HPs := Lib.hid (fun W (hW : TyR P N p al rf W) => impl_passes P N p t u al rf hP hN ht hu W hW)
  have HX : Hid (∀ (W : World) (A1 : Option Addr) (c1 : Nat), Blk W w.heap.size 2 #[.int .i64 (t : Int)] → Blk W (w.heap.size + 1) 2 #[.int .i64 (u : Int)] → RdS (ndS P) (fun _ => False) W (.slice A1 (mdx P).length c1) (mdx P) →
      Calls Tryz.prog 255 #[.slice A1 (mdx P).length c1, .func (.func 311) #[] #[.pointer (some ⟨w.heap.size + 1, 0, none⟩), .pointer (some ⟨w.heap.size, 0, none⟩)]] W fun e w' => e = .returned (.bool (stT P t u)) ∧ Below W.heap.size W w') := Lib.hid fun W A1 c1 k1 k2 hNd => by
    rw [stT_any]
    exact slices_ContainsFunc_need _ P _ _ _ (sq P t u) W hNd (by omega) en_sees_2 (fun w' hb' i hi A n c hS =>
      impl_sees_2 P N t u i hP hN ht hu hi A n c w.heap.size (w.heap.size + 1) w' ((hb'.cell (p := ⟨w.heap.size, 0, none⟩) k1.lt).trans (k1.cell 0)) ((hb'.cell (p := ⟨w.heap.size + 1, 0, none⟩) k2.lt).trans (k2.cell 0)) (Nat.lt_of_lt_of_le k1.lt hb'.size) (Nat.lt_of_lt_of_le k2.lt hb'.size))
  have HR : Hid (seT P t u = (psT P t u && stT P t u)) := Lib.hid rfl
  have KK1 := Lib.hid K1
  have KK2 := Lib.hid K2
  have HB := Lib.hid hb
  clear hb K1 K2 hT ht hu hN
  generalize psT P t u = r1 at *
  generalize stT P t u = r2 at *
  generalize seT P t u = res at *
  go_enter Tryz.func302, Tryz.ntmps302
  go_upto_region 1 with fail
  generalize World.alloc (World.alloc w _) _ = w3 at *
  have a0 := KK1.out.cell 0
  have a1 := KK1.out.lt
  have b0 := KK2.out.cell 0
  have b1 := KK2.out.lt
  obtain ⟨A0, A1, A2, A3, c0, c1, c2, c3, hK, -⟩ := HT.out
  have p0 := hK.cell 0
  have p1 := hK.lt
  go_wp2_with fail
  refine (HPs.out _ HT.out).mono ?_
  rintro e w4 ⟨rfl, hb⟩
  have HB4 := Lib.hid (bthen HB.out hb)
  have K41 := Lib.hid (KK1.out.below hb KK1.out.lt)
  have K42 := Lib.hid (KK2.out.below hb KK2.out.lt)
  have HT4 := Lib.hid (HT.out.below hb)
  clear hb a0 a1 b0 b1 p0 p1 hK
  cases r1
  · go_wp2
    go_ret
    exact ⟨by rw [HR.out]; rfl, HB4.out⟩
  · obtain ⟨A0, A1, A2, A3, c0, c1, c2, c3, hK, hNd, -⟩ := HT4.out
    have HC := Lib.hid (HX.out w4 A1 c1 K41.out K42.out hNd)
    have p0 := hK.cell 2
    have p1 := hK.lt
    clear hK hNd
    go_wp2_with fail
    refine HC.out.mono ?_
    rintro e w5 ⟨rfl, hb⟩
    have HB5 := Lib.hid (bthen HB4.out hb)
    clear hb p0 p1
    go_wp2
    go_ret
    exact ⟨by rw [HR.out]; cases r2 <;> rfl, HB5.out⟩
/- Contracts of chapter 12, of the program: witnesses, survival. -/
/-- a type with a flag shows what another one needs -/
def shw (P : List Fm) (al : List Bool) (t i : Nat) : Bool := (List.range (2 ^ P.length)).any fun u => al.getD u false && wiT P i t u
def lq (P : List Fm) (al : List Bool) (t i : Nat) : Bool := !dmd P t i && !shw P al t i
def surB (P : List Fm) (al : List Bool) (t : Nat) : Bool := !(mdx P).any (lq P al t)
theorem surB_iff {P : List Fm} {al : List Bool} {t : Nat} : surB P al t = true ↔ Sur P al t := by
  unfold surB
  rw [Bool.not_eq_true', List.any_eq_false]
  constructor
  · intro h i hi hm hd
    have := h i (mdx_mem.2 ⟨hi, hm⟩)
    unfold lq shw at this
    rw [hd] at this
    simp only [Bool.not_false, Bool.true_and, Bool.not_eq_true', Bool.not_eq_false, List.any_eq_true, Bool.and_eq_true] at this
    obtain ⟨u, hu, h1, h2⟩ := this
    exact ⟨u, List.mem_range.1 hu, h1, h2⟩
  · intro h i hi hq
    obtain ⟨h1, h2⟩ := mdx_mem.1 hi
    unfold lq at hq
    rw [Bool.and_eq_true, Bool.not_eq_true', Bool.not_eq_true'] at hq
    obtain ⟨u, hu, h3, h4⟩ := h i h1 h2 hq.1
    have : shw P al t i = true := List.any_eq_true.2 ⟨u, List.mem_range.2 hu, by rw [h3, h4]; rfl⟩
    rw [this] at hq
    exact absurd hq.2 (by decide)
set_option maxRecDepth 100000 in
theorem impl_isWitness (P : List Fm) (N p t u i : Nat) (al rf : List Bool) (hP : P.length ≤ 8) (hN : N = 2 ^ P.length) (ht : t < N) (hu : u < N) (hi : i ∈ mdx P) (A : Option Addr) (n c : Nat) (w : World) (hT : TyR P N p al rf w) (hS : Sl cB w (.slice A n c) (inr P i)) :
    Calls Tryz.prog 303 #[.pointer (some ⟨p, 0, none⟩), .agg #[.int .i64 (i : Int), .int .i64 (kdF (P.getD i .fls)), .slice A n c], .int .i64 (t : Int), .int .i64 (u : Int)] w fun e w' => e = .returned (.bool (wiT P i t u)) ∧ Below w.heap.size w w' := by
  obtain ⟨hi1, hi2⟩ := mdx_mem.1 hi
  have h256 : N ≤ 256 := hN ▸ pow8 hP
  have HDu := Lib.hid (fun W => dmd_eq (P := P) (t := u) hi2 ▸ impl_demands i u (kdF (P.getD i .fls)) (.slice A n c) W (by omega) (by omega))
  have HM := Lib.hid (fun W (hW : Sl cB W (.slice A n c) (inr P i)) => impl_meets (i : Int) (kdF (P.getD i .fls)) u (.slice A n c) (inr P i) W hW (by rw [inr_length, ← hN]; exact hu))
  rw [inr_get, ← mts_eq hi2] at HM
  have HSe := Lib.hid (fun W (hW : TyR P N p al rf W) => impl_sees P N p t u al rf hP hN ht hu W hW)
  have HR : Hid (wiT P i t u = (seT P t u && !mts P u i && dmd P u i)) := Lib.hid rfl
  have hb := below_alloc' w (.cells #[.int .i64 (i : Int), .int .i64 (kdF (P.getD i .fls)), .slice A n c] 194)
  have K1 := Lib.hid (Blk.new w 194 #[.int .i64 (i : Int), .int .i64 (kdF (P.getD i .fls)), .slice A n c])
  have HT := Lib.hid (hT.below hb)
  have HS := Lib.hid (hS.below hb)
  have HB := Lib.hid hb
  clear hb hT hS hi hi1 hi2 ht hu hN
  generalize wiT P i t u = res at *
  generalize seT P t u = r1 at *
  generalize dmd P u i = d2 at *
  generalize mts P u i = m2 at *
  generalize kdF (P.getD i .fls) = kd at *
  go_enter Tryz.func303, Tryz.ntmps303
  go_upto_region 1 with fail
  generalize World.alloc w _ = w1 at *
  go_wp2_with fail
  refine (HSe.out _ HT.out).mono ?_
  rintro e w2 ⟨rfl, hb⟩
  have HB2 := Lib.hid (bthen HB.out hb)
  have K2 := Lib.hid (K1.out.below hb K1.out.lt)
  have T2 := Lib.hid (HT.out.below hb)
  have S2 := Lib.hid (HS.out.below hb)
  clear hb
  cases r1
  · go_wp2
    go_ret
    exact ⟨by rw [HR.out]; rfl, HB2.out⟩
  · have k0 := K2.out.cell 0
    have k1 := K2.out.cell 1
    have k3 := K2.out.cell 2
    have k2 := K2.out.lt
    go_wp2_with fail
    refine (HM.out _ S2.out).mono ?_
    rintro e w3 ⟨rfl, hb⟩
    have HB3 := Lib.hid (bthen HB2.out hb)
    have K3 := Lib.hid (K2.out.below hb K2.out.lt)
    have T3 := Lib.hid (T2.out.below hb)
    clear hb k0 k1 k2 k3
    cases m2
    · have k0 := K3.out.cell 0
      have k1 := K3.out.cell 1
      have k3 := K3.out.cell 2
      have k2 := K3.out.lt
      obtain ⟨A0, A1, A2, A3, c0, c1, c2, c3, hK, -⟩ := T3.out
      have p0 := hK.cell 0
      have p1 := hK.lt
      clear hK
      go_wp2_with fail
      refine (HDu.out _).mono ?_
      rintro e w4 ⟨rfl, hb⟩
      have HB4 := Lib.hid (bthen HB3.out hb)
      clear hb k0 k1 k2 k3 p0 p1
      go_wp2
      go_ret
      exact ⟨by rw [HR.out]; cases d2 <;> rfl, HB4.out⟩
    · go_wp2
      go_ret
      exact ⟨by rw [HR.out]; rfl, HB3.out⟩
set_option maxRecDepth 100000 in
theorem impl_leastWitness (P : List Fm) (N p t i : Nat) (al rf : List Bool) (hP : P.length ≤ 8) (hN : N = 2 ^ P.length) (ht : t < N) (hi : i ∈ mdx P) (A : Option Addr) (n c : Nat) (w : World) (hT : TyR P N p al rf w) (hS : Sl cB w (.slice A n c) (inr P i)) :
    Calls Tryz.prog 288 #[.pointer (some ⟨p, 0, none⟩), .agg #[.int .i64 (i : Int), .int .i64 (kdF (P.getD i .fls)), .slice A n c], .int .i64 (t : Int)] w fun e w' => ∃ r : Int, e = .returned (.int .i64 r) ∧ decide (r < 0) = !shw P al t i ∧ Below w.heap.size w w' := by
  have h256 : N ≤ 256 := hN ▸ pow8 hP
  have HW := Lib.hid (fun u (hu : u < N) W (hW : TyR P N p al rf W) (hS : Sl cB W (.slice A n c) (inr P i)) => impl_isWitness P N p t u i al rf hP hN ht hu hi A n c W hW hS)
  have HY : Hid (∀ u, u < N → al.getD u false = true → wiT P i t u = true → shw P al t i = true) := Lib.hid fun u hu h1 h2 => List.any_eq_true.2 ⟨u, List.mem_range.2 (hN ▸ hu), by rw [h1, h2]; rfl⟩
  have HN : Hid ((∀ u, u < N → (al.getD u false && wiT P i t u) = false) → shw P al t i = false) := Lib.hid fun h => List.any_eq_false.2 fun u hu => by rw [h u (hN ▸ List.mem_range.1 hu)]; decide
  have hb := below_alloc' w (.cells #[.int .i64 (i : Int), .int .i64 (kdF (P.getD i .fls)), .slice A n c] 194)
  have K1 := Lib.hid (Blk.new w 194 #[.int .i64 (i : Int), .int .i64 (kdF (P.getD i .fls)), .slice A n c])
  have HT := Lib.hid (hT.below hb)
  have HS := Lib.hid (hS.below hb)
  have HB := Lib.hid hb
  clear hb hT hS hi ht hN
  generalize shw P al t i = res at *
  generalize kdF (P.getD i .fls) = kd at *
  go_enter Tryz.func288, Tryz.ntmps288
  go_upto_region 1 with fail
  generalize World.alloc w _ = w1 at *
  obtain ⟨A0, A1, A2, A3, c0, c1, c2, c3, hK, -, -, -, hal, -⟩ := HT.out
  have HAL := Lib.hid hal
  have p0 := hK.cell 3
  have p1 := hK.lt
  clear hK hal
  go_wp2
  clear p0 p1
  go_loopw [12] (fun k wr => ∃ j : Nat, j ≤ N ∧ k = .int .i64 j ∧ (∀ u, u < j → (al.getD u false && wiT P i t u) = false) ∧ Below w1.heap.size w1 wr) (fun k _ => N - (intOf k).toNat)
  case atStart => exact ⟨0, Nat.zero_le _, rfl, fun u hu => absurd hu (by omega), Below.refl _ _⟩
  case round =>
    obtain ⟨j, hj, rfl, hh, hb⟩ := hrel
    obtain ⟨w2, hw2⟩ : ∃ W, W = wr := ⟨_, rfl⟩
    subst hw2
    have HH := Lib.hid hh
    have B2 := Lib.hid hb
    have T2 := Lib.hid (HT.out.below hb)
    have S2 := Lib.hid (HS.out.below hb)
    have K2 := Lib.hid (K1.out.below hb K1.out.lt)
    clear hh hb
    by_cases hlt : j < N
    · obtain ⟨A0', A1', A2', A3', c0', c1', c2', c3', hK, -, -, hA, -⟩ := T2.out
      obtain ⟨ba, oa, rfl, hba, hca⟩ := hA.atB12 (k := j) (by rw [HAL.out]; exact hlt)
      have hge : al[j]'(by rw [HAL.out]; exact hlt) = al.getD j false := by rw [List.getD_eq_getElem?_getD, List.getElem?_eq_getElem (by rw [HAL.out]; exact hlt)]; rfl
      rw [hge] at hca
      have HWj := Lib.hid (HW.out j hlt)
      have HYj := Lib.hid (HY.out j hlt)
      have HX : Hid ((al.getD j false && wiT P i t j) = false → ∀ u, u < j + 1 → (al.getD u false && wiT P i t u) = false) := Lib.hid fun h u hu => by
        by_cases e : u = j
        · subst e; exact h
        · exact HH.out u (by omega)
      have p0 := hK.cell 5
      have p1 := hK.lt
      have i1 : (j : Int) < ((N : Nat) : Int) := by omega
      clear hK hA hge
      generalize wiT P i t j = wj at *
      generalize al.getD j false = aj at *
      cases aj
      · go_wp2
        go_roundw
        case rel => exact ⟨j + 1, by omega, by go_num, HX.out rfl, B2.out⟩
        case measure => simp [intOf]; omega
      · have k0 := K2.out.cell 0
        have k1 := K2.out.cell 1
        have k3 := K2.out.cell 2
        have k2 := K2.out.lt
        go_wp2_with fail
        refine (HWj.out _ T2.out S2.out).mono ?_
        rintro e w3 ⟨rfl, hb⟩
        have B3 := Lib.hid (B2.out.trans (hb.mono B2.out.size))
        clear hb k0 k1 k2 k3 p0 p1 hca hba
        cases wj
        · go_wp2
          go_roundw
          case rel => exact ⟨j + 1, by omega, by go_num, HX.out rfl, B3.out⟩
          case measure => simp [intOf]; omega
        · have HE : Hid (res = true) := Lib.hid (by simpa using HYj.out)
          go_wp2
          go_ret
          exact ⟨j, rfl, by rw [HE.out]; simp, bthen HB.out B3.out⟩
    · obtain rfl : j = N := by omega
      have HE := Lib.hid (HN.out HH.out)
      go_wp2
      go_ret
      exact ⟨-1, rfl, by rw [HE.out]; rfl, bthen HB.out B2.out⟩
theorem en_survives_1 : ∀ (args : Array Value) (w : World), (callFunc 287 args).run Tryz.prog w = .ok (.enter 287 args) w := enters Tryz.func287 (by kernel_rfl) (by kernel_rfl)
set_option maxRecDepth 100000 in
theorem impl_survives_1 (P : List Fm) (N p t i : Nat) (al rf : List Bool) (hP : P.length ≤ 8) (hN : N = 2 ^ P.length) (ht : t < N) (hi : i ∈ mdx P) (A : Option Addr) (n c f q : Nat) (w : World) (hT : TyR P N p al rf w) (hS : Sl cB w (.slice A n c) (inr P i))
    (hf : w.cell? ⟨f, 0, none⟩ = some (.int .i64 (t : Int))) (hq : w.cell? ⟨q, 0, none⟩ = some (.pointer (some ⟨p, 0, none⟩))) (lf : f < w.heap.size) (lQ : q < w.heap.size) :
    Calls Tryz.prog 287 #[.agg #[.int .i64 (i : Int), .int .i64 (kdF (P.getD i .fls)), .slice A n c], .pointer (some ⟨f, 0, none⟩), .pointer (some ⟨q, 0, none⟩)] w fun e w' => e = .returned (.bool (lq P al t i)) ∧ Below w.heap.size w w' := by
  obtain ⟨hi1, hi2⟩ := mdx_mem.1 hi
  have h256 : N ≤ 256 := hN ▸ pow8 hP
  have HD := Lib.hid (fun W => dmd_eq (P := P) (t := t) hi2 ▸ impl_demands i t (kdF (P.getD i .fls)) (.slice A n c) W (by omega) (by omega))
  have HL := Lib.hid (fun W (hW : TyR P N p al rf W) (hS : Sl cB W (.slice A n c) (inr P i)) => impl_leastWitness P N p t i al rf hP hN ht hi A n c W hW hS)
  have HR : Hid (lq P al t i = (!dmd P t i && !shw P al t i)) := Lib.hid rfl
  have hb := below_alloc' w (.cells #[.int .i64 (i : Int), .int .i64 (kdF (P.getD i .fls)), .slice A n c] 194)
  have K1 := Lib.hid (Blk.new w 194 #[.int .i64 (i : Int), .int .i64 (kdF (P.getD i .fls)), .slice A n c])
  have HF := Lib.hid ((hb.cell (p := ⟨f, 0, none⟩) lf).trans hf)
  have HQ := Lib.hid ((hb.cell (p := ⟨q, 0, none⟩) lQ).trans hq)
  have LF := Lib.hid (Nat.lt_of_lt_of_le lf hb.size)
  have LQ := Lib.hid (Nat.lt_of_lt_of_le lQ hb.size)
  have HT := Lib.hid (hT.below hb)
  have HS := Lib.hid (hS.below hb)
  have HB := Lib.hid hb
  clear hb hT hS hi hi1 hi2 ht hN hf hq lf lQ
  generalize lq P al t i = res at *
  generalize dmd P t i = d1 at *
  generalize shw P al t i = s1 at *
  generalize kdF (P.getD i .fls) = kd at *
  go_enter Tryz.func287, Tryz.ntmps287
  go_upto_region 1 with fail
  generalize World.alloc w _ = w1 at *
  have k0 := K1.out.cell 0
  have k1 := K1.out.cell 1
  have k3 := K1.out.cell 2
  have k2 := K1.out.lt
  have f0 := HF.out
  have f1 := LF.out
  go_wp2_with fail
  refine (HD.out _).mono ?_
  rintro e w2 ⟨rfl, hb⟩
  have HB2 := Lib.hid (bthen HB.out hb)
  have K2 := Lib.hid (K1.out.below hb K1.out.lt)
  have F2 := Lib.hid ((hb.cell (p := ⟨f, 0, none⟩) LF.out).trans HF.out)
  have LF2 := Lib.hid (Nat.lt_of_lt_of_le LF.out hb.size)
  have Q2 := Lib.hid ((hb.cell (p := ⟨q, 0, none⟩) LQ.out).trans HQ.out)
  have LQ2 := Lib.hid (Nat.lt_of_lt_of_le LQ.out hb.size)
  have T2 := Lib.hid (HT.out.below hb)
  have S2 := Lib.hid (HS.out.below hb)
  clear hb k0 k1 k2 k3 f0 f1
  cases d1
  · have k0 := K2.out.cell 0
    have k1 := K2.out.cell 1
    have k3 := K2.out.cell 2
    have k2 := K2.out.lt
    have f0 := F2.out
    have f1 := LF2.out
    have q0 := Q2.out
    have q1 := LQ2.out
    go_wp2_with fail
    refine (HL.out _ T2.out S2.out).mono ?_
    rintro e w3 ⟨r, rfl, hr, hb⟩
    have HB3 := Lib.hid (bthen HB2.out hb)
    have HRR := Lib.hid hr
    clear hb k0 k1 k2 k3 f0 f1 q0 q1 hr
    go_wp2
    go_ret
    exact ⟨by rw [HR.out, ← HRR.out]; rfl, HB3.out⟩
  · go_wp2
    go_ret
    exact ⟨by rw [HR.out]; rfl, HB2.out⟩
set_option maxRecDepth 100000 in
theorem impl_survives (P : List Fm) (N p t : Nat) (al rf : List Bool) (hP : P.length ≤ 8) (hN : N = 2 ^ P.length) (ht : t < N) (w : World) (hT : TyR P N p al rf w) :
    Calls Tryz.prog 259 #[.pointer (some ⟨p, 0, none⟩), .int .i64 (t : Int)] w fun e w' => e = .returned (.bool (surB P al t)) ∧ Below w.heap.size w w' := by
  obtain ⟨hb, K1, K2⟩ := box2 w #[.pointer (some ⟨p, 0, none⟩)] #[.int .i64 (t : Int)] 148 2
  obtain ⟨A0, A1, A2, A3, c0, c1, c2, c3, hK, hNd, -⟩ := hT.below hb
  have HX := Lib.hid (slices_ContainsFunc_need _ P _ 287 #[.pointer (some ⟨w.heap.size + 1, 0, none⟩), .pointer (some ⟨w.heap.size, 0, none⟩)] (lq P al t) _ hNd (by omega) en_survives_1 (fun w' hb' i hi A n c hS =>
    impl_survives_1 P N p t i al rf hP hN ht hi A n c (w.heap.size + 1) w.heap.size w' ((hT.below hb).below hb') hS ((hb'.cell (p := ⟨w.heap.size + 1, 0, none⟩) K2.lt).trans (K2.cell 0)) ((hb'.cell (p := ⟨w.heap.size, 0, none⟩) K1.lt).trans (K1.cell 0)) (Nat.lt_of_lt_of_le K2.lt hb'.size) (Nat.lt_of_lt_of_le K1.lt hb'.size)))
  have HR : Hid (surB P al t = !(mdx P).any (lq P al t)) := Lib.hid rfl
  have KK := Lib.hid K1
  have KP := Lib.hid hK
  have HB := Lib.hid hb
  clear hb K1 K2 hK hNd hT ht hN
  generalize (mdx P).any (lq P al t) = r at *
  generalize surB P al t = res at *
  go_enter Tryz.func259, Tryz.ntmps259
  go_upto_region 1 with fail
  generalize World.alloc (World.alloc w _) _ = w3 at *
  have k0 := KK.out.cell 0
  have k1 := KK.out.lt
  have p0 := KP.out.cell 0
  have p2 := KP.out.cell 2
  have p1 := KP.out.lt
  go_wp2_with fail
  refine HX.out.mono ?_
  rintro e w4 ⟨rfl, hb⟩
  have HB4 := Lib.hid (bthen HB.out hb)
  clear hb k0 k1 p0 p1 p2
  go_wp2
  go_ret
  exact ⟨by rw [HR.out]; rfl, HB4.out⟩
/- Contracts of chapter 12, of the program: types are taken away until all that are left survive. -/
/-- a types value whose row of living types is the call's own -/
def TyE (P : List Fm) (N p ga : Nat) (al rf : List Bool) (W : World) : Prop := ∃ (A0 A1 A2 : Option Addr) (c0 c1 c2 c3 B : Nat),
  Blk W p 192 #[.string ⟨#[71, 76]⟩, .slice A0 P.length c0, .slice A1 (mdx P).length c1, .int .i64 (N : Int), .slice A2 N c2, .slice (some ⟨ga, 0, none⟩) N c3] ∧
  RdS (ndS P) (fun k => k = ga) W (.slice A1 (mdx P).length c1) (mdx P) ∧ Sl cB W (.slice A2 N c2) rf ∧ (∀ k, (Value.slice A2 N c2).ownBlock = some k → k ≠ ga) ∧ Ow cB 4 B W (.slice (some ⟨ga, 0, none⟩) N c3) al ∧ al.length = N ∧ rf.length = N ∧ p ≠ ga
theorem TyE.r {P : List Fm} {N p ga : Nat} {al rf : List Bool} {W : World} (h : TyE P N p ga al rf W) : TyR P N p al rf W := by
  obtain ⟨A0, A1, A2, c0, c1, c2, c3, B, h1, h2, h3, h4, h5, h6, h7, h8⟩ := h
  exact ⟨A0, A1, A2, _, c0, c1, c2, c3, h1, h2.less (fun _ h => h.elim), h3, h5.sl, h6, h7⟩
theorem TyE.below {P : List Fm} {N p ga : Nat} {al rf : List Bool} {W W' : World} (h : TyE P N p ga al rf W) (hb : Below W.heap.size W W') : TyE P N p ga al rf W' := by
  obtain ⟨A0, A1, A2, c0, c1, c2, c3, B, h1, h2, h3, h4, h5, h6, h7, h8⟩ := h
  exact ⟨A0, A1, A2, c0, c1, c2, c3, B, h1.below hb h1.lt, h2.below hb, h3.below hb, h4, h5.below hb, h6, h7, h8⟩
theorem TyE.set {P : List Fm} {N p ga : Nat} {al rf : List Bool} {W : World} (h : TyE P N p ga al rf W) {j : Nat} (hj : j < N) (b : Bool) : TyE P N p ga (al.set j b) rf (W.setCell ⟨ga, j, none⟩ (.bool b)) := by
  obtain ⟨A0, A1, A2, c0, c1, c2, c3, B, h1, h2, h3, h4, h5, h6, h7, h8⟩ := h
  have hk : KpS (fun k => k = ga) W (W.setCell ⟨ga, j, none⟩ (.bool b)) := (KpS.refl (fun k => k = ga) W).set (p := ⟨ga, j, none⟩) rfl _
  exact ⟨A0, A1, A2, c0, c1, c2, c3, B, h1.kps hk h8, h2.kps hk, h3.kps hk h4, h4, h5.set1 rfl rfl (by omega), by rw [List.length_set]; exact h6, h7, h8⟩
theorem TyE.cell {P : List Fm} {N p ga : Nat} {al rf : List Bool} {W : World} (h : TyE P N p ga al rf W) {j : Nat} (hj : j < N) : W.cell? ⟨ga, j, none⟩ = some (.bool (al.getD j false)) ∧ W.frozen? ⟨ga, j, none⟩ = false ∧ ga < W.heap.size := by
  obtain ⟨A0, A1, A2, c0, c1, c2, c3, B, h1, h2, h3, h4, h5, h6, h7, h8⟩ := h
  obtain ⟨q1, q2, -, q4⟩ := h5.at1 (j := j) rfl (by omega) rfl
  refine ⟨?_, q2, q4⟩
  rw [q1, List.getD_eq_getElem?_getD, List.getElem?_eq_getElem (by omega)]
  rfl
/-- how many flags are set -/
def cnA (N : Nat) (al : List Bool) : Nat := ((List.range N).filter fun j => al.getD j false).length
def cnW (N ga : Nat) (W : World) : Nat := ((List.range N).filter fun j => match W.cell? ⟨ga, j, none⟩ with | some (.bool true) => true | _ => false).length
theorem TyE.cn {P : List Fm} {N p ga : Nat} {al rf : List Bool} {W : World} (h : TyE P N p ga al rf W) : cnW N ga W = cnA N al := by
  unfold cnW cnA
  congr 1
  apply List.filter_congr
  intro j hj
  rw [(h.cell (List.mem_range.1 hj)).1]
  cases al.getD j false <;> rfl
theorem cnA_set {N j : Nat} {al : List Bool} (hj : j < N) (hl : j < al.length) (h : al.getD j false = true) : cnA N (al.set j false) < cnA N al := by
  refine filter_lt _ _ _ (fun x hx hp => ?_) ⟨j, List.mem_range.2 hj, h, ?_⟩
  · by_cases e : j = x
    · subst e
      rw [List.getD_eq_getElem?_getD, List.getElem?_set_self hl] at hp
      cases hp
    · rw [List.getD_eq_getElem?_getD, List.getElem?_set_ne e] at hp
      rw [List.getD_eq_getElem?_getD]
      exact hp
  · rw [List.getD_eq_getElem?_getD, List.getElem?_set_self hl]
    rfl
set_option maxRecDepth 100000 in
set_option maxHeartbeats 1000000 in
theorem impl_eliminate (P : List Fm) (N p ga : Nat) (al rf : List Bool) (hP : P.length ≤ 8) (hN : N = 2 ^ P.length) (w : World) (hT : TyE P N p ga al rf w) (hI : InvA P al) :
    Calls Tryz.prog 218 #[.pointer (some ⟨p, 0, none⟩)] w fun e w' => e = .returned (.tuple #[]) ∧ ∃ al', TyE P N p ga al' rf w' ∧ (∀ t, al'.getD t false = true ↔ Alv P t) ∧ KpS (fun k => k = ga) w w' := by
  have h256 : N ≤ 256 := hN ▸ pow8 hP
  have HSv := Lib.hid (fun al t (ht : t < N) W (hW : TyE P N p ga al rf W) => impl_survives P N p t al rf hP hN ht W hW.r)
  have HDn : Hid (∀ al, InvA P al → (∀ t, t < N → al.getD t false = true → Sur P al t) → ∀ t, al.getD t false = true ↔ Alv P t) := Lib.hid fun al h1 h2 t => h1.done (fun t ht => h2 t (hN ▸ ht))
  have HIv := Lib.hid hI
  have HT := Lib.hid hT
  clear hI hT hN
  go_enter Tryz.func218, Tryz.ntmps218
  go_wp2
  go_loopw [2] (fun cv wr => ∃ (al1 : List Bool) (c : Bool), cv = .bool c ∧ TyE P N p ga al1 rf wr ∧ InvA P al1 ∧ (c = false → ∀ t, t < N → al1.getD t false = true → Sur P al1 t) ∧ KpS (fun k => k = ga) w wr) (fun cv wr => 2 * cnW N ga wr + (match cv with | .bool true => 1 | _ => 0))
  case atStart => exact ⟨al, true, rfl, HT.out, HIv.out, fun h => (by cases h), KpS.refl _ _⟩
  case round =>
    obtain ⟨al1, c, rfl, hT, hI, hS, hk⟩ := hrel
    obtain ⟨w1, hw1⟩ : ∃ W, W = wr := ⟨_, rfl⟩
    subst hw1
    have T1 := Lib.hid hT
    have I1 := Lib.hid hI
    have S1 := Lib.hid hS
    have KK1 := Lib.hid hk
    have HC1 := Lib.hid hT.cn
    clear hT hI hS hk
    cases c
    · go_wp2
      have HF := Lib.hid (HDn.out al1 I1.out (by simpa using S1.out))
      go_end0
      exact ⟨rfl, al1, T1.out, HF.out, KK1.out⟩
    · obtain ⟨A0, A1, A2, c0, c1, c2, c3, B, hK, -⟩ := T1.out
      have p0 := hK.cell 3
      have p1 := hK.lt
      clear hK
      go_wp2
      clear p0 p1
      go_loopw [2, 9] (fun cv k wr => ∃ (j : Nat) (al2 : List Bool) (c : Bool), j ≤ N ∧ k = .int .i64 j ∧ cv = .bool c ∧ TyE P N p ga al2 rf wr ∧ InvA P al2 ∧ (c = false → al2 = al1 ∧ ∀ t, t < j → al1.getD t false = true → Sur P al1 t) ∧ (c = true → cnA N al2 < cnA N al1) ∧ KpS (fun k => k = ga) w wr) (fun _ k _ => N - (intOf k).toNat)
      case atStart => exact ⟨0, al1, false, Nat.zero_le _, rfl, rfl, T1.out, I1.out, fun _ => ⟨rfl, fun t ht => absurd ht (by omega)⟩, fun h => (by cases h), KK1.out⟩
      case round =>
        obtain ⟨j, al2, c, hj, rfl, rfl, hT, hI, hS, hC, hk⟩ := hrel
        obtain ⟨w2, hw2⟩ : ∃ W, W = wr := ⟨_, rfl⟩
        subst hw2
        have T2 := Lib.hid hT
        have I2 := Lib.hid hI
        have S2 := Lib.hid hS
        have C2 := Lib.hid hC
        have KK2 := Lib.hid hk
        clear hT hI hS hC hk
        by_cases hlt : j < N
        · obtain ⟨q1, q2, q3⟩ := T2.out.cell hlt
          obtain ⟨A0', A1', A2', c0', c1', c2', c3', B', hK, -⟩ := T2.out
          have p0 := hK.cell 5
          have p1 := hK.lt
          have i1 : (j : Int) < (N : Int) := by omega
          have HSj := Lib.hid (HSv.out al2 j hlt)
          have HC2 := Lib.hid T2.out.cn
          clear hK
          cases hv : al2.getD j false
          · have S3 : Hid (c = false → al2 = al1 ∧ ∀ t, t < j + 1 → al1.getD t false = true → Sur P al1 t) := Lib.hid fun hc => by
              obtain ⟨e, h⟩ := S2.out hc
              refine ⟨e, fun t ht hat => ?_⟩
              by_cases e2 : t = j
              · subst e2
                rw [← e, hv] at hat
                cases hat
              · exact h t (by omega) hat
            rw [hv] at q1
            clear hv
            go_wp2
            go_roundw
            case rel => exact ⟨j + 1, al2, c, by omega, by go_num, rfl, T2.out, I2.out, S3.out, C2.out, KK2.out⟩
            case measure => simp [intOf]; omega
          · rw [hv] at q1
            cases hsv : surB P al2 j
            · have hns : ¬ Sur P al2 j := fun h => by rw [surB_iff.2 h] at hsv; cases hsv
              have hlj : j < al2.length := by
                obtain ⟨_, _, _, _, _, _, _, _, _, _, _, _, _, hal, _⟩ := T2.out
                rw [hal]; exact hlt
              have I3 := Lib.hid (I2.out.cut hns)
              have C3 : Hid (cnA N (al2.set j false) < cnA N al1) := Lib.hid (by
                have h1 := cnA_set hlt hlj hv
                cases c
                · rw [← (S2.out rfl).1]; exact h1
                · have := C2.out rfl
                  omega)
              rw [hsv] at HSj
              clear hv hns hlj hsv
              go_wp2_with fail
              refine (HSj.out _ T2.out).mono ?_
              rintro e w3 ⟨rfl, hb⟩
              have T3 := Lib.hid (T2.out.below hb)
              have T4 := Lib.hid (T3.out.set hlt false)
              have K4 := Lib.hid (((KK2.out.below hb)).set (p := ⟨ga, j, none⟩) rfl (.bool false))
              obtain ⟨r1, r2, r3⟩ := T3.out.cell hlt
              obtain ⟨A0', A1', A2', c0', c1', c2', c3', B', hK, -⟩ := T3.out
              clear q1 q2 q3 p0 p1 hb
              have p0 := hK.cell 5
              have p1 := hK.lt
              clear hK
              go_wp2
              go_roundw
              case rel => exact ⟨j + 1, _, true, by omega, by go_num, rfl, T4.out, I3.out, fun h => (by cases h), fun _ => C3.out, K4.out⟩
              case measure => simp [intOf]; omega
            · have S3 : Hid (c = false → al2 = al1 ∧ ∀ t, t < j + 1 → al1.getD t false = true → Sur P al1 t) := Lib.hid fun hc => by
                obtain ⟨e, h⟩ := S2.out hc
                refine ⟨e, fun t ht hat => ?_⟩
                by_cases e2 : t = j
                · subst e2
                  rw [← e]
                  exact surB_iff.1 hsv
                · exact h t (by omega) hat
              rw [hsv] at HSj
              clear hv hsv
              go_wp2_with fail
              refine (HSj.out _ T2.out).mono ?_
              rintro e w3 ⟨rfl, hb⟩
              have T3 := Lib.hid (T2.out.below hb)
              have K3 := Lib.hid (KK2.out.below hb)
              clear q1 q2 q3 p0 p1 hb
              go_wp2
              go_roundw
              case rel => exact ⟨j + 1, al2, c, by omega, by go_num, rfl, T3.out, I2.out, S3.out, C2.out, K3.out⟩
              case measure => simp [intOf]; omega
        · obtain rfl : j = N := by omega
          have HC2 := Lib.hid T2.out.cn
          have HM : Hid (2 * cnW j ga w2 + (match Value.bool c with | .bool true => 1 | _ => 0) < 2 * cnW j ga w1 + 1) := Lib.hid (by
            rw [HC2.out, HC1.out]
            cases c
            · rw [(S2.out rfl).1]; show 2 * _ + 0 < _; omega
            · have := C2.out rfl
              show 2 * _ + 1 < _
              omega)
          have S3 : Hid (c = false → ∀ t, t < j → al2.getD t false = true → Sur P al2 t) := Lib.hid fun hc => by
            obtain ⟨e, h⟩ := S2.out hc
            rw [e]; exact h
          go_wp2
          go_roundw
          case rel => exact ⟨al2, c, rfl, T2.out, I2.out, S3.out, KK2.out⟩
          case measure => exact HM.out
/- Contracts of chapter 12, of the program: newTypes. -/
theorem impl_isReflexive_GL (w : World) :
    Calls Tryz.prog 254 #[.string ⟨#[71, 76]⟩] w fun e w' => e = .returned (.bool false) ∧ w = w' := by
  go_enter Tryz.func254, Tryz.ntmps254
  go_wp2
  go_ret
  exact ⟨rfl, rfl⟩
theorem impl_isAllowed_GL (p : Nat) (cs : Array Value) (t : Int) (w : World) (h : Blk w p 192 cs) (h0 : cs[0]? = some (.string ⟨#[71, 76]⟩)) :
    Calls Tryz.prog 217 #[.pointer (some ⟨p, 0, none⟩), .int .i64 t] w fun e w' => e = .returned (.bool true) ∧ Below w.heap.size w w' := by
  have hb := below_alloc' w (.cells #[.int .i64 t] 2)
  have p0 : (World.alloc w (.cells #[.int .i64 t] 2)).cell? ⟨p, 0, none⟩ = some (.string ⟨#[71, 76]⟩) := ((h.below hb h.lt).cell 0).trans h0
  have p1 := (h.below hb h.lt).lt
  have HB := Lib.hid hb
  clear hb h h0
  go_enter Tryz.func217, Tryz.ntmps217
  go_upto_region 1 with fail
  generalize World.alloc w _ = w1 at *
  go_wp2_with fail
  refine (impl_isReflexive_GL _).mono ?_
  rintro e w2 ⟨rfl, rfl⟩
  go_wp2
  go_ret
  exact ⟨rfl, HB.out⟩
/-- does a type refute a sequent? -/
def rfT (P L R : List Fm) (t : Nat) : Bool := L.all (vt P t) && !R.any (vt P t)
theorem slices_ContainsFunc_fm (v : Value) (fs : List Fm) (T : Nat → Prop) (k : FuncId) (cap : Array Value) (q : Fm → Bool) (w : World) (h : RdS fmS T w v fs) (hl : fs.length ≤ 1000)
    (hk : ∀ (args : Array Value) (w : World), (callFunc k args).run Tryz.prog w = .ok (.enter k args) w)
    (hf : ∀ w', Below w.heap.size w w' → ∀ f ∈ fs, ∀ u, Sl cN w' u (enc f) → Calls Tryz.prog k (#[u] ++ cap) w' fun e w'' => e = .returned (.bool (q f)) ∧ Below w'.heap.size w' w'') :
    Calls Tryz.prog 131 #[v, .func (.func k) #[] cap] w fun e w' => e = .returned (.bool (fs.any q)) ∧ Below w.heap.size w w' := by
  obtain ⟨ps, h1, h2, h3, h4⟩ := h
  have h2' : Sl2 cN w v (fs.map enc) := by
    have h1' : Sl cH w v (ps.map (fun p : Hd × Fm => p.1)) := h1
    refine ⟨_, h1', by rw [← h3]; simp, fun i a b => ?_⟩
    have hi : i < ps.length := by simpa using a
    have := (h4 ps[i] (List.getElem_mem hi)).1
    subst h3
    simp only [List.getElem_map]
    exact this
  have := slices_ContainsFunc_nodes' v (fs.map enc) k cap (fun i => q (fs.getD i .fls)) w h2' (by rw [List.length_map]; omega) hk (fun w' hb u i hi hS => by
    have hi' : i < fs.length := by simpa using hi
    have e : fs.getD i .fls = fs[i] := by rw [List.getD_eq_getElem?_getD, List.getElem?_eq_getElem hi']; rfl
    rw [e]
    exact hf w' hb fs[i] (List.getElem_mem hi') u (by rw [List.getElem_map] at hS; exact hS))
  rw [List.length_map] at this
  have e : (List.range fs.length).any (fun i => q (fs.getD i .fls)) = fs.any q := by
    rw [Bool.eq_iff_iff, List.any_eq_true, List.any_eq_true]
    constructor
    · rintro ⟨i, hi, h⟩
      have hi' := List.mem_range.1 hi
      rw [List.getD_eq_getElem?_getD, List.getElem?_eq_getElem hi', Option.getD_some] at h
      exact ⟨_, List.getElem_mem hi', h⟩
    · rintro ⟨f, hf, h⟩
      obtain ⟨i, hi, rfl⟩ := List.getElem_of_mem hf
      exact ⟨i, List.mem_range.2 hi, by rw [List.getD_eq_getElem?_getD, List.getElem?_eq_getElem hi]; exact h⟩
  rw [e] at this
  exact this
theorem en_newTypes_1 : ∀ (args : Array Value) (w : World), (callFunc 215 args).run Tryz.prog w = .ok (.enter 215 args) w := enters Tryz.func215 (by kernel_rfl) (by kernel_rfl)
theorem en_newTypes_2 : ∀ (args : Array Value) (w : World), (callFunc 216 args).run Tryz.prog w = .ok (.enter 216 args) w := enters Tryz.func216 (by kernel_rfl) (by kernel_rfl)
theorem impl_newTypes_1 (P : List Fm) (t p tv tb : Nat) (f : Fm) (hV : VIn P t p f) (hok : f.ok = true) (hl : (enc f).length ≤ 40) (hin : inP P f) (u : Value) (w : World) (hp : PtR P p w) (hu : Sl cN w u (enc f)) (h1 : w.cell? ⟨tv, 0, none⟩ = some (.pointer (some ⟨p, 0, none⟩))) (h2 : w.cell? ⟨tb, 0, none⟩ = some (.int .i64 (t : Int))) (l1 : tv < w.heap.size) (l2 : tb < w.heap.size) :
    Calls Tryz.prog 215 #[u, .pointer (some ⟨tv, 0, none⟩), .pointer (some ⟨tb, 0, none⟩)] w fun e w' => e = .returned (.bool (!vt P t f)) ∧ Below w.heap.size w w' := by
  have HV := Lib.hid (hV hok hl hin u w hp hu)
  clear hV hp hu
  generalize vt P t f = r at *
  go_enter Tryz.func215, Tryz.ntmps215
  go_wp2_with fail
  refine HV.out.mono ?_
  rintro e w1 ⟨rfl, hb⟩
  have HB := Lib.hid hb
  clear hb h1 h2 l1 l2
  go_wp2
  go_ret
  exact ⟨rfl, HB.out⟩
theorem impl_newTypes_2 (P : List Fm) (t p tv tb : Nat) (f : Fm) (hV : VIn P t p f) (hok : f.ok = true) (hl : (enc f).length ≤ 40) (hin : inP P f) (u : Value) (w : World) (hp : PtR P p w) (hu : Sl cN w u (enc f)) (h1 : w.cell? ⟨tv, 0, none⟩ = some (.pointer (some ⟨p, 0, none⟩))) (h2 : w.cell? ⟨tb, 0, none⟩ = some (.int .i64 (t : Int))) (l1 : tv < w.heap.size) (l2 : tb < w.heap.size) :
    Calls Tryz.prog 216 #[u, .pointer (some ⟨tv, 0, none⟩), .pointer (some ⟨tb, 0, none⟩)] w fun e w' => e = .returned (.bool (vt P t f)) ∧ Below w.heap.size w w' := by
  have HV := Lib.hid (hV hok hl hin u w hp hu)
  clear hV hp hu
  generalize vt P t f = r at *
  go_enter Tryz.func216, Tryz.ntmps216
  go_wp2_with fail
  refine HV.out.mono ?_
  rintro e w1 ⟨rfl, hb⟩
  have HB := Lib.hid hb
  clear hb h1 h2 l1 l2
  go_wp2
  go_ret
  exact ⟨rfl, HB.out⟩
end Go.Proofs.YtgcoohlakcncbaaGreat
