/- Joined of several texts: 12I, 12J, 12K, 12L, 33K. -/
import Derived.Test.YtgcoohlakcncbaaGreat12H
import Derived.Test.YtgcoohlakcncbaaGreatJB
import Derived.Test.YtgcoohlakcncbaaGreat33tt
import Derived.Test.YtgcoohlakcncbaaGreatB2
import Derived.Test.YtgcoohlakcncbaaGreatN34
import Derived.Test.YtgcoohlakcncbaaGreatM3
import Derived.Test.YtgcoohlakcncbaaGreatJI
namespace Go.Proofs.YtgcoohlakcncbaaGreat
open Go.RowKit
set_option linter.unusedVariables false
set_option linter.unusedSimpArgs false
/- Contracts of chapter 12, of the program: refuting, isModalTheorem, sequentOf. -/
def rq (al rf : List Bool) (t : Nat) : Bool := al.getD t false && rf.getD t false
theorem any_succ_rq (q : Nat → Bool) (k : Nat) : (List.range (k + 1)).any q = ((List.range k).any q || q k) := by
  rw [List.range_succ, List.any_append]; simp
set_option maxRecDepth 100000 in
theorem impl_refuting (P : List Fm) (N p : Nat) (al rf : List Bool) (hP : P.length ≤ 8) (hN : N = 2 ^ P.length) (w : World) (hT : TyR P N p al rf w) :
    Calls Tryz.prog 142 #[.pointer (some ⟨p, 0, none⟩)] w fun e w' => ∃ r : Int, e = .returned (.int .i64 r) ∧ decide (r < 0) = !(List.range N).any (rq al rf) ∧ Below w.heap.size w w' := by
  have h256 : N ≤ 256 := hN ▸ pow8 hP
  have HT := Lib.hid hT
  clear hN hT
  obtain ⟨A0, A1, A2, A3, c0, c1, c2, c3, hK, -⟩ := HT.out
  have p0 := hK.cell 3
  have p1 := hK.lt
  clear hK
  go_enter Tryz.func142, Tryz.ntmps142
  go_wp2
  clear p0 p1
  go_loopw [8] (fun k wr => ∃ (j : Nat), j ≤ N ∧ k = .int .i64 j ∧ (List.range j).any (rq al rf) = false ∧ Below w.heap.size w wr) (fun k _ => N - (intOf k).toNat)
  case atStart => exact ⟨0, Nat.zero_le _, rfl, rfl, Below.refl _ _⟩
  case round =>
    obtain ⟨j, hj, rfl, hn, hb⟩ := hrel
    have HNo := Lib.hid hn
    have HB := Lib.hid hb
    clear hn
    by_cases hlt : j < N
    · obtain ⟨A0, A1, A2, A3, c0, c1, c2, c3, hK, -, h2, h3, hl1, hl2⟩ := HT.out.below hb
      have p4 := hK.cell 4
      have p5 := hK.cell 5
      have p1 := hK.lt
      have h2' : Sl cB wr (.slice A2 rf.length c2) rf := by rw [hl2]; exact h2
      have h3' : Sl cB wr (.slice A3 al.length c3) al := by rw [hl1]; exact h3
      obtain ⟨b2, o2, rfl, l2, e2⟩ := h2'.atB12 (show j < _ by omega)
      obtain ⟨b3, o3, rfl, l3, e3⟩ := h3'.atB12 (show j < _ by omega)
      have HS := Lib.hid (any_succ_rq (rq al rf) j)
      have HA := Lib.hid (fun h : rq al rf j = true => List.any_eq_true.2 ⟨j, List.mem_range.2 hlt, h⟩)
      have HQ : Hid (rq al rf j = (al[j]'(by omega) && rf[j]'(by omega))) := Lib.hid (by
        unfold rq
        rw [List.getD_eq_getElem?_getD, List.getD_eq_getElem?_getD, List.getElem?_eq_getElem (by omega), List.getElem?_eq_getElem (by omega)]
        rfl)
      have i1 : (j : Int) < (N : Int) := by omega
      generalize al[j] = a1 at *
      generalize rf[j] = a2 at *
      clear hK h2 h3 h2' h3' hb
      cases a1
      · rw [HQ.out, HNo.out] at HS
        go_wp2
        go_roundw
        case rel => exact ⟨j + 1, by omega, by go_num, HS.out, HB.out⟩
        case measure => simp [intOf]; omega
      · cases a2
        · rw [HQ.out, HNo.out] at HS
          go_wp2
          go_roundw
          case rel => exact ⟨j + 1, by omega, by go_num, HS.out, HB.out⟩
          case measure => simp [intOf]; omega
        · go_wp2
          go_ret
          exact ⟨_, rfl, by rw [HA.out (by rw [HQ.out]; rfl)]; simp, HB.out⟩
    · obtain rfl : N = j := by omega
      go_wp2
      go_ret
      exact ⟨_, rfl, by rw [HNo.out]; rfl, HB.out⟩
noncomputable def thB (fs gs : List Fm) : Bool := @decide (ThmT (elF (fs ++ gs)) fs gs) (Classical.propDecidable _)
theorem thB_iff {fs gs : List Fm} : thB fs gs = true ↔ ThmT (elF (fs ++ gs)) fs gs := by unfold thB; exact @decide_eq_true_iff _ (Classical.propDecidable _)
theorem thB_any {fs gs : List Fm} {P : List Fm} {N : Nat} (hPE : elF (fs ++ gs) = P) (hN : N = 2 ^ P.length) {al : List Bool} (ha : ∀ t, al.getD t false = true ↔ Alv P t) :
    (!(List.range N).any (rq al ((List.range N).map (rfT P fs gs)))) = thB fs gs := by
  have hr : ∀ t, t < N → ((List.range N).map (rfT P fs gs)).getD t false = rfT P fs gs t := fun t ht => by
    rw [List.getD_eq_getElem?_getD, List.getElem?_map, List.getElem?_range ht]; rfl
  rw [Bool.eq_iff_iff, thB_iff, hPE, Bool.not_eq_true', List.any_eq_false]
  constructor
  · intro h t ht hl
    have htN : t < N := hN ▸ ht.lt
    have h1 := h t (List.mem_range.2 htN)
    unfold rq at h1
    rw [(ha t).2 ht, hr t htN] at h1
    unfold rfT at h1
    have h2 : fs.all (vt P t) = true := List.all_eq_true.2 hl
    rw [h2] at h1
    have h3 : gs.any (vt P t) = true := by
      cases hg : gs.any (vt P t)
      · rw [hg] at h1; exact absurd rfl h1
      · rfl
    exact List.any_eq_true.1 h3
  · intro h t ht hq
    have htN := List.mem_range.1 ht
    unfold rq at hq
    rw [hr t htN, Bool.and_eq_true] at hq
    obtain ⟨h1, h2⟩ := hq
    unfold rfT at h2
    rw [Bool.and_eq_true, Bool.not_eq_true'] at h2
    obtain ⟨f, hf, hv⟩ := h t ((ha t).1 h1) (List.all_eq_true.1 h2.1)
    have := List.any_eq_false.1 h2.2 f hf
    exact this hv
set_option maxRecDepth 100000 in
theorem impl_isModalTheorem (fs gs : List Fm) (lv rv : Value) (w : World) (hl : Sl cS w lv (fs.map txt)) (hr : Sl cS w rv (gs.map txt)) (hg : gdF (fs ++ gs)) (hn : fs.length + gs.length ≤ 1000) (hP : (elF (fs ++ gs)).length ≤ 8) :
    Calls Tryz.prog 68 #[.string ⟨#[71, 76]⟩, .agg #[lv, rv]] w fun e w' => e = .returned (.bool (thB fs gs)) ∧ Below w.heap.size w w' := by
  obtain ⟨P, hPE⟩ : ∃ P, elF (fs ++ gs) = P := ⟨_, rfl⟩
  obtain ⟨N, hN⟩ : ∃ N, N = 2 ^ P.length := ⟨_, rfl⟩
  rw [hPE] at hP
  have HNT := Lib.hid (fun W (h1 : Sl cS W lv (fs.map txt)) (h2 : Sl cS W rv (gs.map txt)) => impl_newTypes fs gs P N hPE hN hP lv rv W h1 h2 hg hn)
  have HRf := Lib.hid (fun p al W (hT : TyR P N p al ((List.range N).map (rfT P fs gs)) W) => impl_refuting P N p al _ hP hN W hT)
  have HTh := Lib.hid (fun al (h : ∀ t, al.getD t false = true ↔ Alv P t) => thB_any hPE hN (al := al) h)
  obtain ⟨A0, c0, rfl⟩ := hl.opn
  obtain ⟨A1, c1, rfl⟩ := hr.opn
  have HL := Lib.hid hl
  have HR := Lib.hid hr
  clear hl hr hg hn hPE hN hP
  have LL : (fs.map txt).length = fs.length := List.length_map ..
  have LR : (gs.map txt).length = gs.length := List.length_map ..
  rw [LL] at HL HNT ⊢
  rw [LR] at HR HNT ⊢
  clear LL LR
  generalize thB fs gs = th at *
  go_enter Tryz.func68, Tryz.ntmps68
  go_upto_region 1 with fail
  have hb := below_alloc' w (.cells #[.slice A0 fs.length c0, .slice A1 gs.length c1] 41)
  have K1 := Lib.hid (Blk.new w 41 #[.slice A0 fs.length c0, .slice A1 gs.length c1])
  have HB := Lib.hid hb
  replace HL := Lib.hid (HL.out.below hb)
  replace HR := Lib.hid (HR.out.below hb)
  clear hb
  generalize World.alloc w _ = w1 at *
  have k0 := K1.out.cell 0
  have k1 := K1.out.cell 1
  have k2 := K1.out.lt
  go_wp2_with fail
  refine (HNT.out _ HL.out HR.out).mono ?_
  rintro e w2 ⟨p, ga, al, rfl, hT, hal, hb⟩
  have HB2 := Lib.hid (bthen HB.out hb)
  have HRT := Lib.hid (HRf.out p al _ hT.r)
  have HE := Lib.hid (HTh.out al hal)
  clear hb k0 k1 k2 hT hal
  generalize (List.range N).map (rfT P fs gs) = rf at *
  go_wp2_with fail
  refine HRT.out.mono ?_
  rintro e w3 ⟨r, rfl, hr, hb⟩
  rw [HE.out] at hr
  have HRR := Lib.hid hr
  have HB3 := Lib.hid (bthen HB2.out hb)
  clear hb hr
  go_wp2
  go_ret
  exact ⟨by rw [← HRR.out]; rfl, HB3.out⟩
/- Contracts of chapter 12, of the program: sequentOf. -/
theorem lit_str1 (W : World) (n : Nat) (x : ByteArray) : Sl cS ((W.drewN n).alloc (.cells #[.string x] 9)) (.slice (some ⟨W.heap.size, 0, none⟩) 1 1) [x] :=
  (Ow.lit (K := cS) (w := W.drewN n) (e := 9) (B := W.heap.size) [x] (cs := #[.string x]) (n := 1) rfl rfl (Nat.le_refl _)).sl
set_option maxRecDepth 100000 in
theorem impl_sequentOf (a b : Fm) (v u : Value) (w : World) (h : Sl cN w v (enc a)) (h' : Sl cN w u (enc b)) (hl : (enc a).length ≤ 1048576) (hl' : (enc b).length ≤ 1048576) (ha : a.ok = true) (hb : b.ok = true) :
    Calls Tryz.prog 65 #[v, u] w fun e w' => ∃ lv rv, e = .returned (.agg #[lv, rv]) ∧ Sl cS w' lv ([a].map txt) ∧ Sl cS w' rv ([b].map txt) ∧ Below w.heap.size w w' := by
  obtain ⟨A, c, rfl⟩ := h.opn
  obtain ⟨B, d, rfl⟩ := h'.opn
  have HTa := Lib.hid (fun W (hW : Sl cN W (.slice A (enc a).length c) (enc a)) => impl_text a _ W hW hl ha)
  have HTb := Lib.hid (fun W (hW : Sl cN W (.slice B (enc b).length d) (enc b)) => impl_text b _ W hW hl' hb)
  have HA := Lib.hid h
  have HB := Lib.hid h'
  clear h h' hl hl' ha hb
  generalize (enc a).length = na at *
  generalize (enc b).length = nb at *
  have hM1 : [a].map txt = [txt a] := rfl
  have hM2 : [b].map txt = [txt b] := rfl
  rw [hM1, hM2]
  clear hM1 hM2
  generalize txt a = ta at *
  generalize txt b = tb at *
  go_enter Tryz.func65, Tryz.ntmps65
  go_upto_region 1 with fail
  have hb := below_alloc' w (.cells #[.slice none 0 0, .slice none 0 0] 41)
  have K1 := Lib.hid (Blk.new w 41 #[.slice none 0 0, .slice none 0 0])
  have BB := Lib.hid hb
  replace HA := Lib.hid (HA.out.below hb)
  replace HB := Lib.hid (HB.out.below hb)
  clear hb
  generalize World.alloc w _ = w1 at *
  go_wp2_with fail
  refine (HTa.out _ HA.out).mono ?_
  rintro e w2 ⟨rfl, n, rfl⟩
  have hb2 := below_alloc' (World.drewN w1 n) (.cells #[.string ta] 9)
  have N1 := Lib.hid (lit_str1 w1 n ta)
  have B1 : Hid (Below w1.heap.size w1 (World.alloc (World.drewN w1 n) (.cells #[.string ta] 9))) := Lib.hid (bthen (below_drewN (Below.refl _ _) n) hb2)
  clear hb2
  go_wp2_with fail
  refine (HTb.out _ (HB.out.below B1.out)).mono ?_
  rintro e w3 ⟨rfl, m, rfl⟩
  have K2 := Lib.hid (K1.out.below B1.out K1.out.lt)
  generalize World.alloc (World.drewN w1 n) _ = w4 at *
  have hb3 := below_alloc' (World.drewN w4 m) (.cells #[.string tb] 9)
  have N3 := Lib.hid (lit_str1 w4 m tb)
  have hb34 := bthen (below_drewN (Below.refl _ _) m) hb3
  have N2 := Lib.hid (N1.out.below hb34)
  have K3 := Lib.hid (K2.out.below hb34 K2.out.lt)
  have BB3 := Lib.hid (bthen (bthen BB.out B1.out) hb34)
  clear hb3 hb34
  have k0 := K3.out.cell 0
  have k1 := K3.out.cell 1
  have k2 := K3.out.lt
  have kf0 := K3.out.frozen 0
  have kf1 := K3.out.frozen 1
  have hz1 := K1.out.lt
  have hz4 := B1.out.size
  obtain ⟨w6, hw6⟩ : ∃ W, W = World.alloc (World.drewN w4 m) (.cells #[.string tb] 9) := ⟨_, rfl⟩
  rw [← hw6] at k0 k1 k2 kf0 kf1 N2 N3 K3 BB3
  have C1 := (K3.out.set_ 0 (.slice (some ⟨w1.heap.size, 0, none⟩) 1 1)).set_ 1 (.slice (some ⟨w4.heap.size, 0, none⟩) 1 1)
  have q0 := C1.cell 0
  have q1 := C1.cell 1
  have hK : KpS (fun k => k = w.heap.size) w6 ((w6.setCell ⟨w.heap.size, 0, none⟩ (.slice (some ⟨w1.heap.size, 0, none⟩) 1 1)).setCell ⟨w.heap.size, 1, none⟩ (.slice (some ⟨w4.heap.size, 0, none⟩) 1 1)) :=
    ((KpS.refl (fun k => k = w.heap.size) w6).set (p := ⟨w.heap.size, 0, none⟩) rfl _).set (p := ⟨w.heap.size, 1, none⟩) rfl _
  have M2 := Lib.hid (N2.out.kps hK fun k e (h : k = w.heap.size) => by injection e with e; (have e : w1.heap.size = k ∨ w4.heap.size = k := by first | exact .inl e | exact .inr e); omega)
  have M3 := Lib.hid (N3.out.kps hK fun k e (h : k = w.heap.size) => by injection e with e; (have e : w1.heap.size = k ∨ w4.heap.size = k := by first | exact .inl e | exact .inr e); omega)
  have MB := Lib.hid ((BB3.out.setCell (p := ⟨w.heap.size, 0, none⟩) (Nat.le_refl _) (.slice (some ⟨w1.heap.size, 0, none⟩) 1 1)).setCell (p := ⟨w.heap.size, 1, none⟩) (Nat.le_refl _) (.slice (some ⟨w4.heap.size, 0, none⟩) 1 1))
  rw [hw6] at k0 k1 k2 kf0 kf1
  clear hK C1
  rw [hw6] at q0 q1 M2 M3 MB
  clear hw6 K3 BB3 N2 N3
  go_wp2
  refine bodyPost_ret (v := .agg #[.slice (some ⟨w1.heap.size, 0, none⟩) 1 1, .slice (some ⟨w4.heap.size, 0, none⟩) 1 1]) (by simp [results, Tryz.results65, go_sem, q0, q1]) rfl ⟨_, _, rfl, M2.out, M3.out, MB.out⟩
/- Contracts of chapter 12 and 33, of the program: IsFixedPoint. -/
theorem impl_IsFixedPoint_bad (v u : Value) (xs ys : List Nd) (s : Int) (w : World) (h : Sl cN w v xs) (h' : Sl cN w u ys) (hl : xs.length ≤ 1048576) (hl' : ys.length ≤ 1048576) (hc : (isF xs && isF ys) = false) :
    Calls Tryz.prog 10 #[v, .int .i64 s, u] w fun e w' => e = .returned (.tuple #[.bool false, .int .i64 1]) ∧ Below w.heap.size w w' := by
  obtain ⟨A, c, rfl⟩ := h.opn
  obtain ⟨B, d, rfl⟩ := h'.opn
  have hs := Sl2.two' h h' 26 w.heap.size rfl
  have H := Lib.hid (impl_areFormulas _ _ _ hs (by simp) (by intro l hl; simp at hl; rcases hl with rfl | rfl <;> assumption))
  have HC : Hid ([xs, ys].all isF = false) := Lib.hid (by simpa using hc)
  rw [HC.out] at H
  have HB := Lib.hid (below_alloc' w (.cells #[.slice A xs.length c, .slice B ys.length d] 26))
  clear h h' hs hc hl hl'
  go_enter Tryz.func10, Tryz.ntmps10
  go_wp2_with fail
  refine H.out.mono ?_
  rintro e w1 ⟨rfl, hb⟩
  have HB1 := Lib.hid (bthen HB.out hb)
  clear hb
  go_wp2
  go_ret2
  exact ⟨rfl, HB1.out⟩
theorem impl_IsFixedPoint_range (v u : Value) (xs ys : List Nd) (s : Int) (w : World) (h : Sl cN w v xs) (h' : Sl cN w u ys) (hl : xs.length ≤ 1048576) (hl' : ys.length ≤ 1048576) (hc : (isF xs && isF ys) = true) (hs5 : inR s 0 5 = false) :
    Calls Tryz.prog 10 #[v, .int .i64 s, u] w fun e w' => e = .returned (.tuple #[.bool false, .int .i64 2]) ∧ Below w.heap.size w w' := by
  obtain ⟨A, c, rfl⟩ := h.opn
  obtain ⟨B, d, rfl⟩ := h'.opn
  have hs := Sl2.two' h h' 26 w.heap.size rfl
  have H := Lib.hid (impl_areFormulas _ _ _ hs (by simp) (by intro l hl; simp at hl; rcases hl with rfl | rfl <;> assumption))
  have HC : Hid ([xs, ys].all isF = true) := Lib.hid (by simpa using hc)
  rw [HC.out] at H
  have HV := Lib.hid (fun W => hs5 ▸ impl_isVariable s W)
  have HB := Lib.hid (below_alloc' w (.cells #[.slice A xs.length c, .slice B ys.length d] 26))
  clear h h' hs hc hl hl' hs5
  go_enter Tryz.func10, Tryz.ntmps10
  go_wp2_with fail
  refine H.out.mono ?_
  rintro e w1 ⟨rfl, hb⟩
  have HB1 := Lib.hid (bthen HB.out hb)
  clear hb
  go_wp2_with fail
  refine (HV.out _).mono ?_
  rintro e w2 ⟨rfl, rfl⟩
  go_wp2
  go_ret2
  exact ⟨rfl, HB1.out⟩
noncomputable def ifc (m g : Fm) : Bool := decide (40 < (enc m).length) || decide (8 < (elF ([m] ++ [g])).length)
noncomputable def ifv (m g : Fm) (s : Nat) : Bool := !(vmask (enc g)).testBit s && (thB [g] [m] && thB [m] [g])
noncomputable def ifR (m g : Fm) (s : Nat) : Array Value := if ifc m g then #[.bool false, .int .i64 3] else #[.bool (ifv m g s), .int .i64 0]
set_option maxRecDepth 100000 in
set_option maxHeartbeats 800000 in
theorem impl_IsFixedPoint_good (f g : Fm) (v u : Value) (s : Nat) (w : World) (h : Sl cN w v (enc f)) (h' : Sl cN w u (enc g)) (hl : (enc f).length ≤ 40) (hl' : (enc g).length ≤ 40) (hf : f.ok = true) (hg : g.ok = true) (hs5 : s ≤ 5) :
    Calls Tryz.prog 10 #[v, .int .i64 s, u] w fun e w' => e = .returned (.tuple (ifR (f.sub s g) g s)) ∧ Below w.heap.size w w' := by
  obtain ⟨A, c, rfl⟩ := h.opn
  obtain ⟨B, d, rfl⟩ := h'.opn
  have hs := Sl2.two' h h' 26 w.heap.size rfl
  have H := Lib.hid (impl_areFormulas _ _ _ hs (by simp) (by intro l hl; simp at hl; rcases hl with rfl | rfl <;> omega))
  have HC : Hid ([enc f, enc g].all isF = true) := Lib.hid (by
    have h1 := (isF_iff (enc f)).2 ⟨f, hf, rfl, hl⟩
    have h2 := (isF_iff (enc g)).2 ⟨g, hg, rfl, hl'⟩
    simp [h1, h2])
  rw [HC.out] at H
  have hin : inR (s : Int) 0 5 = true := inR_true (by omega) (by omega)
  have HV := Lib.hid (fun W => hin ▸ impl_isVariable (s : Int) W)
  have HB := Lib.hid (below_alloc' w (.cells #[.slice A (enc f).length c, .slice B (enc g).length d] 26))
  have HRp := Lib.hid (fun W (h1 : Sl cN W (.slice A (enc f).length c) (enc f)) (h2 : Sl cN W (.slice B (enc g).length d) (enc g)) => (repL_enc f s g hs5 hf) ▸ impl_replaceVariable _ _ _ _ s W h1 h2 (enc_nodes f hf) (by omega) (by omega) hs5)
  have hmo : (f.sub s g).ok = true := sub_ok hf hg
  have HF := Lib.hid h
  have HG := Lib.hid h'
  clear h h' hs hin hf
  generalize f.sub s g = m at *
  obtain ⟨nm, hnm⟩ : ∃ z, (enc m).length = z := ⟨_, rfl⟩
  generalize hnf : (enc f).length = nf at *
  generalize hng : (enc g).length = ng at *
  have HNG := Lib.hid hng
  have HNM := Lib.hid hnm
  obtain ⟨ne, hne⟩ : ∃ z, (elF ([m] ++ [g])).length = z := ⟨_, rfl⟩
  have HIC : Hid (ifc m g = (decide (40 < nm) || decide (8 < ne))) := Lib.hid (by unfold ifc; rw [HNM.out, hne])
  have HRt : Hid (ifc m g = true → ifR m g s = #[.bool false, .int .i64 3]) := Lib.hid fun h => by unfold ifR; rw [if_pos h]
  have HRf : Hid (ifc m g = false → ifR m g s = #[.bool (ifv m g s), .int .i64 0]) := Lib.hid fun h => by unfold ifR; rw [if_neg (by rw [h]; decide)]
  have HIV : Hid (ifv m g s = (!(vmask (enc g)).testBit s && (thB [g] [m] && thB [m] [g]))) := Lib.hid rfl
  generalize ifR m g s = res at *
  generalize ifv m g s = rv at *
  generalize ifc m g = rc at *
  clear hnf hng
  go_enter Tryz.func10, Tryz.ntmps10
  go_wp2_with fail
  refine H.out.mono ?_
  rintro e w1 ⟨rfl, hb⟩
  have HB1 := Lib.hid (bthen HB.out hb)
  clear hb
  go_wp2_with fail
  refine (HV.out _).mono ?_
  rintro e w2 ⟨rfl, rfl⟩
  go_wp2_with fail
  refine (HRp.out _ (HF.out.below HB1.out) (HG.out.below HB1.out)).mono ?_
  rintro e w3 ⟨r, rfl, ho, hb⟩
  have HB3 := Lib.hid (bthen HB1.out hb)
  obtain ⟨Am, cm, rfl⟩ := ho.opn
  rw [hnm] at ho
  have HM := Lib.hid ho.sl
  clear ho hb
  rw [hnm]
  by_cases h40 : 40 < nm
  · have HR : Hid (rc = true) := Lib.hid (by rw [HIC.out, decide_eq_true h40]; rfl)
    have h40' : (40 : Int) < (nm : Int) := by omega
    clear h40
    go_wp2
    go_ret2
    exact ⟨by rw [HRt.out HR.out]; rfl, HB3.out⟩
  · have HG3 := Lib.hid (HG.out.below HB3.out)
    have hgd : gdF ([m] ++ [g]) := fun x hx => by
      rcases List.mem_cons.1 hx with rfl | hx
      · exact ⟨hmo, by omega⟩
      · rw [List.mem_singleton.1 hx]; exact ⟨hg, by rw [HNG.out]; exact hl'⟩
    have hgd2 : gdF ([g] ++ [m]) := fun x hx => hgd x (by simp at hx ⊢; rcases hx with h | h; exact .inr h; exact .inl h)
    have heq : elF ([g] ++ [m]) = elF ([m] ++ [g]) := elF_eq fun x => by simp [or_comm]
    have HS1 := Lib.hid (fun W (h1 : Sl cN W (.slice Am nm cm) (enc m)) (h2 : Sl cN W (.slice B ng d) (enc g)) => impl_sequentOf m g _ _ W h1 h2 (by have := HNM.out; omega) (by have := HNG.out; omega) hmo hg)
    have HS2 := Lib.hid (fun W (h1 : Sl cN W (.slice Am nm cm) (enc m)) (h2 : Sl cN W (.slice B ng d) (enc g)) => impl_sequentOf g m _ _ W h2 h1 (by have := HNG.out; omega) (by have := HNM.out; omega) hg hmo)
    have HEl := Lib.hid (fun lv rv W (h1 : Sl cS W lv ([m].map txt)) (h2 : Sl cS W rv ([g].map txt)) => impl_elementaryParts [m] [g] lv rv W h1 h2 hgd (by simp))
    have HT1 := Lib.hid (fun (h8 : ne ≤ 8) lv rv W (h1 : Sl cS W lv ([m].map txt)) (h2 : Sl cS W rv ([g].map txt)) => impl_isModalTheorem [m] [g] lv rv W h1 h2 hgd (by simp) (by omega))
    have HT2 := Lib.hid (fun (h8 : ne ≤ 8) lv rv W (h1 : Sl cS W lv ([g].map txt)) (h2 : Sl cS W rv ([m].map txt)) => impl_isModalTheorem [g] [m] lv rv W h1 h2 hgd2 (by simp) (by rw [heq]; omega))
    have hv64 := vmask_lt (enc g) (enc_nodes g hg)
    have HVm := Lib.hid (fun W (h2 : Sl cN W (.slice B ng d) (enc g)) => impl_variableMask (.slice B ng d) (enc g) W h2 (by have := HNG.out; omega) (enc_nodes g hg))
    have HHs := Lib.hid (fun W => impl_has (vmask (enc g)) s W (by omega) (by omega))
    have HNE := Lib.hid hne
    clear hgd hgd2 heq hne hv64 hg hmo hnm
    generalize vmask (enc g) = vm at *
    generalize thB [g] [m] = b1 at *
    generalize thB [m] [g] = b2 at *
    generalize vm.testBit s = tb at *
    have h40' : ¬ ((40 : Int) < (nm : Int)) := by omega
    go_wp2_with fail
    refine (HS1.out _ HM.out HG3.out).mono ?_
    rintro e w4 ⟨lv, rw4, rfl, hlv, hrv, hb⟩
    have HL4 := Lib.hid hlv
    have HR4 := Lib.hid hrv
    have BB4 := Lib.hid hb
    clear hlv hrv hb
    go_wp2_with fail
    refine (HEl.out _ _ _ HL4.out HR4.out).mono ?_
    rintro e w5 ⟨u5, rfl, ho, hb⟩
    obtain ⟨A5, c5, rfl⟩ := ho.opn
    rw [HNE.out]
    have BB5 := Lib.hid (bthen BB4.out hb)
    have HB5 := Lib.hid (bthen HB3.out BB5.out)
    clear ho hb
    by_cases h8 : 8 < ne
    · have h8' : (8 : Int) < (ne : Int) := by omega
      have HR : Hid (rc = true) := Lib.hid (by rw [HIC.out, decide_eq_true h8, Bool.or_true])
      clear h8
      go_wp2
      go_ret2
      exact ⟨by rw [HRt.out HR.out]; rfl, HB5.out⟩
    · have h8' : ¬ ((8 : Int) < (ne : Int)) := by omega
      have HR : Hid (rc = false) := Lib.hid (by rw [HIC.out, decide_eq_false h8, decide_eq_false h40]; rfl)
      have T1 := Lib.hid (HT1.out (by omega))
      have T2 := Lib.hid (HT2.out (by omega))
      have HG5 := Lib.hid (HG3.out.below BB5.out)
      have HM5 := Lib.hid (HM.out.below BB5.out)
      clear h8 HT1 HT2
      go_wp2_with fail
      refine (HVm.out _ HG5.out).mono ?_
      rintro e w6 ⟨rfl, hb⟩
      have HG6 := Lib.hid (HG5.out.below hb)
      have HM6 := Lib.hid (HM5.out.below hb)
      have HB6 := Lib.hid (bthen HB5.out hb)
      clear hb
      go_wp2_with fail
      refine (HHs.out _).mono ?_
      rintro e w7 ⟨rfl, rfl⟩
      cases tb
      · go_wp2_with fail
        refine (HS2.out _ HM6.out HG6.out).mono ?_
        rintro e w8 ⟨lv8, rv8, rfl, hlv, hrv, hb⟩
        have HL8 := Lib.hid hlv
        have HR8 := Lib.hid hrv
        have HG8 := Lib.hid (HG6.out.below hb)
        have HM8 := Lib.hid (HM6.out.below hb)
        have HB8 := Lib.hid (bthen HB6.out hb)
        clear hlv hrv hb
        go_wp2_with fail
        refine (T2.out _ _ _ HL8.out HR8.out).mono ?_
        rintro e w9 ⟨rfl, hb⟩
        have HG9 := Lib.hid (HG8.out.below hb)
        have HM9 := Lib.hid (HM8.out.below hb)
        have HB9 := Lib.hid (bthen HB8.out hb)
        clear hb
        cases b1
        · go_wp2
          go_ret2
          exact ⟨by rw [HRf.out HR.out, HIV.out]; rfl, HB9.out⟩
        · go_wp2_with fail
          refine (HS1.out _ HM9.out HG9.out).mono ?_
          rintro e w10 ⟨lv10, rv10, rfl, hlv, hrv, hb⟩
          have HL10 := Lib.hid hlv
          have HR10 := Lib.hid hrv
          have HB10 := Lib.hid (bthen HB9.out hb)
          clear hlv hrv hb
          go_wp2_with fail
          refine (T1.out _ _ _ HL10.out HR10.out).mono ?_
          rintro e w11 ⟨rfl, hb⟩
          have HB11 := Lib.hid (bthen HB10.out hb)
          clear hb
          go_wp2
          go_ret2
          exact ⟨by rw [HRf.out HR.out, HIV.out]; rfl, HB11.out⟩
      · go_wp2
        go_ret2
        exact ⟨by rw [HRf.out HR.out, HIV.out]; rfl, HB6.out⟩
theorem thB_of {fs gs : List Fm} (hok : ∀ f ∈ fs ++ gs, f.ok = true) (h : ∀ (W : Type) (Q : W → W → Prop), GLM Q → ∀ V x, (∀ f ∈ fs, sat Q V f x) → ∃ f ∈ gs, sat Q V f x) : thB fs gs = true :=
  thB_iff.2 (ThmT.of (elF_cl hok) (fun f hf => elF_self hok (List.mem_append_left _ hf)) (fun f hf => elF_self hok (List.mem_append_right _ hf)) h)
theorem thB_valid {fs gs : List Fm} (hok : ∀ f ∈ fs ++ gs, f.ok = true) (h : thB fs gs = true) {W : Type} {Q : W → W → Prop} (hQ : GLM Q) (V : Nat → W → Prop) (x : W) (hl : ∀ f ∈ fs, sat Q V f x) : ∃ f ∈ gs, sat Q V f x :=
  (thB_iff.1 h).valid (elF_cl hok) (fun f hf => elF_self hok (List.mem_append_left _ hf)) (fun f hf => elF_self hok (List.mem_append_right _ hf)) hQ V x hl
end Go.Proofs.YtgcoohlakcncbaaGreat
