/- Contracts of the rooted parts, of the reference: l34Parts. -/
import Derived.Test.YtkdldfomdbgcaaaGreat34W
namespace Go.Proofs.YtkdldfomdbgcaaaGreat
open Go.RowKit
set_option linter.unusedVariables false
set_option linter.unusedSimpArgs false
theorem insF_pos (q : List Nat) : ∀ (L : List (List Nat)) (k : Nat), k ≤ L.length → (∀ i, i < k → cmf (L.getD i []) q < 0) →
    (k = L.length → insF q L = L.take k ++ [q] ++ L.drop k) ∧ (k < L.length → ¬ cmf (L.getD k []) q < 0 → insF q L = if cmf q (L.getD k []) < 0 then L.take k ++ [q] ++ L.drop k else L)
  | [], k, hk, _ => by
    have : k = 0 := by simpa using hk
    subst this
    exact ⟨fun _ => by simp [insF], fun h => by simp at h⟩
  | x :: r, 0, _, _ => by
    refine ⟨fun h => by simp at h, fun _ h => ?_⟩
    have h : ¬ cmf x q < 0 := h
    rw [insF, if_neg h]
    show (if cmf q x < 0 then _ else _) = if cmf q x < 0 then _ else _
    split <;> simp
  | x :: r, k + 1, hk, h => by
    have h0 : cmf x q < 0 := h 0 (by omega)
    have ih := insF_pos q r k (by simpa using hk) fun i hi => by simpa using h (i + 1) (by omega)
    rw [insF, if_pos h0]
    refine ⟨fun e => ?_, fun hlt hn => ?_⟩
    · rw [ih.1 (by simpa using e)]; simp
    · have hlt' : k < r.length := by simpa using hlt
      have hn' : ¬ cmf (r.getD k []) q < 0 := by simpa using hn
      rw [ih.2 hlt' hn']
      show _ = if cmf q (r.getD k []) < 0 then _ else _
      split <;> simp
def pse (ns : List Nat) (x : Nat) : List (List Nat) := insAll (pts ns x)
theorem pse_zero (ns : List Nat) : pse ns 0 = [] := rfl
theorem pse_succ (ns : List Nat) (x : Nat) : pse ns (x + 1) = insF (lst (ptr ns (ns.getD x 0))) (pse ns x) := by
  unfold pse insAll
  rw [pts_succ, List.foldl_append]
  rfl
theorem pse_all (ns : List Nat) : pse ns ns.length = rpt ns := rfl
theorem insF_len (q : List Nat) : ∀ L : List (List Nat), (insF q L).length ≤ L.length + 1
  | [] => by simp [insF]
  | x :: r => by
    rw [insF]
    have := insF_len q r
    split
    · simp; omega
    · split <;> simp
theorem pse_len (ns : List Nat) : ∀ x, (pse ns x).length ≤ x
  | 0 => by rw [pse_zero]; exact Nat.le_refl _
  | x + 1 => by
    rw [pse_succ]
    have := insF_len (lst (ptr ns (ns.getD x 0))) (pse ns x)
    have := pse_len ns x
    omega
theorem pse_in {ns : List Nat} (hr : RelN ns) {x : Nat} {l : List Nat} (h : l ∈ pse ns x) : l.length ≤ 8 := by
  have h2 := (insAll_mem _ _).1 h
  unfold pts at h2
  obtain ⟨i, _, rfl⟩ := List.mem_map.1 h2
  rw [lst_length]
  exact (ptr_rel ns _ hr (getD_lt hr.2 i)).1
/-- a header that reads a frame of the call's own -/
def RowP (B : Nat) (w : World) (p : (Int × Hd) × List Nat) : Prop := p.1.1 = (p.2.length : Int) ∧ Ow cI 2 B w p.1.2.val (li p.2)
def aprP (p q : (Int × Hd) × List Nat) : Prop := ∀ k, p.1.2.val.ownBlock = some k → q.1.2.val.ownBlock ≠ some k
theorem aprP.symm {p q : (Int × Hd) × List Nat} (h : aprP p q) : aprP q p := fun k hk e => h k e hk
/-- a list of headers that read frames -/
def LsP (B : Nat) (w : World) (v : Value) (L : List (List Nat)) : Prop := ∃ ps : List ((Int × Hd) × List Nat), Ow cF 29 B w v (ps.map (·.1)) ∧ ps.map (·.2) = L ∧ (∀ p ∈ ps, RowP B w p ∧ ∀ k, p.1.2.val.ownBlock = some k → v.ownBlock ≠ some k) ∧ ps.Pairwise aprP
theorem RowP.below {B : Nat} {w w' : World} {p : (Int × Hd) × List Nat} (h : RowP B w p) (hb : Below w.heap.size w w') : RowP B w' p := ⟨h.1, h.2.below hb⟩
theorem LsP.below {B : Nat} {w w' : World} {v : Value} {L : List (List Nat)} (h : LsP B w v L) (hb : Below w.heap.size w w') : LsP B w' v L := by
  obtain ⟨ps, h1, h2, h3, h4⟩ := h
  exact ⟨ps, h1.below hb, h2, fun p hp => ⟨(h3 p hp).1.below hb, (h3 p hp).2⟩, h4⟩
theorem LsP.mono {B B' : Nat} {w : World} {v : Value} {L : List (List Nat)} (h : LsP B w v L) (hB : B' ≤ B) : LsP B' w v L := by
  obtain ⟨ps, h1, h2, h3, h4⟩ := h
  exact ⟨ps, h1.mono hB, h2, fun p hp => ⟨⟨(h3 p hp).1.1, (h3 p hp).1.2.mono hB⟩, (h3 p hp).2⟩, h4⟩
theorem LsP.obp {B : Nat} {w : World} {v : Value} {L : List (List Nat)} (h : LsP B w v L) : ObP B w.heap.size w v (fro L) := by
  obtain ⟨ps, h1, rfl, h3, h4⟩ := h
  refine ⟨_, ⟨h1, fun k hk => (h1.block k hk).2⟩, by simp [fro], fun i p q => ?_⟩
  have hi : i < ps.length := by simpa using p
  have := h3 ps[i] (List.getElem_mem hi)
  simp only [fro, List.getElem_map]
  refine ⟨this.1.1, ⟨this.1.2, fun k hk => (this.1.2.block k hk).2⟩, fun k hk => ⟨this.2 k hk, fun j r hj => ?_⟩⟩
  have hj' : j < ps.length := by simpa using r
  rw [List.pairwise_iff_getElem] at h4
  rcases Nat.lt_trichotomy i j with h | h | h
  · exact h4 i j hi hj' h k hk
  · exact absurd h.symm hj
  · exact (h4 j i hj' hi h).symm k hk
theorem LsP.slp {B : Nat} {w : World} {v : Value} {L : List (List Nat)} (h : LsP B w v L) : SlP w v (fro L) := h.obp.sl
theorem LsP.at_ {B : Nat} {w : World} {A : Option Addr} {n c : Nat} {L : List (List Nat)} (h : LsP B w (.slice A n c) L) {k : Nat} (hk : k < L.length) :
    ∃ b o Ai ci, A = some ⟨b, o, none⟩ ∧ b < w.heap.size ∧ w.cell? ⟨b, o + k * 2, none⟩ = some (.int .i64 ((L.getD k []).length : Int)) ∧ w.cell? ⟨b, o + k * 2 + 1, none⟩ = some (.slice Ai (L.getD k []).length ci) ∧ Sl cI w (.slice Ai (L.getD k []).length ci) (li (L.getD k [])) := by
  have hs := h.slp
  obtain ⟨b, o, Ai, ci, e, hb, h1, h2, h3⟩ := hs.at_ (k := k) (by rw [fro_length]; exact hk)
  have e2 : (fro L)[k]'(by rw [fro_length]; exact hk) = (((L.getD k []).length : Int), li (L.getD k [])) := by
    simp [fro, List.getD_eq_getElem?_getD, hk]
  rw [e2] at h1 h2 h3
  rw [li_length] at h2 h3
  exact ⟨b, o, Ai, ci, e, hb, h1, h2, h3⟩
set_option maxRecDepth 100000 in
set_option maxHeartbeats 2000000 in
theorem spec_l34Parts (ns : List Nat) (v : Value) (w : World) (h : Sl cI w v (li ns)) (hr : RelN ns) (h6 : ns.length ≤ 6) :
    Calls Tryz.prog 25 #[.agg #[.int .i64 (ns.length : Int), v]] w fun e w' => ∃ u, e = .returned u ∧ LsP w.heap.size w' u (rpt ns) ∧ Below w.heap.size w w' := by
  obtain ⟨A0, c0, rfl⟩ := h.opn
  have EL := Lib.hid (li_length ns)
  rw [EL.out] at h ⊢
  have HX := Lib.hid h
  have HPl : Hid (∀ x, (ptr ns (ns.getD x 0)).length ≤ 6) := Lib.hid fun x => by rw [ptr_length]; exact Nat.le_trans (mems_le (getD_lt hr.2 x)) h6
  have HCn := Lib.hid (fun x (hx : x < ns.length) W (hW : Sl cI W (.slice A0 ns.length c0) (li ns)) => spec_l34Cone ns x _ W hW hr hx)
  have HLs := Lib.hid (fun x u W (hW : Sl cI W u (li (ptr ns (ns.getD x 0)))) => spec_l05Least (ptr ns (ns.getD x 0)) u W hW (ptr_rel ns _ hr (getD_lt hr.2 x)) (HPl.out x))
  have HMk := Lib.hid (fun x u W (hW : Sl cI W u (li (lst (ptr ns (ns.getD x 0))))) => spec_l16Make u _ W hW (by rw [li_length, lst_length]; have := HPl.out x; omega))
  have HLL := Lib.hid (fun x => show (li (lst (ptr ns (ns.getD x 0)))).length = (ptr ns (ns.getD x 0)).length by rw [li_length, lst_length])
  have HQL := Lib.hid (fun x => show (lst (ptr ns (ns.getD x 0))).length = (ptr ns (ns.getD x 0)).length from lst_length _)
  have HS := Lib.hid (pse_succ ns)
  have HPL := Lib.hid (pse_len ns)
  have HPI := Lib.hid (fun x l (hl : l ∈ pse ns x) => pse_in hr hl)
  clear h hr
  go_enter Tryz.func25, Tryz.ntmps25
  go_upto_region 1 with fail
  have hb := below_alloc' w (.cells #[.int .i64 (ns.length : Int), .slice A0 ns.length c0] 29)
  have K1 := Lib.hid (Blk.new w 29 #[.int .i64 (ns.length : Int), .slice A0 ns.length c0])
  replace HX := Lib.hid (HX.out.below hb)
  have HB := Lib.hid hb
  clear hb
  generalize World.alloc w _ = w1 at *
  go_wp2
  go_loopw [3, 4] (fun ov k wr => ∃ x : Nat, x ≤ ns.length ∧ k = .int .i64 x ∧ (∃ b o c, ov = .slice (some ⟨b, o, none⟩) (pse ns x).length c) ∧ LsP w1.heap.size wr ov (pse ns x) ∧ Below w1.heap.size w1 wr) (fun _ k _ => ns.length - (intOf k).toNat)
  case atStart => exact ⟨0, Nat.zero_le _, rfl, ⟨_, _, _, rfl⟩, ⟨[], Ow.lit (K := cF) (e := 29) (B := w1.heap.size) [] rfl rfl (Nat.le_refl _), rfl, fun p hp => by simp at hp, List.Pairwise.nil⟩, below_alloc' _ _⟩
  case round =>
    obtain ⟨x, hx, rfl, ⟨b, o, c, rfl⟩, hO, hb⟩ := hrel
    obtain ⟨w2, hw2⟩ : ∃ W, W = wr := ⟨_, rfl⟩
    subst hw2
    have O := Lib.hid hO
    have HB2 := Lib.hid hb
    have K2 := Lib.hid (K1.out.below hb K1.out.lt)
    have HX2 := Lib.hid (HX.out.below hb)
    have a0 := K2.out.cell 0
    have a1 := K2.out.cell 1
    have a2 := K2.out.lt
    by_cases hlt : x < ns.length
    · have HCx := Lib.hid (HCn.out x hlt)
      have HLx := Lib.hid (HLs.out x)
      have HMx := Lib.hid (HMk.out x)
      have HEx := Lib.hid (HLL.out x)
      have HQx := Lib.hid (HQL.out x)
      have HSx := Lib.hid (HS.out x)
      have hL6 := HPL.out x
      have HLI := Lib.hid (HPI.out x)
      have hP6 := HPl.out x
      have i1 : (x : Int) < (ns.length : Int) := by omega
      clear hO hb
      generalize lst (ptr ns (ns.getD x 0)) = q at *
      generalize ptr ns (ns.getD x 0) = P at *
      generalize pse ns x = L at *
      obtain ⟨LL, hLE⟩ : ∃ z, L.length = z := ⟨_, rfl⟩
      rw [hLE] at hL6 ⊢
      rw [hLE] at O
      have HLE := Lib.hid hLE
      obtain ⟨ps, q1, q2, q3, q4⟩ := O.out
      have hpl : ps.length = LL := by rw [← hLE, ← q2, List.length_map]
      have hcc : LL ≤ c ∧ c ≤ 9223372036854775807 := by
        have q4 := q1.sl.cap
        rw [List.length_map] at q4
        omega
      have Q1 := Lib.hid q1
      have Q2 := Lib.hid q2
      have Q3 := Lib.hid q3
      have Q4 := Lib.hid q4
      have HPZ := Lib.hid hpl
      clear q1 q2 q3 q4 hpl
      obtain ⟨hcc, hcm⟩ := hcc
      clear hLE
      obtain ⟨m, hm⟩ : ∃ m, P.length = m := ⟨_, rfl⟩
      rw [hm] at HCx HLx HEx HQx hP6
      clear hm
      go_wp2_with fail
      refine (HCx.out _ HX2.out).mono ?_
      rintro e w3 ⟨A3, c3, rfl, ho3, hb3⟩
      have O3 := Lib.hid ho3
      have B3 := Lib.hid hb3
      clear a0 a1 a2 ho3 hb3
      have hfd := run_fldP1 (.int .i64 (m : Int)) (.slice A3 m c3)
      go_wp2_with fail
      refine (HLx.out _ _ O3.out.sl).mono ?_
      rintro e w4 ⟨A4, c4, rfl, ho4, hb4⟩
      have O4 := Lib.hid ho4
      have B4 := Lib.hid (bthen B3.out hb4)
      clear ho4 hb4 O3
      go_wp2_with fail
      refine (HMx.out _ _ O4.out.sl).mono ?_
      rintro e w5 ⟨A5, c5, rfl, ho5, hb5⟩
      rw [HEx.out] at ho5 ⊢
      have O5 := Lib.hid (ho5.mono B4.out.size)
      have B5 := Lib.hid (bthen B4.out hb5)
      clear ho5 hb5 O4
      go_upto_region 6 with fail
      have K6 := Lib.hid (Blk.new w5 29 #[.int .i64 (m : Int), .slice A5 m c5])
      have hb6 := below_alloc' w5 (.cells #[.int .i64 (m : Int), .slice A5 m c5] 29)
      have O6 := Lib.hid (O5.out.below hb6)
      have L6 := Lib.hid (O.out.below (bthen B5.out hb6))
      have B6 := Lib.hid (HB2.out.trans ((bthen B5.out hb6).mono HB2.out.size))
      have B26 := Lib.hid (bthen B5.out hb6)
      have HZ2 := Lib.hid HB2.out.size
      clear hb6 O5 O HB2 B5 B3 B4
      generalize World.alloc w5 _ = w6 at *
      have HCA : Hid (∀ W Ai ci l, l.length ≤ 8 → Sl cI W (.slice Ai l.length ci) (li l) → Sl cI W (.slice A5 m c5) (li q) → Calls Tryz.prog 46 #[.agg #[.int .i64 (l.length : Int), .slice Ai l.length ci], .agg #[.int .i64 (m : Int), .slice A5 m c5]] W fun e w' => e = .returned (.bool (decide (cmf l q < 0))) ∧ Below W.heap.size W w') := Lib.hid fun W Ai ci l hl h1 h2 => by
        have := spec_l21Before l q _ _ W h1 h2 (by omega) (by rw [HQx.out]; omega)
        rwa [HQx.out] at this
      have HCB : Hid (∀ W Ai ci l, l.length ≤ 8 → Sl cI W (.slice Ai l.length ci) (li l) → Sl cI W (.slice A5 m c5) (li q) → Calls Tryz.prog 46 #[.agg #[.int .i64 (m : Int), .slice A5 m c5], .agg #[.int .i64 (l.length : Int), .slice Ai l.length ci]] W fun e w' => e = .returned (.bool (decide (cmf q l < 0))) ∧ Below W.heap.size W w') := Lib.hid fun W Ai ci l hl h1 h2 => by
        have := spec_l21Before q l _ _ W h2 h1 (by rw [HQx.out]; omega) (by omega)
        rwa [HQx.out] at this
      have HIN := Lib.hid (insF_pos q L)
      rw [HLE.out] at HIN
      have HL8 : Hid (∀ k, k < LL → (L.getD k []).length ≤ 8) := Lib.hid fun k hk => HLI.out _ (by
        rw [List.getD_eq_getElem?_getD, List.getElem?_eq_getElem (by rw [HLE.out]; exact hk)]; exact List.getElem_mem _)
      clear HLI HLs HMk HLL HQL HS HPL HPI HCn HPl HCx HLx HMx HEx HX2 K2
      go_wp2
      go_loopw [6] (fun i wr => ∃ k : Nat, k ≤ LL ∧ i = .int .i64 k ∧ (∀ i, i < k → cmf (L.getD i []) q < 0) ∧ Below w6.heap.size w6 wr) (fun i _ => LL - (intOf i).toNat)
      case atStart => exact ⟨0, Nat.zero_le _, rfl, fun i hi => absurd hi (by omega), Below.refl _ _⟩
      case round =>
        obtain ⟨k, hk, rfl, hlt9, hb⟩ := hrel
        obtain ⟨w7, hw7⟩ : ∃ W, W = wr := ⟨_, rfl⟩
        subst hw7
        have HL9 := Lib.hid hlt9
        have B7 := Lib.hid hb
        have K7 := Lib.hid (K6.out.below hb K6.out.lt)
        have O7 := Lib.hid (O6.out.below hb)
        have L7 := Lib.hid (L6.out.below hb)
        have k0 := K7.out.cell 0
        have k1 := K7.out.cell 1
        have k2 := K7.out.lt
        clear hlt9 hb
        by_cases hkl : k < LL
        · have i2 : (k : Int) < (LL : Int) := by omega
          have hck : ¬ c = k := by omega
          have hck2 : ¬ k = c := by omega
          obtain ⟨b', o', Ai, ci, e, hbb, d0, d1, d2⟩ := L7.out.at_ (k := k) (by rw [HLE.out]; exact hkl)
          injection e with e
          injection e with e1 e2
          subst e1
          subst e2
          have D2 := Lib.hid d2
          have hl8 := HL8.out k hkl
          have HNk := Lib.hid ((HIN.out k (by omega) HL9.out).2 hkl)
          have HCAk := Lib.hid (fun W => HCA.out W Ai ci (L.getD k []) hl8)
          have HCBk := Lib.hid (fun W => HCB.out W Ai ci (L.getD k []) hl8)
          have HNX : Hid (cmf (L.getD k []) q < 0 → ∀ i, i < k + 1 → cmf (L.getD i []) q < 0) := Lib.hid fun h i hi => by
            by_cases e : i = k
            · subst e; exact h
            · exact HL9.out i (by omega)
          clear d2
          generalize L.getD k [] = lk at *
          generalize lk.length = mk at *
          go_wp2
          go_still_tail 10, (by kernel_rfl)
          repeat still_step
          change wpList _ _ _ _ _ (World.drew _)
          go_wp2_with fail
          refine (HCAk.out _ (D2.out.drewN 1) (O7.out.sl.drewN 1)).mono ?_
          rintro e w8 ⟨rfl, hb8⟩
          have hb5 : Below w7.heap.size w7 w8 := bthen (below_drewN (Below.refl _ _) 1) hb8
          have B8 := Lib.hid (B7.out.trans (hb5.mono B7.out.size))
          by_cases hc : cmf lk q < 0
          · have HC := Lib.hid hc
            rw [decide_eq_true hc]
            clear hc hb8 hb5 k0 k1 k2 d0 d1
            go_wp2
            go_roundw
            case rel => exact ⟨k + 1, by omega, by go_num, HNX.out HC.out, B8.out⟩
            case measure => simp [intOf]; omega
          · have HNk2 := Lib.hid (HNk.out (by omega))
            rw [decide_eq_false hc]
            have K8 := Lib.hid (K7.out.below hb5 K7.out.lt)
            have O8 := Lib.hid (O7.out.below hb5)
            have L8 := Lib.hid (L7.out.below hb5)
            have D8 := Lib.hid (D2.out.below hb5)
            have e0 := (hb5.cell (p := ⟨b, o + k * 2, none⟩) hbb).trans d0
            have e1 := (hb5.cell (p := ⟨b, o + k * 2 + 1, none⟩) hbb).trans d1
            have hbb8 := Nat.lt_of_lt_of_le hbb hb5.size
            clear hc hb8 hb5 k0 k1 k2 d0 d1 hbb HNk K7 O7 L7 D2 B7
            have k0 := K8.out.cell 0
            have k1 := K8.out.cell 1
            have k2 := K8.out.lt
            go_wp2
            go_still_tail 10, (by kernel_rfl)
            repeat still_step
            change wpList _ _ _ _ _ (World.drew _)
            go_wp2_with fail
            refine (HCBk.out _ (D8.out.drewN 1) (O8.out.sl.drewN 1)).mono ?_
            rintro e w9 ⟨rfl, hb8⟩
            have hb5 : Below w8.heap.size w8 w9 := bthen (below_drewN (Below.refl _ _) 1) hb8
            have B9 := Lib.hid (B8.out.trans (hb5.mono B8.out.size))
            have K9 := Lib.hid (K8.out.below hb5 K8.out.lt)
            have O9 := Lib.hid (O8.out.below hb5)
            have L9 := Lib.hid (L8.out.below hb5)
            clear hb8 hb5 k0 k1 k2 e0 e1 hbb8 K8 O8 L8 D8 B8
            have k0 := K9.out.cell 0
            have k1 := K9.out.cell 1
            have k2 := K9.out.lt
            by_cases hc : cmf q lk < 0
            · rw [if_pos hc] at HNk2
              rw [decide_eq_true hc]
              clear hc
              go_wp2_with (at_builtin; refine stopHere ?_)
              refine goHere ?_
              have B29 := Lib.hid (bthen B26.out B9.out)
              have q1 := Q1.out.sl.below B29.out
              have hpl := HPZ.out
              refine ap_sl (K := cF) _ ty_poset rfl _ _ rfl rfl rfl (B := w9.heap.size) (xs := []) (news := (ps.map (·.1)).take k) (Ow.lit [] rfl rfl (Nat.le_refl _)) ((q1.cut0 (j := k) (c' := c) (by rw [List.length_map]; omega) (by omega) hcm).alloc _) (by simp only [List.length_nil, List.length_take, List.length_map]; omega) (by simp) ?_
              intro v1 w10 ho hg hb1 hat
              have hb2 : Below w9.heap.size w9 w10 := ((Below.refl _ _).alloc (Nat.le_refl _) _).trans hb1
              rw [List.nil_append] at ho
              have elen : ((ps.map (·.1)).take k).length = k := by rw [List.length_take, List.length_map]; omega
              obtain ⟨A1, c1, rfl⟩ := ho.opn
              rw [elen] at ho ⊢
              have OO := Lib.hid ho
              have BB := Lib.hid hb2
              have EL9 := Lib.hid elen
              have K10 := Lib.hid (K9.out.below hb2 K9.out.lt)
              clear ho hg hb1 hat hb2 elen q1 hpl k0 k1 k2
              have k0 := K10.out.cell 0
              have k1 := K10.out.cell 1
              have k2 := K10.out.lt
              go_wp2_with (at_builtin; refine stopHere ?_)
              refine goHere ?_
              refine ap_one (K := cF) w10 ty_poset rfl _ _ rfl (B := w9.heap.size) (v := .slice A1 k c1) (xs := (ps.map (·.1)).take k) rfl OO.out ((m : Int), ⟨A5, m, c5⟩) rfl rfl (by have := EL9.out; omega) BB.out.size ?_
              intro v2 w11 ho hg hb1 hat
              have hb2 : Below w9.heap.size w9 w11 := BB.out.trans hb1
              have elen : ((ps.map (·.1)).take k ++ [((m : Int), (⟨A5, m, c5⟩ : Hd))]).length = k + 1 := by rw [List.length_append, EL9.out]; rfl
              obtain ⟨A2, c2, rfl⟩ := ho.opn
              rw [elen] at ho ⊢
              replace OO := Lib.hid ho
              replace BB := Lib.hid hb2
              have EL8 := Lib.hid elen
              clear ho hg hb1 hat hb2 elen k0 k1 k2
              go_wp2_with (at_builtin; refine stopHere ?_)
              refine goHere ?_
              have hr : Sl cF w11 (.slice (some ⟨b, o + k * 2, none⟩) (LL - k) (c - k)) (((ps.map (·.1)).drop k).take (LL - k)) := ((Q1.out.sl.below B29.out).below BB.out).cutAt (i := k) (j := LL) (c' := c - k) (by omega) (by rw [List.length_map, HPZ.out]; exact Nat.le_refl _) rfl (fun b1 o1 e => by injection e with e; injection e with e1 e2; subst e1; subst e2; rfl) (by omega) (by omega)
              rw [show ((ps.map (·.1)).drop k).take (LL - k) = (ps.map (·.1)).drop k from List.take_of_length_le (by rw [List.length_drop, List.length_map, HPZ.out]; exact Nat.le_refl _)] at hr
              refine ap_sl (K := cF) w11 ty_poset rfl _ _ rfl rfl rfl (B := w9.heap.size) (v := .slice A2 (k + 1) c2) (xs := (ps.map (·.1)).take k ++ [((m : Int), (⟨A5, m, c5⟩ : Hd))]) (news := (ps.map (·.1)).drop k) OO.out (by exact hr) (by have := EL8.out; have := HPZ.out; rw [List.length_drop, List.length_map]; omega) BB.out.size ?_
              intro v3 w12 ho hg hb1 hat
              have hb2 : Below w9.heap.size w9 w12 := BB.out.trans hb1
              obtain ⟨g3, c3, hv3, -, -, -⟩ := ho.form (by rw [List.length_append, EL8.out]; omega)
              have B2c := bthen B29.out hb2
              have hrw : ∀ p ∈ ps, RowP w1.heap.size w12 p ∧ ∀ k, p.1.2.val.ownBlock = some k → k < w2.heap.size := fun p hp => ⟨(Q3.out p hp).1.below B2c, fun k hk => ((Q3.out p hp).1.2.block k hk).2⟩
              have hnw : RowP w1.heap.size w12 (((m : Int), (⟨A5, m, c5⟩ : Hd)), q) := ⟨by rw [HQx.out], (O9.out.below hb2).mono HZ2.out⟩
              have hnb : ∀ k, (Value.slice A5 m c5).ownBlock = some k → w2.heap.size ≤ k ∧ k < w9.heap.size := O9.out.block
              have hz29 := B29.out.size
              have hps : LsP w1.heap.size w12 v3 (pse ns (x + 1)) := ⟨ps.take k ++ [(((m : Int), (⟨A5, m, c5⟩ : Hd)), q)] ++ ps.drop k, by rw [List.map_append, List.map_append, List.map_take, List.map_drop]; exact ho.mono (Nat.le_trans HZ2.out hz29), by rw [HSx.out, HNk2.out, ← Q2.out, List.map_append, List.map_append, List.map_take, List.map_drop]; rfl, fun p hp => by
                  rcases List.mem_append.1 hp with hp | hp
                  · rcases List.mem_append.1 hp with hp | hp
                    · refine ⟨(hrw p (List.mem_of_mem_take hp)).1, fun k hk e => ?_⟩
                      have := (hrw p (List.mem_of_mem_take hp)).2 k hk
                      have := (ho.block k e).1
                      omega
                    · have e := List.mem_singleton.1 hp
                      subst e
                      refine ⟨hnw, fun k hk e => ?_⟩
                      have := (hnb k hk).2
                      have := (ho.block k e).1
                      omega
                  · refine ⟨(hrw p (List.mem_of_mem_drop hp)).1, fun k hk e => ?_⟩
                    have := (hrw p (List.mem_of_mem_drop hp)).2 k hk
                    have := (ho.block k e).1
                    omega, by
                  have hp1 := (List.pairwise_append.1 (show (ps.take k ++ ps.drop k).Pairwise aprP by rw [List.take_append_drop]; exact Q4.out))
                  have hax : ∀ p ∈ ps, aprP p (((m : Int), (⟨A5, m, c5⟩ : Hd)), q) := fun p hp k hk e => by
                    have := (hrw p hp).2 k hk
                    have := (hnb k e).1
                    omega
                  refine List.pairwise_append.2 ⟨List.pairwise_append.2 ⟨hp1.1, by simp, fun a ha b hb => ?_⟩, hp1.2.1, fun a ha b hb => ?_⟩
                  · have e := List.mem_singleton.1 hb
                    subst e
                    exact hax a (List.mem_of_mem_take ha)
                  · rcases List.mem_append.1 ha with ha | ha
                    · exact hp1.2.2 a ha b hb
                    · have e := List.mem_singleton.1 ha
                      subst e
                      exact (hax b (List.mem_of_mem_drop hb)).symm⟩
              have hln : ((ps.map (·.1)).take k ++ [((m : Int), (⟨A5, m, c5⟩ : Hd))] ++ (ps.map (·.1)).drop k).length = (pse ns (x + 1)).length := by rw [HSx.out, HNk2.out, ← Q2.out]; simp
              rw [hln] at hv3
              have HPS := Lib.hid hps
              have B12 := Lib.hid (B6.out.trans ((B9.out.trans (hb2.mono B9.out.size)).mono B6.out.size))
              have HV3 := Lib.hid hv3
              clear ho hg hb1 hat hb2 hps hln hv3 B2c hrw hnw hnb hz29
              go_wp2
              go_roundw
              case rel => exact ⟨x + 1, by omega, by go_num, ⟨_, _, _, HV3.out⟩, HPS.out, B12.out⟩
              case measure => simp [intOf]; omega
            · rw [if_neg hc] at HNk2
              rw [decide_eq_false hc]
              clear hc
              go_wp2
              go_roundw
              case rel => exact ⟨x + 1, by omega, by go_num, ⟨b, o, c, by rw [HSx.out, HNk2.out, HLE.out]⟩, by rw [HSx.out, HNk2.out]; exact L9.out, B6.out.trans (B9.out.mono B6.out.size)⟩
              case measure => simp [intOf]; omega
        · obtain rfl : k = LL := by omega
          have HNk := Lib.hid ((HIN.out k (by omega) HL9.out).1 rfl)
          have i3 : ¬ (k : Int) < (k : Int) := by omega
          go_wp2
          go_quiet (fail)
          have B8 := Lib.hid (below_drewN B7.out nq)
          have K8 := Lib.hid (K7.out.drewN nq)
          have O8 := Lib.hid (O7.out.drewN nq)
          have L8 := Lib.hid (L7.out.below (below_drewN (Below.refl _ _) nq))
          clear k0 k1 k2 B7 K7 O7 L7
          generalize World.drewN w7 nq = w8 at *
          go_wp2
          go_quiet (fail)
          have B9 := Lib.hid (below_drewN B8.out nq)
          have K9 := Lib.hid (K8.out.drewN nq)
          have O9 := Lib.hid (O8.out.drewN nq)
          have L9 := Lib.hid (L8.out.below (below_drewN (Below.refl _ _) nq))
          clear B8 K8 O8 L8
          generalize World.drewN w8 nq = w9 at *
          have k0 := K9.out.cell 0
          have k1 := K9.out.cell 1
          have k2 := K9.out.lt
          have HNk2 := HNk
          go_wp2_with (at_builtin; refine stopHere ?_)
          refine goHere ?_
          have B29 := Lib.hid (bthen B26.out B9.out)
          have q1 := Q1.out.sl.below B29.out
          have hpl := HPZ.out
          refine ap_sl (K := cF) _ ty_poset rfl _ _ rfl rfl rfl (B := w9.heap.size) (xs := []) (news := (ps.map (·.1)).take k) (Ow.lit [] rfl rfl (Nat.le_refl _)) ((q1.cut0 (j := k) (c' := c) (by rw [List.length_map]; omega) (by omega) hcm).alloc _) (by simp only [List.length_nil, List.length_take, List.length_map]; omega) (by simp) ?_
          intro v1 w10 ho hg hb1 hat
          have hb2 : Below w9.heap.size w9 w10 := ((Below.refl _ _).alloc (Nat.le_refl _) _).trans hb1
          rw [List.nil_append] at ho
          have elen : ((ps.map (·.1)).take k).length = k := by rw [List.length_take, List.length_map]; omega
          obtain ⟨A1, c1, rfl⟩ := ho.opn
          rw [elen] at ho ⊢
          have OO := Lib.hid ho
          have BB := Lib.hid hb2
          have EL9 := Lib.hid elen
          have K10 := Lib.hid (K9.out.below hb2 K9.out.lt)
          clear ho hg hb1 hat hb2 elen q1 hpl k0 k1 k2
          have k0 := K10.out.cell 0
          have k1 := K10.out.cell 1
          have k2 := K10.out.lt
          go_wp2_with (at_builtin; refine stopHere ?_)
          refine goHere ?_
          refine ap_one (K := cF) w10 ty_poset rfl _ _ rfl (B := w9.heap.size) (v := .slice A1 k c1) (xs := (ps.map (·.1)).take k) rfl OO.out ((m : Int), ⟨A5, m, c5⟩) rfl rfl (by have := EL9.out; omega) BB.out.size ?_
          intro v2 w11 ho hg hb1 hat
          have hb2 : Below w9.heap.size w9 w11 := BB.out.trans hb1
          have elen : ((ps.map (·.1)).take k ++ [((m : Int), (⟨A5, m, c5⟩ : Hd))]).length = k + 1 := by rw [List.length_append, EL9.out]; rfl
          obtain ⟨A2, c2, rfl⟩ := ho.opn
          rw [elen] at ho ⊢
          replace OO := Lib.hid ho
          replace BB := Lib.hid hb2
          have EL8 := Lib.hid elen
          clear ho hg hb1 hat hb2 elen k0 k1 k2
          go_wp2_with (at_builtin; refine stopHere ?_)
          all_goals
            refine goHere ?_
            refine ap_sl (K := cF) w11 ty_poset rfl _ _ rfl rfl rfl (B := w9.heap.size) (v := .slice A2 (k + 1) c2) (xs := (ps.map (·.1)).take k ++ [((m : Int), (⟨A5, m, c5⟩ : Hd))]) (news := (ps.map (·.1)).drop k) OO.out (by rw [List.drop_of_length_le (show (ps.map (·.1)).length ≤ k by rw [List.length_map, HPZ.out]; exact Nat.le_refl _)]; exact Sl.empty _ _ (by omega)) (by have := EL8.out; have := HPZ.out; rw [List.length_drop, List.length_map]; omega) BB.out.size ?_
            intro v3 w12 ho hg hb1 hat
            have hb2 : Below w9.heap.size w9 w12 := BB.out.trans hb1
            obtain ⟨g3, c3, hv3, -, -, -⟩ := ho.form (by rw [List.length_append, EL8.out]; omega)
            have B2c := bthen B29.out hb2
            have hrw : ∀ p ∈ ps, RowP w1.heap.size w12 p ∧ ∀ k, p.1.2.val.ownBlock = some k → k < w2.heap.size := fun p hp => ⟨(Q3.out p hp).1.below B2c, fun k hk => ((Q3.out p hp).1.2.block k hk).2⟩
            have hnw : RowP w1.heap.size w12 (((m : Int), (⟨A5, m, c5⟩ : Hd)), q) := ⟨by rw [HQx.out], (O9.out.below hb2).mono HZ2.out⟩
            have hnb : ∀ k, (Value.slice A5 m c5).ownBlock = some k → w2.heap.size ≤ k ∧ k < w9.heap.size := O9.out.block
            have hz29 := B29.out.size
            have hps : LsP w1.heap.size w12 v3 (pse ns (x + 1)) := ⟨ps.take k ++ [(((m : Int), (⟨A5, m, c5⟩ : Hd)), q)] ++ ps.drop k, by rw [List.map_append, List.map_append, List.map_take, List.map_drop]; exact ho.mono (Nat.le_trans HZ2.out hz29), by rw [HSx.out, HNk2.out, ← Q2.out, List.map_append, List.map_append, List.map_take, List.map_drop]; rfl, fun p hp => by
                rcases List.mem_append.1 hp with hp | hp
                · rcases List.mem_append.1 hp with hp | hp
                  · refine ⟨(hrw p (List.mem_of_mem_take hp)).1, fun k hk e => ?_⟩
                    have := (hrw p (List.mem_of_mem_take hp)).2 k hk
                    have := (ho.block k e).1
                    omega
                  · have e := List.mem_singleton.1 hp
                    subst e
                    refine ⟨hnw, fun k hk e => ?_⟩
                    have := (hnb k hk).2
                    have := (ho.block k e).1
                    omega
                · refine ⟨(hrw p (List.mem_of_mem_drop hp)).1, fun k hk e => ?_⟩
                  have := (hrw p (List.mem_of_mem_drop hp)).2 k hk
                  have := (ho.block k e).1
                  omega, by
                have hp1 := (List.pairwise_append.1 (show (ps.take k ++ ps.drop k).Pairwise aprP by rw [List.take_append_drop]; exact Q4.out))
                have hax : ∀ p ∈ ps, aprP p (((m : Int), (⟨A5, m, c5⟩ : Hd)), q) := fun p hp k hk e => by
                  have := (hrw p hp).2 k hk
                  have := (hnb k e).1
                  omega
                refine List.pairwise_append.2 ⟨List.pairwise_append.2 ⟨hp1.1, by simp, fun a ha b hb => ?_⟩, hp1.2.1, fun a ha b hb => ?_⟩
                · have e := List.mem_singleton.1 hb
                  subst e
                  exact hax a (List.mem_of_mem_take ha)
                · rcases List.mem_append.1 ha with ha | ha
                  · exact hp1.2.2 a ha b hb
                  · have e := List.mem_singleton.1 ha
                    subst e
                    exact (hax b (List.mem_of_mem_drop hb)).symm⟩
            have hln : ((ps.map (·.1)).take k ++ [((m : Int), (⟨A5, m, c5⟩ : Hd))] ++ (ps.map (·.1)).drop k).length = (pse ns (x + 1)).length := by rw [HSx.out, HNk2.out, ← Q2.out]; simp
            rw [hln] at hv3
            have HPS := Lib.hid hps
            have B12 := Lib.hid (B6.out.trans ((B9.out.trans (hb2.mono B9.out.size)).mono B6.out.size))
            have HV3 := Lib.hid hv3
            clear ho hg hb1 hat hb2 hps hln hv3 B2c hrw hnw hnb hz29
            go_wp2
            go_roundw
            case rel => exact ⟨x + 1, by omega, by go_num, ⟨_, _, _, HV3.out⟩, HPS.out, B12.out⟩
            case measure => simp [intOf]; omega
    · obtain rfl : x = ns.length := by omega
      clear hO hb
      go_wp2
      go_ret
      exact ⟨_, rfl, O.out.mono HB.out.size, bthen HB.out HB2.out⟩
end Go.Proofs.YtkdldfomdbgcaaaGreat
