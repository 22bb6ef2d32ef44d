/- Contracts of posets of the reference: l16Make, l21Quotient, l21Partitions. -/
import Derived.Test.YtomojninngdbeaaGreat24D
namespace Go.Proofs.YtomojninngdbeaaGreat
open Go.RowKit
set_option linter.unusedVariables false
set_option linter.unusedSimpArgs false
theorem spec_l16Make (v : Value) (xs : List Int) (w : World) (h : Sl cI w v xs) (hl : xs.length ≤ 1048576) :
    Calls Tryz.prog 54 #[v] w fun e w' => ∃ A c, e = .returned (.agg #[.int .i64 xs.length, .slice A xs.length c]) ∧ Ow cI 2 w.heap.size w' (.slice A xs.length c) xs ∧ Below w.heap.size w w' := by
  obtain ⟨A0, c0, rfl⟩ := h.opn
  have HS := Lib.hid h
  clear h
  have A := Lib.hid (Below.refl w.heap.size w)
  go_enter Tryz.func54, Tryz.ntmps54
  go_upto_region 1 with fail
  have hb := below_alloc' w (.cells #[.int .i64 0, .slice none 0 0] 26)
  have HK : Hid (Blk (World.alloc w (.cells #[.int .i64 0, .slice none 0 0] 26)) w.heap.size 26 #[.int .i64 0, .slice none 0 0]) := Lib.hid (Blk.new w 26 #[.int .i64 0, .slice none 0 0])
  replace HS := Lib.hid (HS.out.below hb)
  replace A := Lib.hid (bthen A.out hb)
  clear hb
  generalize World.alloc w _ = w1 at *
  go_wp2_with fail
  refine (spec_l01Own _ xs _ HS.out (by omega)).mono ?_
  rintro e w2 ⟨u, rfl, ho, hb⟩
  obtain ⟨A1, c1, rfl⟩ := ho.opn
  have hk1 := HK.out.lt
  have r := HK.out.below hb hk1
  have rc := r.cell
  have rf := r.frozen
  have rl := r.lt
  have B2 := Lib.hid (bthen A.out hb)
  have HO := Lib.hid ho
  clear hb A HK HS r ho
  go_wp2
  refine bodyPost_ret (v := .agg #[.int .i64 xs.length, .slice A1 xs.length c1]) (by simp [results, Tryz.results54, go_sem, rc, rf, rl]) rfl ⟨_, _, rfl, ?_, ?_⟩
  · exact ((HO.out.setBelow hk1 _).setBelow hk1 _).mono (by omega)
  · exact (B2.out.setCell (Nat.le_refl _) _).setCell (Nat.le_refl _) _
set_option maxHeartbeats 1000000 in
set_option maxRecDepth 100000 in
theorem spec_l21Quotient (n : Int) (v u : Value) (ns l : List Nat) (w : World) (h : Sl cI w v (li ns)) (h' : Sl cI w u (li l)) (hr : RelN ns) (hl : l.length = ns.length) (hc : ∀ c ∈ l, c < 8) :
    Calls Tryz.prog 27 #[.agg #[.int .i64 n, v], u] w fun e w' => ∃ A c, e = .returned (.agg #[.int .i64 (qpf ns l ns.length).length, .slice A (qpf ns l ns.length).length c]) ∧ Ow cI 2 w.heap.size w' (.slice A (qpf ns l ns.length).length c) (li (qpf ns l ns.length)) ∧ Below w.heap.size w w' := by
  obtain ⟨A0, c0, rfl⟩ := h.opn
  obtain ⟨A1, c1, rfl⟩ := h'.opn
  have h8 := hr.1
  have HL := Lib.hid (li_length ns)
  have HV := Lib.hid (show (li l).length = ns.length by rw [li_length, hl])
  rw [HL.out] at h ⊢
  rw [HV.out] at h' ⊢
  have A := Lib.hid (Below.refl w.heap.size w)
  have HX := Lib.hid h
  have HC := Lib.hid h'
  have H8 : Hid (∀ x : Nat, x < ns.length → l.getD x 0 < 8) := Lib.hid (fun x hx => hc _ (getD_mem (by omega)))
  have HG : Hid (∀ x : Nat, x < ns.length → ns.getD x 0 < 256) := Lib.hid (fun x hx => Nat.lt_of_lt_of_le (getD_lt hr.2 x) (two_pow_256 h8))
  have HI := Lib.hid (fun (x : Nat) W (hW : Sl cI W (.slice A1 ns.length c1) (li l)) => spec_l21Images _ l (ns.getD x 0) W hW (by omega) hc (by rw [hl]; exact getD_lt hr.2 x))
  have HQ : Hid (∀ x, qpf ns l (x + 1) = if l.getD x 0 = (qpf ns l x).length then qpf ns l x ++ [img (pw l) (ns.getD x 0)] else qpf ns l x) := Lib.hid (fun x => rfl)
  have HP := Lib.hid (qpf_len ns l)
  have HMk := Lib.hid (fun v (xs : List Int) W (hW : Sl cI W v xs) (hl : xs.length ≤ 1048576) => spec_l16Make v xs W hW hl)
  clear h h' hr hc hl
  go_enter Tryz.func27, Tryz.ntmps27
  go_upto_region 1 with fail
  have hb := bthen (below_alloc' w (.cells #[.int .i64 n, .slice A0 ns.length c0] 26)) (below_alloc' (World.alloc w (.cells #[.int .i64 n, .slice A0 ns.length c0] 26)) (.cells #[.int .i64 0, .slice none 0 0] 26))
  have T1 := Lib.hid (Bk.new1 w #[.int .i64 n, .slice A0 ns.length c0] 26 (.cells #[.int .i64 0, .slice none 0 0] 26))
  have HK : Hid (Blk (World.alloc (World.alloc w (.cells #[.int .i64 n, .slice A0 ns.length c0] 26)) (.cells #[.int .i64 0, .slice none 0 0] 26)) (w.heap.size + 1) 26 #[.int .i64 0, .slice none 0 0]) := Lib.hid (Blk.new' _ 26 #[.int .i64 0, .slice none 0 0] (by simp))
  replace HX := Lib.hid (HX.out.below hb)
  replace HC := Lib.hid (HC.out.below hb)
  replace A := Lib.hid (bthen A.out hb)
  clear hb
  generalize World.alloc (World.alloc w _) _ = w1 at *
  go_wp2
  go_loopw [5, 6] (fun v i wr => ∃ x : Nat, x ≤ ns.length ∧ i = .int .i64 x ∧ Ow cI 2 w1.heap.size wr v (li (qpf ns l x)) ∧ Below w1.heap.size w1 wr) (fun _ i _ => ns.length - (intOf i).toNat)
  case atStart => exact ⟨0, Nat.zero_le _, rfl, Ow.lit (K := cI) [] rfl rfl (Nat.le_refl _), below_alloc' _ _⟩
  case round =>
    obtain ⟨x, hx, rfl, ho, hb⟩ := hrel
    obtain ⟨A2, c2, rfl⟩ := ho.opn
    have HLx := Lib.hid (li_length (qpf ns l x))
    rw [HLx.out] at ho ⊢
    have hpx := HP.out x
    have HO := Lib.hid ho
    have HB := Lib.hid hb
    by_cases hlt : x < ns.length
    · obtain ⟨b, o, rfl, hbl, hcx⟩ := (HC.out.below hb).atI (k := x) (by rw [HV.out]; exact hlt)
      obtain ⟨d, q, rfl, hdl, hdx⟩ := (HX.out.below hb).atI (k := x) (by rw [HL.out]; exact hlt)
      rw [li_get] at hcx hdx
      have hx8 := H8.out x hlt
      have hgx := HG.out x hlt
      have t1 := (T1.out.below hb).2
      have t1s := (T1.out.below hb).1
      have HE := Lib.hid (HQ.out x)
      have HIx := Lib.hid (HI.out x)
      generalize l.getD x 0 = c at *
      by_cases he : c = (qpf ns l x).length
      · rw [if_pos he] at HE
        have HLI := Lib.hid (li_snocP (qpf ns l x) (img (pw l) (ns.getD x 0)))
        rw [← HE.out] at HLI
        generalize img (pw l) (ns.getD x 0) = r at *
        generalize ns.getD x 0 = m at *
        generalize li (qpf ns l x) = L at *
        rw [← he] at HO HLx hpx ⊢
        have hcl : c ≤ 8 := by omega
        clear ho hb he HE
        have T1w := Lib.hid (T1.out.below HB.out)
        go_wp2_with fail
        refine (HIx.out _ (HC.out.below HB.out)).mono ?_
        rintro e w3 ⟨rfl, hb⟩
        have HO3 := Lib.hid (HO.out.below hb)
        have HB3 := Lib.hid (bthen HB.out hb)
        have hz3 := HB3.out.size
        clear hb t1 t1s
        go_wp2_with (at_builtin; refine stopHere ?_)
        refine goHere ?_
        refine ap_one (K := cI) _ ty_int64 rfl _ _ rfl (B := w1.heap.size) (xs := L) rfl HO3.out (r : Int) rfl rfl (by have := HLx.out; omega) (by omega) ?_
        intro v1 w5 ho1 hg1 hb1 hat1
        have O1 := Lib.hid ho1
        have B1 := Lib.hid (HB3.out.trans (hb1.mono (by omega)))
        clear ho1 hg1 hb1 hat1
        go_wp2
        exact ⟨⟨x + 1, by omega, by go_num, by rw [HLI.out]; exact O1.out, B1.out⟩, by simp [intOf]; omega⟩
      · rw [if_neg he] at HE
        have hq1 : ((c : Int) == ((qpf ns l x).length : Int)) = false := beq_eq_false_iff_ne.2 (by omega)
        have hq2 : ((c : Int) != ((qpf ns l x).length : Int)) = true := bne_iff_ne.2 (by omega)
        clear ho hb t1 t1s
        go_wp2
        exact ⟨⟨x + 1, by omega, by go_num, by rw [HE.out]; exact HO.out, HB.out⟩, by simp [intOf]; omega⟩
    · obtain rfl : x = ns.length := by omega
      have hk1 := HK.out.lt
      have HK1 := Lib.hid (HK.out.below hb hk1)
      have hz := hb.size
      clear ho hb
      go_wp2_with fail
      refine (HMk.out _ _ _ HO.out.sl (by rw [HLx.out]; omega)).mono ?_
      rintro e w3 ⟨A3, c3, rfl, ho, hb⟩
      rw [HLx.out] at ho ⊢
      have r := HK1.out.below hb HK1.out.lt
      have rc := r.cell
      have rf := r.frozen
      have rl := r.lt
      have B2 := Lib.hid (bthen HB.out hb)
      have HO2 := Lib.hid ho
      have hz3 := A.out.size
      clear hb HK1 ho r
      go_wp2
      refine bodyPost_ret (v := .agg #[.int .i64 (qpf ns l ns.length).length, .slice A3 (qpf ns l ns.length).length c3]) (by simp [results, Tryz.results27, go_sem, rc, rf, rl]) rfl ⟨_, _, rfl, ?_, ?_⟩
      · have hp : w.heap.size + 1 < wr.heap.size := by omega
        exact ((HO2.out.setBelow hp _).setBelow hp _).mono (by omega)
      · exact ((A.out.trans (B2.out.mono hz3)).setCell (Nat.le_succ _) _).setCell (Nat.le_succ _) _
theorem OwI.mono {B B' : Nat} {R : Option Nat} {w : World} {v : Value} {xss : List (List Int)} (h : OwI B R w v xss) (hB : B' ≤ B) : OwI B' R w v xss := by
  obtain ⟨hs, h1, h0, h2, h3⟩ := h
  exact ⟨hs, h1.mono hB, h0, h2, h3⟩
theorem OwI.get {B : Nat} {R : Option Nat} {w : World} {A : Option Addr} {n c : Nat} {xss : List (List Int)} (h : OwI B R w (.slice A n c) xss) {k : Nat} (hk : k < xss.length) :
    ∃ b o Ai ni ci, A = some ⟨b, o, none⟩ ∧ b < w.heap.size ∧ w.cell? ⟨b, o + k, none⟩ = some (.slice Ai ni ci) ∧ Sl cI w (.slice Ai ni ci) xss[k] ∧ ∀ j, (Value.slice Ai ni ci).ownBlock = some j → j < w.heap.size := by
  obtain ⟨hs, h1, h0, h2, h3⟩ := h
  have hk' : k < hs.length := by omega
  obtain ⟨b, o, hA, hb, hc⟩ := h1.sl.cell hk'
  have := hc 0 hs[k].val rfl
  refine ⟨b, o, hs[k].a, hs[k].n, hs[k].c, hA, hb, by simpa [cH, Hd.val] using this, (h3 k hk' hk).1, fun j hj => ?_⟩
  rcases (h3 k hk' hk).2 with h | ⟨-, h⟩
  · rw [show (Value.slice hs[k].a hs[k].n hs[k].c).ownBlock = none from h] at hj; cases hj
  · exact (h j hj).1
/-- one more header, which lies below the row's own blocks -/
theorem OwI.pushS {B B2 : Nat} {w : World} {v : Value} {xss : List (List Int)} {A : Option Addr} {n c : Nat} {xs : List Int}
    (h : OwI B none w v xss) (hu : Sl cI w (.slice A n c) xs) (hlt : ∀ k, (Value.slice A n c).ownBlock = some k → k < B2) (hB : B2 ≤ B) (hz : B2 ≤ w.heap.size) :
    ∃ hs : List Hd, Ow cH 24 B w v hs ∧ hs.length = xss.length ∧
      ∀ w' v', Ow cH 24 B w' v' (hs ++ [⟨A, n, c⟩]) → (w.alloc (.cells #[.slice A n c] 24)).grownBy w' v.ownBlock →
        (v'.ownBlock = v.ownBlock ∨ v'.ownBlock = some (w.heap.size + 1)) → OwI B none w' v' (xss ++ [xs]) := by
  obtain ⟨hs, h1, h0, h2, h3⟩ := h
  refine ⟨hs, h1, h2, fun w' v' ho hg hat => ?_⟩
  have hsz : w.heap.size + 1 ≤ w'.heap.size := by have := hg.size; simp at this; omega
  have key : ∀ (u : Value) (ys : List Int), Sl cI w u ys → (u.ownBlock = none ∨ (u.ownBlock ≠ v.ownBlock ∧ ∀ k, u.ownBlock = some k → k < w.heap.size ∧ (none : Option Nat) ≠ some k)) →
      Sl cI w' u ys ∧ (u.ownBlock = none ∨ (u.ownBlock ≠ v'.ownBlock ∧ ∀ k, u.ownBlock = some k → k < w'.heap.size ∧ (none : Option Nat) ≠ some k)) := by
    intro u ys hu hn
    refine ⟨(hu.alloc _).grown hg (hn.imp id And.left), ?_⟩
    rcases hn with hn | ⟨hn, hk⟩
    · exact .inl hn
    · refine .inr ⟨?_, fun k e => ⟨by have := (hk k e).1; omega, (hk k e).2⟩⟩
      rcases hat with e | e
      · rw [e]; exact hn
      · rw [e]; intro e2; have := (hk _ e2).1; omega
  refine ⟨hs ++ [⟨A, n, c⟩], ho, fun r hr => (by cases hr), by simp [h2], fun i a b => ?_⟩
  by_cases hi : i < hs.length
  · rw [List.getElem_append_left hi, List.getElem_append_left (by omega)]
    exact key _ _ (h3 i hi (by omega)).1 (h3 i hi (by omega)).2
  · have e : i = hs.length := by simp at a; omega
    subst e
    have e2 : (xss ++ [xs])[hs.length] = xs := by
      rw [List.getElem_append_right (by omega)]; simp [h2]
    rw [e2]
    have e3 : (hs ++ [(⟨A, n, c⟩ : Hd)])[hs.length] = ⟨A, n, c⟩ := by simp
    rw [e3]
    refine key _ _ hu ?_
    show (Value.slice A n c).ownBlock = none ∨ ((Value.slice A n c).ownBlock ≠ _ ∧ ∀ k, (Value.slice A n c).ownBlock = some k → _)
    cases hq : (Value.slice A n c).ownBlock with
    | none => exact .inl rfl
    | some k =>
      have hk := hlt k hq
      refine .inr ⟨?_, fun j hj => ?_⟩
      · intro e
        have := (h1.block k e.symm).1
        omega
      · have e' : k = j := by injection hj
        subst e'
        exact ⟨by omega, by simp⟩
set_option maxHeartbeats 2000000 in
set_option maxRecDepth 100000 in
theorem spec_l21Partitions (v : Value) (ns : List Nat) (w : World) (h : Sl cI w v (li ns)) (hr : RelN ns) (h6 : ns.length < 7) :
    Calls Tryz.prog 23 #[.agg #[.int .i64 ns.length, v]] w fun e w' => ∃ u, e = .returned u ∧ Sl2 cI w' u (lil (cps ns)) ∧ Below w.heap.size w w' := by
  obtain ⟨A0, c0, rfl⟩ := h.opn
  have HL := Lib.hid (li_length ns)
  rw [HL.out] at h ⊢
  have A := Lib.hid (Below.refl w.heap.size w)
  have HX := Lib.hid h
  have PS := Lib.hid prt_small
  have HCor := Lib.hid (fun u l W (h0 : Sl cI W (.slice A0 ns.length c0) (li ns)) (h1 : Sl cI W u (li l)) (hl : l.length = ns.length) (hc : ∀ c ∈ l, c < 8) => spec_l21Correct ns.length _ u ns l W h0 h1 hr hl hc)
  have HOwn := Lib.hid (fun v (xs : List Int) W (hW : Sl cI W v xs) (hl : xs.length ≤ 1048576) => spec_l01Own v xs W hW (by omega))
  clear h hr
  go_enter Tryz.func23, Tryz.ntmps23
  go_upto_region 1 with fail
  have hb := below_alloc' w (.cells #[.int .i64 ns.length, .slice A0 ns.length c0] 26)
  have T1 := Lib.hid (Bk.new w #[.int .i64 ns.length, .slice A0 ns.length c0] 26)
  replace HX := Lib.hid (HX.out.below hb)
  replace A := Lib.hid (bthen A.out hb)
  clear hb
  generalize World.alloc w _ = w1 at *
  have S0 : Hid (OwI w1.heap.size none ((w1.alloc (.cells #[] 2)).alloc (.cells #[.slice (some ⟨w1.heap.size, 0, none⟩) 0 0] 24)) (.slice (some ⟨w1.heap.size + 1, 0, none⟩) 1 1) (lil (prt 0))) := Lib.hid (by
    have := OwI.one (B := w1.heap.size) (w := w1.alloc (.cells #[] 2)) (Ow.lit (K := cI) (e := 2) (B := w1.heap.size) [] (cs := #[]) rfl rfl (Nat.le_refl _)) (by simp)
    rw [show lil (prt 0) = [[]] from rfl]
    simpa using this)
  have S1 := Lib.hid (bthen (below_alloc' w1 (.cells #[] 2)) (below_alloc' (w1.alloc (.cells #[] 2)) (.cells #[.slice (some ⟨w1.heap.size, 0, none⟩) 0 0] 24)))
  go_wp2
  go_loopw [3, 4] (fun v i wr => ∃ x : Nat, x ≤ ns.length ∧ i = .int .i64 x ∧ OwI w1.heap.size none wr v (lil (prt x)) ∧ Below w1.heap.size w1 wr) (fun _ i _ => ns.length - (intOf i).toNat)
  case atStart => exact ⟨0, Nat.zero_le _, rfl, S0.out, S1.out⟩
  case round =>
    obtain ⟨x, hx, rfl, ho, hb⟩ := hrel
    clear S0 S1
    obtain ⟨wx, hwx⟩ : ∃ W, W = wr := ⟨_, rfl⟩
    subst hwx
    obtain ⟨Ax, cx, rfl⟩ := ho.sl2.opn
    have HLx := Lib.hid (lil_length (prt x))
    rw [HLx.out] at ho ⊢
    obtain ⟨p1, p2⟩ := PS.out x (by omega)
    have P2 := Lib.hid p2
    have HO := Lib.hid ho
    have HB := Lib.hid hb
    have t1 : wx.cell? ⟨w.heap.size, 0, none⟩ = _ := (T1.out.below hb).2 0
    clear ho hb p2
    by_cases hlt : x < ns.length
    · go_wp2
      clear t1
      go_loopw [5, 6] (fun v i wq => ∃ i' : Nat, i' ≤ (prt x).length ∧ i = .int .i64 i' ∧ OwI wx.heap.size none wq v (lil (pst x i')) ∧ Below wx.heap.size wx wq) (fun _ i _ => (prt x).length - (intOf i).toNat)
      case atStart => exact ⟨0, Nat.zero_le _, rfl, by rw [pst_zero]; exact ⟨[], Ow.lit (K := cH) [] rfl rfl (Nat.le_refl _), fun r hr => (by cases hr), rfl, fun i a => absurd a (by simp)⟩, below_alloc' _ _⟩
      case round =>
        obtain ⟨i, hi, rfl, ho2, hb2⟩ := hrel
        obtain ⟨wy, hwy⟩ : ∃ W, W = wr := ⟨_, rfl⟩
        subst hwy
        by_cases hlt2 : i < (prt x).length
        · obtain ⟨b, o, Aj, nj, cj, rfl, hbl, hcj, hsj⟩ := HO.out.sl2.at_ (k := i) (by rw [HLx.out]; exact hlt2)
          rw [lil_get] at hsj
          have HS := Lib.hid (pst_succ hlt2)
          have HPL := Lib.hid (pst_len (x := x) (i := i + 1) (by omega) hlt2)
          obtain ⟨q1, q2, q3⟩ := P2.out _ (List.getElem_mem hlt2)
          obtain ⟨l, hle⟩ : ∃ l, (prt x)[i] = l := ⟨_, rfl⟩
          rw [hle] at hsj HS q1 q2 q3
          have HLl := Lib.hid (li_length l)
          have hnj : nj = x := by
            obtain ⟨A', c', hv⟩ := hsj.opn
            rw [li_length, q1] at hv
            injection hv
          subst hnj
          have HM : Hid (∀ j : Nat, mx l (j + 1) = max (mx l j) (l.getD j 0 + 1)) := Lib.hid (fun j => rfl)
          have HMB : Hid (∀ j : Nat, j ≤ nj → mx l j ≤ 8 ∧ l.getD j 0 < 8 ∨ nj ≤ j) := Lib.hid (fun j hj => (Nat.lt_or_ge j nj).elim (fun h => .inl ⟨mx_le l 8 j fun i hi => q2 _ (getD_mem (by omega)), q2 _ (getD_mem (by omega))⟩) .inr)
          have hcw := (hb2.cell (p := ⟨b, o + i, none⟩) hbl).trans hcj
          have HSW := Lib.hid (hsj.below hb2)
          have HO2 := Lib.hid ho2
          have HB2 := Lib.hid hb2
          have Q2 := Lib.hid q2
          have HSJ := Lib.hid hsj
          clear ho2 hb2 hle q2 hsj
          go_wp2
          go_loop [7, 8] (fun t k => ∃ j : Nat, j ≤ nj ∧ k = .int .i64 j ∧ t = .int .i64 (mx l j : Nat)) (fun _ k => nj - (intOf k).toNat)
          case atStart => exact ⟨0, Nat.zero_le _, rfl, rfl⟩
          case round =>
            obtain ⟨j, hj, rfl, rfl⟩ := hrel
            by_cases hlt3 : j < nj
            · obtain ⟨d, q, rfl, hdl, hdj⟩ := HSW.out.atI (k := j) (by rw [HLl.out]; omega)
              rw [li_get] at hdj
              have hz := HMB.out j hj
              have HE := Lib.hid (HM.out j)
              generalize mx l j = m at *
              generalize l.getD j 0 = y at *
              rcases Nat.le_total m (y + 1) with hz2 | hz2
              all_goals
                go_wp2
                exact ⟨⟨j + 1, by omega, by go_num, by rw [HE.out]; first | (rw [Nat.max_eq_right hz2]; done) | (rw [Nat.max_eq_left hz2]; done) | go_num⟩, by simp [intOf]; omega⟩
            · obtain rfl : j = nj := by omega
              rw [q1] at q3 HS
              obtain ⟨m, hm⟩ : ∃ m, mx l j = m := ⟨_, rfl⟩
              rw [hm] at q3 HS ⊢
              clear hm
              go_wp2
              go_loopw [5, 9] (fun v k wq => ∃ t : Nat, t ≤ m + 1 ∧ k = .int .i64 t ∧ OwI wx.heap.size none wq v (lil (pst j i ++ pgr l t)) ∧ Below wx.heap.size wx wq) (fun _ i _ => m + 1 - (intOf i).toNat)
              case atStart => exact ⟨0, Nat.zero_le _, rfl, by show OwI _ _ _ _ (lil (pst j i ++ [])); rw [List.append_nil]; exact HO2.out, HB2.out⟩
              case round =>
                obtain ⟨t, ht, rfl, ho3, hb3⟩ := hrel
                obtain ⟨wz, hwz⟩ : ∃ W, W = wr := ⟨_, rfl⟩
                subst hwz
                have HS3 := Lib.hid (HSJ.out.below hb3)
                have hcw3 := (hb3.cell (p := ⟨b, o + i, none⟩) hbl).trans hcj
                have HO3 := Lib.hid ho3
                have HB3 := Lib.hid hb3
                clear ho3 hb3
                by_cases hlt4 : t ≤ m
                · have i4 : (t : Int) ≤ (m : Int) := by omega
                  go_wp2_with fail
                  refine (HOwn.out _ _ _ HS3.out (by rw [HLl.out]; omega)).mono ?_
                  rintro e w4 ⟨u, rfl, ho, hb⟩
                  obtain ⟨A4, c4, rfl⟩ := ho.opn
                  clear hcw3
                  go_wp2_with (at_builtin; refine stopHere ?_)
                  refine goHere ?_
                  refine ap_one (K := cI) _ ty_int64 rfl _ _ rfl (xs := li l) rfl ho (t : Int) rfl rfl (by rw [HLl.out]; omega) hb.size ?_
                  intro v1 w5 ho1 hg1 hb1 hat1
                  rw [← li_snocP] at ho1
                  obtain ⟨A5, c5, rfl⟩ := ho1.opn
                  generalize (li (l ++ [t])).length = n5 at *
                  have hb5 := hb.trans hb1
                  have HO5 := HO3.out.below hb5
                  obtain ⟨hs, g1, g2, g3⟩ := HO5.push ho1 (by obtain ⟨hs, q1, _⟩ := HO3.out; exact fun k hk => (q1.block k hk).2) (fun r hr => by cases hr)
                  have hlen : hs.length ≤ 203 := by
                    have := HPL.out
                    rw [HS.out, List.length_append, pgr_length] at this
                    rw [g2, lil_length, List.length_append, pgr_length]
                    omega
                  have HB5 := Lib.hid (HB3.out.trans (hb5.mono HB3.out.size))
                  have G1 := Lib.hid g1
                  have G3 := Lib.hid g3
                  clear hb hb1 hb5 HO5 g1 g2 g3 ho ho1 hg1 hat1
                  go_wp2_with (at_builtin; refine stopHere ?_)
                  refine goHere ?_
                  refine ap_one (K := cH) _ ty_intss rfl _ _ rfl (B := wx.heap.size) (xs := hs) rfl G1.out (⟨A5, n5, c5⟩ : Hd) rfl rfl (by omega) HB5.out.size ?_
                  intro v2 w6 ho2 hg2 hb2 hat2
                  have Y1 := Lib.hid (G3.out _ _ ho2 hg2 hat2)
                  have Y2 := Lib.hid (HB5.out.trans hb2)
                  rw [← lil_snoc, List.append_assoc, ← pgr_succ] at Y1
                  clear ho2 hg2 hb2 hat2
                  go_wp2
                  exact ⟨⟨t + 1, by omega, by go_num, Y1.out, Y2.out⟩, by simp [intOf]; omega⟩
                · obtain rfl : t = m + 1 := by omega
                  have i4 : ¬ ((m + 1 : Nat) : Int) ≤ (m : Int) := by omega
                  clear hcw3
                  go_wp2
                  exact ⟨⟨i + 1, by omega, by go_num, by rw [HS.out]; exact HO3.out, HB3.out⟩, by simp [intOf]; omega⟩
        · obtain rfl : i = (prt x).length := by omega
          rw [pst_full] at ho2
          have HO2 := Lib.hid (ho2.mono HB.out.size)
          have HB2 := Lib.hid (HB.out.trans (hb2.mono HB.out.size))
          clear ho2 hb2
          go_wp2
          exact ⟨⟨x + 1, by omega, by go_num, HO2.out, HB2.out⟩, by simp [intOf]; omega⟩
    · obtain rfl : x = ns.length := by omega
      have t2 : wx.cell? ⟨w.heap.size, 1, none⟩ = _ := (T1.out.below HB.out).2 1
      have t2s : w.heap.size < wx.heap.size := (T1.out.below HB.out).1
      have HXr := Lib.hid (HX.out.below HB.out)
      go_wp2
      go_loopw [10, 11] (fun v i wq => ∃ i' : Nat, i' ≤ (prt ns.length).length ∧ i = .int .i64 i' ∧ OwI wx.heap.size none wq v (lil (cpt ns i')) ∧ Below wx.heap.size wx wq) (fun _ i _ => (prt ns.length).length - (intOf i).toNat)
      case atStart => exact ⟨0, Nat.zero_le _, rfl, by rw [cpt_zero]; exact ⟨[], Ow.lit (K := cH) [] rfl rfl (Nat.le_refl _), fun r hr => (by cases hr), rfl, fun i a => absurd a (by simp)⟩, below_alloc' _ _⟩
      case round =>
        obtain ⟨i, hi, rfl, ho2, hb2⟩ := hrel
        obtain ⟨wy, hwy⟩ : ∃ W, W = wr := ⟨_, rfl⟩
        subst hwy
        by_cases hlt2 : i < (prt ns.length).length
        · obtain ⟨b, o, Aj, nj, cj, rfl, hbl, hcj, hsj, hown⟩ := HO.out.get (k := i) (by rw [HLx.out]; exact hlt2)
          rw [lil_get] at hsj
          have HON := Lib.hid hown
          clear hown
          have HS := Lib.hid (cpt_succ hlt2)
          have HPL := Lib.hid (cpt_len ns i)
          obtain ⟨q1, q2, q3⟩ := P2.out _ (List.getElem_mem hlt2)
          obtain ⟨l, hle⟩ : ∃ l, (prt ns.length)[i] = l := ⟨_, rfl⟩
          rw [hle] at hsj HS q1 q2 q3
          have hnj : nj = ns.length := by
            obtain ⟨A', c', hv⟩ := hsj.opn
            rw [li_length, q1] at hv
            injection hv
          subst hnj
          have HCl := Lib.hid (fun u W h0 h1 => HCor.out u l W h0 h1 q1 q2)
          have HSJ := Lib.hid hsj
          have HO2 := Lib.hid ho2
          clear ho2 hle q2 hsj q3
          have t3 := (hb2.cell (p := ⟨w.heap.size, 0, none⟩) t2s).trans t1
          have t4 := (hb2.cell (p := ⟨w.heap.size, 1, none⟩) t2s).trans t2
          have hcw := (hb2.cell (p := ⟨b, o + i, none⟩) hbl).trans hcj
          have t3s := Nat.lt_of_lt_of_le t2s hb2.size
          have hbw := Nat.lt_of_lt_of_le hbl hb2.size
          have HXw := Lib.hid (HXr.out.below hb2)
          have HSW := Lib.hid (HSJ.out.below hb2)
          have HB2 := Lib.hid hb2
          clear hb2
          go_upto_region 23 with fail
          have hI := (Below.refl wy.heap.size wy).drew
          refine wp_region_sched (Below wy.heap.size wy) 6 [0, 1, 2, 3, 4] [0, 1, 2, 3, 4, 5] (by kernel_rfl) (by kernel_rfl) hI ?_
          repeat
            apply wpSched_q rfl rfl
            case h =>
              intro w' hI K hK
              have t3' := (hI.cell (p := ⟨w.heap.size, 0, none⟩) t3s).trans t3
              have t4' := (hI.cell (p := ⟨w.heap.size, 1, none⟩) t3s).trans t4
              have hcw' := (hI.cell (p := ⟨b, o + i, none⟩) hbw).trans hcw
              simp only [quietV, stillV]
              go_simp
              exact hK
            go_simp
          refine wpSched_r rfl rfl ?_ hI
          intro K hK _
          go_simp
          refine (HCl.out _ _ (HXw.out.below hI) (HSW.out.below hI)).mono ?_
          rintro e w90 ⟨rfl, hbb⟩
          replace hI := hI.trans (hbb.mono hI.size)
          refine hK _ _ hI ?_
          clear hK K hbb
          refine wpSched_nil ?_
          try simp only [List.drop_succ_cons, List.drop_zero, List.drop_nil]
          have HO3 := Lib.hid (HO2.out.below hI)
          have HB3 := Lib.hid (bthen HB2.out hI)
          replace hcw := (hI.cell (p := ⟨b, o + i, none⟩) hbw).trans hcw
          have HSw := Lib.hid (HSW.out.below hI)
          have hz3 := HB3.out.size
          clear hI t3 t4 hcj
          cases hd : cor ns l
          · rw [hd, if_neg Bool.false_ne_true] at HS
            clear hcw
            go_wp2
            exact ⟨⟨i + 1, by omega, by go_num, by rw [HS.out]; exact HO3.out, HB3.out⟩, by simp [intOf]; omega⟩
          · rw [hd, if_pos rfl] at HS
            obtain ⟨hs, g1, g2, g3⟩ := HO3.out.pushS HSw.out HON.out (Nat.le_refl _) hz3
            have hlen : hs.length ≤ 203 := by
              have := HPL.out
              rw [g2, lil_length]
              omega
            have G1 := Lib.hid g1
            have G3 := Lib.hid g3
            clear g1 g2 g3 hd
            go_wp2_with (at_builtin; refine stopHere ?_)
            refine goHere ?_
            refine ap_one (K := cH) _ ty_intss rfl _ _ rfl (B := wx.heap.size) (xs := hs) rfl G1.out (⟨Aj, ns.length, cj⟩ : Hd) rfl rfl (by omega) hz3 ?_
            intro v2 w6 ho2 hg2 hb2 hat2
            have Y1 := Lib.hid (G3.out _ _ ho2 hg2 hat2)
            have Y2 := Lib.hid (HB3.out.trans hb2)
            rw [← lil_snoc] at Y1
            clear ho2 hg2 hb2 hat2 hcw
            go_wp2
            exact ⟨⟨i + 1, by omega, by go_num, by rw [HS.out]; exact Y1.out, Y2.out⟩, by simp [intOf]; omega⟩
        · obtain rfl : i = (prt ns.length).length := by omega
          rw [cpt_full] at ho2
          have HO2 := Lib.hid ho2.sl2
          have HB2 := Lib.hid (HB.out.trans (hb2.mono HB.out.size))
          clear ho2 hb2 t1 t2
          go_wp2
          go_ret
          exact ⟨_, rfl, HO2.out, A.out.trans (HB2.out.mono A.out.size)⟩
end Go.Proofs.YtomojninngdbeaaGreat
