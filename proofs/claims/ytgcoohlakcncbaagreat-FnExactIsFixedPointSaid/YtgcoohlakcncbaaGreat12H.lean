/- Contracts of chapter 12, of the program: newTypes. -/
import Derived.Test.YtgcoohlakcncbaaGreatJE
import Derived.Test.YtgcoohlakcncbaaGreat33u
import Derived.Test.YtgcoohlakcncbaaGreatSch
import Derived.Test.YtgcoohlakcncbaaGreatJB
namespace Go.Proofs.YtgcoohlakcncbaaGreat
open Go.RowKit
set_option linter.unusedVariables false
set_option linter.unusedSimpArgs false
theorem ty_need : Ty Tryz.prog 190 194 (.agg #[.int .i64 0, .int .i64 0, .slice none 0 0]) 3 40 := Ty.mk' Tryz.underlying190 (by kernel_rfl) rfl (by decide)
theorem ty_bool12 : Ty Tryz.prog 129 4 (.bool false) 1 1 := Ty.mk' Tryz.underlying129 (by kernel_rfl) rfl (by decide)
theorem kdF_ism {P : List Fm} {i : Nat} (hi : i < P.length) (hel : isel (P.getD i .fls) = true) : ism P i = ((kdF (P.getD i .fls) == 5) || (kdF (P.getD i .fls) == 6)) := by
  unfold ism
  cases h : P.getD i .fls with
  | var s => rfl
  | fls => rfl
  | bin k a b => rw [h] at hel; cases hel
  | un k a => cases k <;> rfl
def rfK (P L R : List Fm) (k : Nat) : List Bool := (List.range k).map (rfT P L R)
theorem rfK_succ (P L R : List Fm) (k : Nat) : rfK P L R (k + 1) = rfK P L R k ++ [rfT P L R k] := by unfold rfK; rw [List.range_succ, List.map_append]; rfl
theorem rfK_length (P L R : List Fm) (k : Nat) : (rfK P L R k).length = k := by simp [rfK]
/-- worlds alike but for the block of a row -/
def KpR (v : Value) (w w' : World) : Prop := KpS (fun k => v.ownBlock = some k) w w'
theorem KpR.cell {v : Value} {w w' : World} (h : KpR v w w') {p : Addr} (hp : p.block < w.heap.size ∧ v.ownBlock ≠ some p.block) : w'.cell? p = w.cell? p := KpS.cell h hp.1 hp.2
theorem KpR.of {v : Value} {w w' : World} (h : Below w.heap.size w w') : KpR v w w' := KpS.of h
theorem KpR.grown {v : Value} {w w' w2 : World} (h : KpR v w w') (hg : w'.grownBy w2 v.ownBlock) : KpR v w w2 := KpS.grown h hg fun k e => e
theorem KpR.alloc {v : Value} {w w' : World} (h : KpR v w w') (o : Obj) : KpR v w (w'.alloc o) := KpS.below h ((Below.refl _ _).alloc (Nat.le_refl _) o)
theorem KpS.new {S T : Nat → Prop} {a b c : World} (h : KpS S a b) (k : KpS T b c) (hT : ∀ x, T x → a.heap.size ≤ x) : KpS S a c :=
  ⟨k.os.trans h.os, k.tape.trans h.tape, k.output.trans h.output, Nat.le_trans h.size k.size, fun i hi hn => (k.block i (Nat.lt_of_lt_of_le hi h.size) (fun e => by have := hT i e; omega)).trans (h.block i hi hn)⟩
set_option maxRecDepth 100000 in
set_option maxHeartbeats 4000000 in
theorem impl_newTypes (fs gs : List Fm) (P : List Fm) (N : Nat) (hPE : elF (fs ++ gs) = P) (hN : N = 2 ^ P.length) (hP : P.length ≤ 8) (lv rv : Value) (w : World) (hl : Sl cS w lv (fs.map txt)) (hr : Sl cS w rv (gs.map txt)) (hg : gdF (fs ++ gs)) (hn : fs.length + gs.length ≤ 1000) :
    Calls Tryz.prog 141 #[.string ⟨#[71, 76]⟩, .agg #[lv, rv]] w fun e w' => ∃ p ga al, e = .returned (.pointer (some ⟨p, 0, none⟩)) ∧ TyE P N p ga al ((List.range N).map (rfT P fs gs)) w' ∧ (∀ t, al.getD t false = true ↔ Alv P t) ∧ Below w.heap.size w w' := by
  obtain ⟨A0, c0, rfl⟩ := hl.opn
  obtain ⟨A1, c1, rfl⟩ := hr.opn
  have HL := Lib.hid hl
  have HR := Lib.hid hr
  clear hl hr
  have LL : (fs.map txt).length = fs.length := List.length_map ..
  have LR : (gs.map txt).length = gs.length := List.length_map ..
  rw [LL] at HL ⊢
  rw [LR] at HR ⊢
  clear LL LR
  have h256 : N ≤ 256 := hN ▸ pow8 hP
  have HEl := Lib.hid (fun lv rv W h1 h2 => hPE ▸ impl_elementaryParts fs gs lv rv W h1 h2 hg hn)
  have HPel : Hid (∀ g ∈ P, isel g = true ∧ g.ok = true ∧ (enc g).length ≤ 40 ∧ inP P g) := Lib.hid fun g hgP => by
    have hok : ∀ f ∈ fs ++ gs, f.ok = true := fun f hf => (hg f hf).1
    subst hPE
    exact ⟨((elF_mem hok).1 hgP).1, elF_ok hok hgP, elF_len hok (fun f hf => (hg f hf).2) hgP, elF_cl hok g hgP⟩
  have HIn : Hid (∀ f ∈ fs ++ gs, f.ok = true ∧ (enc f).length ≤ 40 ∧ inP P f) := Lib.hid fun f hf => by
    subst hPE
    exact ⟨(hg f hf).1, (hg f hf).2, elF_self (fun f hf => (hg f hf).1) hf⟩
  have HV := Lib.hid (fun t p (ht : t < 4294967296) f => impl_valueIn P t p (by omega) ht (fun g hg => (HPel.out g hg).2.2.1) f)
  have HFm := Lib.hid (fun v (W : World) (h : Sl cS W v (fs.map txt)) => impl_formulasOf fs v W h (fun f hf => hg f (List.mem_append_left _ hf)) (by omega))
  have HGm := Lib.hid (fun v (W : World) (h : Sl cS W v (gs.map txt)) => impl_formulasOf gs v W h (fun f hf => hg f (List.mem_append_right _ hf)) (by omega))
  have HEM := Lib.hid (fun (h : InvA P (List.replicate N true)) p ga rf W (hT : TyE P N p ga (List.replicate N true) rf W) => impl_eliminate P N p ga _ rf hP hN W hT h)
  have HIA : Hid (InvA P (List.replicate N true)) := Lib.hid ⟨by rw [List.length_replicate, hN], fun t ht => by
    have := ht.lt
    rw [List.getD_eq_getElem?_getD, List.getElem?_replicate, if_pos (by omega)]
    rfl⟩
  have HNP : Hid (N = 2 ^ P.length) := Lib.hid hN
  have hw1 : IntKind.i64.wrap ((2 : Int) ^ P.length) = (N : Int) := by rw [wrap_two_pow'' (by omega), hN]
  have HNL := Lib.hid hn
  clear hg hPE hN hn
  go_enter Tryz.func141, Tryz.ntmps141
  go_upto_region 1 with fail
  have hb := below_alloc' w (.cells #[.slice A0 fs.length c0, .slice A1 gs.length c1] 41)
  have K1 := Lib.hid (Blk.new w 41 #[.slice A0 fs.length c0, .slice A1 gs.length c1])
  have HB := Lib.hid hb
  replace HL := Lib.hid (HL.out.below hb)
  replace HR := Lib.hid (HR.out.below hb)
  clear hb
  generalize World.alloc w _ = w1 at *
  have k0 := K1.out.cell 0
  have k1 := K1.out.cell 1
  have k2 := K1.out.lt
  go_wp2_with fail
  refine (HEl.out _ _ _ HL.out HR.out).mono ?_
  rintro e w2 ⟨u2, rfl, ho, hb⟩
  obtain ⟨Ap, cp, rfl⟩ := ho.opn
  have E2 := Lib.hid (ho.rd (T := fun k => w2.heap.size ≤ k) fun k _ h1 h2 => by omega)
  have B2 := Lib.hid (bthen HB.out hb)
  have S2 := Lib.hid (K1.out.below hb K1.out.lt)
  have L2 := Lib.hid (HL.out.below hb)
  have R2 := Lib.hid (HR.out.below hb)
  clear ho hb k0 k1 k2 K1 HL HR HB HEl
  go_upto_region 2 with fail
  obtain ⟨hb, hKp, hKt⟩ := box2 w2 #[.string ⟨#[71, 76]⟩, .slice Ap P.length cp, .slice none 0 0, .int .i64 0, .slice none 0 0, .slice none 0 0] #[.pointer (some ⟨w2.heap.size, 0, none⟩)] 192 148
  have KP3 := Lib.hid hKp
  have KT3 := Lib.hid hKt
  have BB3 := Lib.hid hb
  clear hb hKp hKt
  generalize World.alloc (World.alloc w2 _) _ = w3 at *
  have k1 := KP3.out.cell 1
  have kf := KP3.out.frozen 3
  have k2 := KP3.out.lt
  have t0 := KT3.out.cell 0
  have t1 := KT3.out.lt
  have k3 := KP3.out.cell 3
  go_still_tail 9, (by kernel_rfl)
  repeat still_step
  change wpList _ _ _ _ _ (World.drew _)
  go_upto_region 3 with fail
  have KP4 : Hid (Blk (World.drew (w3.setCell ⟨w2.heap.size, 3, none⟩ (.int .i64 (N : Int)))) w2.heap.size 192 #[.string ⟨#[71, 76]⟩, .slice Ap P.length cp, .slice none 0 0, .int .i64 (N : Int), .slice none 0 0, .slice none 0 0]) := Lib.hid ((KP3.out.set_ 3 (.int .i64 (N : Int))).drewN 1)
  have KT4 : Hid (Blk (World.drew (w3.setCell ⟨w2.heap.size, 3, none⟩ (.int .i64 (N : Int)))) (w2.heap.size + 1) 148 #[.pointer (some ⟨w2.heap.size, 0, none⟩)]) := Lib.hid ((KT3.out.far (p := ⟨w2.heap.size, 3, none⟩) (by show w2.heap.size + 1 ≠ w2.heap.size; omega) (.int .i64 (N : Int))).drewN 1)
  have BB4 : Hid (Below w2.heap.size w2 (World.drew (w3.setCell ⟨w2.heap.size, 3, none⟩ (.int .i64 (N : Int))))) := Lib.hid (below_drewN (BB3.out.setCell (p := ⟨w2.heap.size, 3, none⟩) (Nat.le_refl _) _) 1)
  clear k1 kf k2 t0 t1 k3 KP3 KT3 BB3 hw1
  generalize World.drew (World.setCell w3 _ _) = w4 at *
  have k1 := KP4.out.cell 1
  have k2 := KP4.out.lt
  have t0 := KT4.out.cell 0
  have t1 := KT4.out.lt
  go_wp2
  clear k1 k2 t0 t1
  go_loopw [32] (fun k wr => ∃ (i : Nat) (v2 : Value), i ≤ P.length ∧ k = .int .i64 i ∧ Blk wr w2.heap.size 192 #[.string ⟨#[71, 76]⟩, .slice Ap P.length cp, v2, .int .i64 (N : Int), .slice none 0 0, .slice none 0 0] ∧ Blk wr (w2.heap.size + 1) 148 #[.pointer (some ⟨w2.heap.size, 0, none⟩)] ∧ Grw (ndS P) (w2.heap.size + 2) wr v2 (mdK P i) ∧ Below w2.heap.size w2 wr) (fun k _ => P.length - (intOf k).toNat)
  case atStart => exact ⟨0, _, Nat.zero_le _, rfl, KP4.out, KT4.out, Grw.nil _ _, BB4.out⟩
  case round =>
    obtain ⟨i, v2, hi, rfl, hKp, hKt, hG, hb⟩ := hrel
    obtain ⟨w5, hw5⟩ : ∃ W, W = wr := ⟨_, rfl⟩
    subst hw5
    obtain ⟨An, cn, e5⟩ := hG.opn
    obtain ⟨ln, hln⟩ : ∃ z, (mdK P i).length = z := ⟨_, rfl⟩
    have hlnb : ln ≤ 8 := by
      rw [← hln]
      unfold mdK
      have := List.length_filter_le (ism P) (List.range i)
      rw [List.length_range] at this
      omega
    rw [hln] at e5
    subst e5
    have KP5 := Lib.hid hKp
    have KT5 := Lib.hid hKt
    have G5 := Lib.hid hG
    have BB5 := Lib.hid hb
    have HLN := Lib.hid hln
    have hz5 := hKt.lt
    clear hKp hKt hG hb hln
    by_cases hlt : i < P.length
    · have E5 := Lib.hid (E2.out.kps (⟨BB5.out.os, BB5.out.tape, BB5.out.output, BB5.out.size, fun k hk _ => BB5.out.block k hk⟩ : KpS (fun k => w2.heap.size ≤ k) w2 w5))
      obtain ⟨b, o, a, rfl, hbl, hc, hra⟩ := E5.out.at_ (k := i) hlt
      obtain ⟨s, ⟨Af, nf, cf⟩⟩ := a
      have hra : s = txt P[i] ∧ Sl cN w5 (.slice Af nf cf) (enc P[i]) := hra
      have hc0 : w5.cell? ⟨b, o + i * 2, none⟩ = some (.string s) := hc 0 _ rfl
      have hc1 : w5.cell? ⟨b, o + i * 2 + 1, none⟩ = some (.slice Af nf cf) := hc 1 _ rfl
      have hgd : P.getD i .fls = P[i] := by rw [List.getD_eq_getElem?_getD, List.getElem?_eq_getElem hlt]; rfl
      have hgp := HPel.out P[i] (List.getElem_mem hlt)
      have i1 : (i : Int) < (P.length : Int) := by omega
      obtain ⟨Af2, cf2, ef⟩ := hra.2.opn
      injection ef with ef1 ef2 ef3
      subst ef1 ef2 ef3
      have HRA := Lib.hid hra.2
      have HMS := Lib.hid (mdK_succ P i)
      have HIM := Lib.hid (kdF_ism hlt (by rw [hgd]; exact hgp.1))
      rw [hgd] at HIM
      have HGD := Lib.hid hgd
      have HGP := Lib.hid hgp
      have hfl : (enc P[i]).length ≤ 40 := hgp.2.2.1
      have hfp := enc_pos P[i]
      clear hc hra hgd hgp
      generalize hff : P[i] = f at *
      clear hff
      obtain ⟨nf, hnf⟩ : ∃ z, (enc f).length = z := ⟨_, rfl⟩
      rw [hnf] at hfl HRA hc1
      have HNF := Lib.hid hnf
      have hnf0 : 0 < nf := by omega
      clear hnf
      go_upto_region 6 with fail
      have hb := below_alloc' w5 (.cells #[.string s, .slice Af nf cf] 147)
      have KE6 := Lib.hid (Blk.new w5 147 #[.string s, .slice Af nf cf])
      have KP6 := Lib.hid (KP5.out.below hb KP5.out.lt)
      have KT6 := Lib.hid (KT5.out.below hb KT5.out.lt)
      have G6 := Lib.hid (G5.out.below hb)
      have HR6 := Lib.hid (HRA.out.below hb)
      have E6 := Lib.hid ((E5.out.less (T' := fun _ => False) (fun _ h => h.elim)).below hb)
      have BB6 := Lib.hid (BB5.out.trans (hb.mono BB5.out.size))
      clear hb hbl hc0 hc1 HRA KP5 KT5 G5 BB5
      generalize World.alloc w5 _ = w6 at *
      obtain ⟨bf, of, rfl, hbf, hcf⟩ := HR6.out.cell (k := 0) hfp
      have hk0 : w6.cell? ⟨bf, of, none⟩ = some (.int .i64 (kdF f)) := by
        have := hcf 0 (.int .i64 ((enc f)[0]'hfp).1) rfl
        rw [kdF_enc] at this
        simpa using this
      have e0 := KE6.out.cell 0
      have e1 := KE6.out.cell 1
      have e2 := KE6.out.lt
      have HMo := Lib.hid (fun W => impl_isModalE (kdF f) W)
      rw [← HIM.out] at HMo
      clear hcf
      obtain ⟨kd, hkd⟩ : ∃ kd, kdF f = kd := ⟨_, rfl⟩
      rw [hkd] at hk0 HMo
      have HKD := Lib.hid hkd
      clear hkd
      go_wp2_with fail
      refine (HMo.out _).mono ?_
      rintro e w7 ⟨rfl, rfl⟩
      cases him : ism P i
      · rw [if_neg (by rw [him]; decide)] at HMS
        clear him e0 e1 e2 hk0 hbf
        go_wp2
        go_roundw
        case rel => exact ⟨i + 1, _, by omega, by go_num, KP6.out, KT6.out, by rw [HMS.out]; exact G6.out, BB6.out⟩
        case measure => simp [intOf]; omega
      · rw [if_pos him] at HMS
        obtain ⟨uk, fa, hfa⟩ := ism_at him
        have hun : f = .un uk fa := by rw [← HGD.out]; exact hfa
        have he : enc f = (uk.i, 0) :: (enc fa ++ []) := by rw [hun, List.append_nil]; rfl
        have HFi : Hid (∀ W, Sl cN W (.slice (some ⟨bf, of, none⟩) nf cf) (enc f) → Calls Tryz.prog 189 #[.slice (some ⟨bf, of, none⟩) nf cf] W fun e w' => ∃ u, e = .returned u ∧ Sl cN W u (enc fa) ∧ W = w') := Lib.hid fun W hW => by
          rw [he] at hW
          exact impl_first _ (uk.i, 0) fa [] W hW (by rw [← he, HNF.out]; omega)
        have hgp := HGP.out
        rw [hun] at hgp
        have HVa : Hid (∀ t, t < N → ∀ v W, PtR P w2.heap.size W → Sl cN W v (enc fa) → Calls Tryz.prog 214 #[.pointer (some ⟨w2.heap.size, 0, none⟩), v, .int .i64 (t : Int)] W fun e w' => e = .returned (.bool (vt P t fa)) ∧ Below W.heap.size W w') := Lib.hid fun t ht v W h1 h2 =>
          HV.out t w2.heap.size (by omega) fa hgp.2.1 (by have := hgp.2.2.1; simp [enc] at this; omega) hgp.2.2.2.2 v W h1 h2
        have HIT : Hid (∀ t, t < N → (inr P i).take (t + 1) = (inr P i).take t ++ [vt P t fa]) := Lib.hid fun t ht => by
          have hl : t < (inr P i).length := by rw [inr_length, ← HNP.out]; exact ht
          rw [List.take_succ_eq_append_getElem hl, inr_get, hfa]
          rfl
        have HIL : Hid (∀ t, t ≤ N → ((inr P i).take t).length = t) := Lib.hid fun t ht => by rw [List.length_take, inr_length, ← HNP.out]; omega
        have HIA2 : Hid ((inr P i).take N = inr P i) := Lib.hid (by rw [HNP.out, ← inr_length P i, List.take_length])
        clear him hfa hun he hgp
        go_upto_region 8 with fail
        have hb := below_alloc' w6 (.cells #[.int .i64 (i : Int), .int .i64 kd, .slice none 0 0] 194)
        have KQ7 := Lib.hid (Blk.new w6 194 #[.int .i64 (i : Int), .int .i64 kd, .slice none 0 0])
        have B67 := Lib.hid hb
        clear hb e0 e1 e2 hk0 hbf
        generalize World.alloc w6 _ = w7 at *
        have KP7 := Lib.hid (KP6.out.below B67.out KP6.out.lt)
        have KT7 := Lib.hid (KT6.out.below B67.out KT6.out.lt)
        have p3 := KP7.out.cell 3
        have p4 := KP7.out.lt
        have t0 := KT7.out.cell 0
        have t1 := KT7.out.lt
        go_wp2
        clear p3 p4 t0 t1
        go_loopw [54] (fun k wr => ∃ (t : Nat) (v3 : Value), t ≤ N ∧ k = .int .i64 t ∧ Blk wr w6.heap.size 194 #[.int .i64 (i : Int), .int .i64 kd, v3] ∧ Ow cB 4 (w6.heap.size + 1) wr v3 ((inr P i).take t) ∧ Below w6.heap.size w6 wr) (fun k _ => N - (intOf k).toNat)
        case atStart => exact ⟨0, _, Nat.zero_le _, rfl, KQ7.out, by rw [List.take_zero]; exact Ow.nil _ _, B67.out⟩
        case round =>
          obtain ⟨t, v3, ht, rfl, hKq, hO, hb⟩ := hrel
          obtain ⟨w8, hw8⟩ : ∃ W, W = wr := ⟨_, rfl⟩
          subst hw8
          obtain ⟨A3, c3, e3⟩ := hO.opn
          rw [HIL.out t ht] at e3
          subst e3
          have KQ8 := Lib.hid hKq
          have O8 := Lib.hid hO
          have B68 := Lib.hid hb
          have KP8 := Lib.hid (KP6.out.below hb KP6.out.lt)
          have KT8 := Lib.hid (KT6.out.below hb KT6.out.lt)
          have KE8 := Lib.hid (KE6.out.below hb KE6.out.lt)
          have HR8 := Lib.hid (HR6.out.below hb)
          have E8 := Lib.hid (E6.out.below hb)
          clear hKq hO hb
          by_cases htl : t < N
          · have i2 : (t : Int) < (N : Int) := by omega
            have HVt := Lib.hid (HVa.out t htl)
            have HTt := Lib.hid (HIT.out t htl)
            have HLt := Lib.hid (HIL.out t ht)
            have q0 := KQ8.out.cell 2
            have q1 := KQ8.out.lt
            have t0 := KT8.out.cell 0
            have t1 := KT8.out.lt
            have e1 := KE8.out.cell 1
            have e2 := KE8.out.lt
            have HPt : Hid (PtR P w2.heap.size (World.drew w8)) := Lib.hid ⟨some ⟨b, o, none⟩, cp, KP8.out.lt, KP8.out.cell 1, E8.out.drewN 1⟩
            have HRd : Hid (Sl cN (World.drew w8) (.slice (some ⟨bf, of, none⟩) nf cf) (enc f)) := Lib.hid (HR8.out.drewN 1)
            go_upto_region 11 with fail
            refine wp_region_sched (Below w8.heap.size w8) 9 [0, 1, 2, 3, 4, 6] [0, 1, 2, 3, 4, 6, 5, 7, 8] (by kernel_rfl) (by kernel_rfl) (Below.refl _ _).drew ?_
            repeat
              apply wpSched_q rfl rfl
              case h =>
                intro w' hI K hK
                have q0' := (hI.cell (p := ⟨w6.heap.size, 2, none⟩) q1).trans q0
                have t0' := (hI.cell (p := ⟨w2.heap.size + 1, 0, none⟩) t1).trans t0
                have e1' := (hI.cell (p := ⟨w5.heap.size, 1, none⟩) e2).trans e1
                simp only [quietV, stillV]
                go_simp
                exact hK
              go_simp
            refine wpSched_r rfl rfl ?_ (Below.refl _ _).drew
            intro K hK _
            go_simp
            refine (HFi.out _ HRd.out).mono ?_
            rintro e w9 ⟨u9, rfl, hs9, rfl⟩
            refine hK _ _ (Below.refl _ _).drew ?_
            clear hK K
            refine wpSched_r rfl rfl ?_ (Below.refl _ _).drew
            intro K hK _
            go_simp
            refine (HVt.out _ _ HPt.out hs9).mono ?_
            rintro e w9 ⟨rfl, hb9⟩
            have B89 : Below w8.heap.size w8 w9 := (Below.refl _ _).drew.trans hb9
            refine hK _ _ B89 ?_
            clear hK K
            refine wpSched_r rfl rfl ?_ B89
            intro K hK _
            go_simp
            refine hK _ _ (B89.alloc B89.size _) ?_
            clear hK K
            refine wpSched_nil ?_
            try simp only [List.drop_succ_cons, List.drop_zero]
            have HO9 := Lib.hid (O8.out.below B89)
            have KQ9 := Lib.hid (KQ8.out.below B89 q1)
            have B69 := Lib.hid (bthen B68.out B89)
            clear q0 q1 t0 t1 e1 e2 hs9 hb9
            refine ap_one (K := cB) w9 ty_bool12 rfl _ _ rfl (B := w6.heap.size + 1) (v := .slice A3 t c3) (xs := (inr P i).take t) rfl HO9.out (vt P t fa) rfl rfl (by rw [HLt.out]; omega) (by have := KQ9.out.lt; omega) ?_
            intro v10 w10 ho hg1 hb1 hat1
            have KQ10 := Lib.hid ((KQ9.out.alloc _).grown hg1 (HO9.out.apart (g := w6.heap.size) (.inl (by omega))))
            obtain ⟨A10, c10, e10⟩ := ho.opn
            rw [List.length_append, HLt.out, List.length_singleton] at e10
            subst e10
            have HO10 := Lib.hid ho
            have B10 := Lib.hid (B69.out.trans (hb1.mono (by omega)))
            clear ho hg1 hb1 hat1 B89
            have q0 := KQ10.out.cell 2
            have qf := KQ10.out.frozen 2
            have q1 := KQ10.out.lt
            go_wp2
            have HO11 := Lib.hid (HO10.out.setBelow (p := ⟨w6.heap.size, 2, none⟩) (Nat.lt_succ_self _) (.slice A10 (t + 1) c10))
            have KQ11 := Lib.hid (KQ10.out.set_ 2 (.slice A10 (t + 1) c10))
            have B11 := Lib.hid (B10.out.setCell (p := ⟨w6.heap.size, 2, none⟩) (Nat.le_refl _) (.slice A10 (t + 1) c10))
            clear q0 qf q1
            go_roundw
            case rel => exact ⟨t + 1, _, by omega, by go_num, KQ11.out, by rw [HTt.out]; exact HO11.out, B11.out⟩
            case measure => simp [intOf]; omega
          · obtain rfl : N = t := by omega
            rw [HIA2.out] at O8
            have G8 := G6.out.below B68.out
            have BB8 := Lib.hid (BB6.out.trans (B68.out.mono BB6.out.size))
            have hz6 := BB6.out.size
            have hz6' := KT6.out.lt
            obtain ⟨hs, g1, g2, g3⟩ := (G8.drewN 1).push (a := ((i : Int), kd, ⟨A3, N, c3⟩)) (b := i) ⟨rfl, by rw [HGD.out]; exact HKD.out.symm, O8.out.sl.drewN 1⟩ (fun k e => by
              have h1 := O8.out.block k e
              refine ⟨by omega, h1.2, fun e2 => ?_⟩
              have h2 := (G6.out.blk k e2).2
              omega)
            have G1 := Lib.hid g1
            have G2 : Hid (hs.length = ln) := Lib.hid (by rw [g2, HLN.out])
            have G3 := Lib.hid g3
            have hvb : Hid (∀ k, (Value.slice An ln cn).ownBlock = some k → w2.heap.size + 2 ≤ k) := Lib.hid fun k e => (G6.out.blk k e).1
            have q0 := KQ8.out.cell 0
            have q2 := KQ8.out.cell 1
            have q3 := KQ8.out.cell 2
            have p2 := KP8.out.cell 2
            have t0 := KT8.out.cell 0
            have hq1 : w6.heap.size < w8.heap.size ∧ (Value.slice An ln cn).ownBlock ≠ some w6.heap.size := ⟨KQ8.out.lt, fun e => by have := (G6.out.blk _ e).2; omega⟩
            have hp1 : w2.heap.size < w8.heap.size ∧ (Value.slice An ln cn).ownBlock ≠ some w2.heap.size := ⟨KP8.out.lt, fun e => by have := hvb.out _ e; omega⟩
            have ht1 : w2.heap.size + 1 < w8.heap.size ∧ (Value.slice An ln cn).ownBlock ≠ some (w2.heap.size + 1) := ⟨KT8.out.lt, fun e => by have := hvb.out _ e; omega⟩
            clear g1 g2 g3 G8 htl
            go_upto_region 13 with fail
            have hI : KpR (.slice An ln cn) w8 (World.drew w8) := KpR.of (Below.refl _ _).drew
            refine wp_region_sched (KpR (.slice An ln cn) w8) 8 [0, 1, 2, 3, 4, 5] [0, 1, 2, 3, 4, 5, 6, 7] (by kernel_rfl) (by kernel_rfl) hI ?_
            repeat
              apply wpSched_q rfl rfl
              case h =>
                intro w' hI K hK
                have q0' := (hI.cell (p := ⟨w6.heap.size, 0, none⟩) hq1).trans q0
                have q2' := (hI.cell (p := ⟨w6.heap.size, 1, none⟩) hq1).trans q2
                have q3' := (hI.cell (p := ⟨w6.heap.size, 2, none⟩) hq1).trans q3
                have p2' := (hI.cell (p := ⟨w2.heap.size, 2, none⟩) hp1).trans p2
                have t0' := (hI.cell (p := ⟨w2.heap.size + 1, 0, none⟩) ht1).trans t0
                simp only [quietV, stillV]
                go_simp
                exact hK
              go_simp
            refine wpSched_r rfl rfl ?_ hI
            intro K hK _
            go_simp
            refine hK _ _ (hI.alloc _) ?_
            clear hK K
            refine wpSched_r rfl rfl ?_ (hI.alloc _)
            intro K hK _
            refine step_oneS (K := cD) (World.drew w8) ty_need rfl _ _ rfl (B := w2.heap.size + 2) (v := .slice An ln cn) (xs := hs) (by simp [Act.eval, Act.put]; done) G1.out ((i : Int), kd, ⟨A3, N, c3⟩) rfl (by simp [Act.eval, Act.put]; done) (by rw [G2.out]; omega) ?_ ?_
            · show _ ≤ w8.heap.size
              have := KQ8.out.lt
              omega
            intro v10 w10 ho hg1 hb1 hat1
            have hk10 : KpR (.slice An ln cn) w8 w10 := (hI.alloc _).grown hg1
            have G10 := G3.out w10 v10 _ (World.grownBy_alloc _ _ none) (by simp) ho hg1 hat1
            obtain ⟨A10, c10, e10⟩ := ho.opn
            rw [List.length_append, G2.out, List.length_singleton] at e10
            subst e10
            have KP10 := Lib.hid (KP8.out.kps hk10 (fun e => hp1.2 e))
            have KT10 := Lib.hid (KT8.out.kps hk10 (fun e => ht1.2 e))
            have BB10 := Lib.hid (BB8.out.trans (hk10.toBelow BB8.out.size fun k hk e => by have := hvb.out _ e; omega))
            have GG10 := Lib.hid G10
            refine hK _ _ hk10 ?_
            clear hK K ho hg1 hb1 hat1 G10 hk10 hI q0 q2 q3 p2 t0 hq1 hp1 ht1
            refine wpSched_nil ?_
            try simp only [List.drop_succ_cons, List.drop_zero]
            have p2 := KP10.out.cell 2
            have pf := KP10.out.frozen 2
            have p1 := KP10.out.lt
            go_wp2
            have KP11 := Lib.hid (KP10.out.set_ 2 (.slice A10 (ln + 1) c10))
            have KT11 := Lib.hid (KT10.out.far (p := ⟨w2.heap.size, 2, none⟩) (by show w2.heap.size + 1 ≠ w2.heap.size; omega) (.slice A10 (ln + 1) c10))
            have G11 := Lib.hid (GG10.out.setBelow (p := ⟨w2.heap.size, 2, none⟩) (by show w2.heap.size < w2.heap.size + 2; omega) (.slice A10 (ln + 1) c10))
            have BB11 := Lib.hid (BB10.out.setCell (p := ⟨w2.heap.size, 2, none⟩) (Nat.le_refl _) (.slice A10 (ln + 1) c10))
            clear p2 pf p1
            go_roundw
            case rel => exact ⟨i + 1, _, by omega, by go_num, KP11.out, KT11.out, by rw [HMS.out]; exact G11.out, BB11.out⟩
            case measure => simp [intOf]; omega
    · obtain rfl : i = P.length := by omega
      have SS5 := Lib.hid (S2.out.below BB5.out S2.out.lt)
      have LL5 := Lib.hid ((L2.out.below BB5.out).drewN 1)
      have RR5 := Lib.hid ((R2.out.below BB5.out).drewN 1)
      have s0 := SS5.out.cell 0
      have s1 := SS5.out.cell 1
      have s2 := SS5.out.lt
      go_upto_region 15 with fail
      have hI : Below w5.heap.size w5 (World.drew w5) := (Below.refl _ _).drew
      refine wp_region_sched (Below w5.heap.size w5) 6 [0, 1, 3, 4] [0, 1, 3, 4, 2, 5] (by kernel_rfl) (by kernel_rfl) hI ?_
      repeat
        apply wpSched_q rfl rfl
        case h =>
          intro w' hI K hK
          have s0' := (hI.cell (p := ⟨w.heap.size, 0, none⟩) s2).trans s0
          have s1' := (hI.cell (p := ⟨w.heap.size, 1, none⟩) s2).trans s1
          simp only [quietV, stillV]
          go_simp
          exact hK
        go_simp
      refine wpSched_r rfl rfl ?_ hI
      intro K hK _
      go_simp
      refine (HFm.out _ _ LL5.out).mono ?_
      rintro e w6 ⟨ul, rfl, ho6, hb6⟩
      have B56 : Below w5.heap.size w5 w6 := hI.trans hb6
      have RR6 := Lib.hid (RR5.out.below hb6)
      have LG6 := Lib.hid ho6
      refine hK _ _ B56 ?_
      clear hK K ho6
      refine wpSched_r rfl rfl ?_ B56
      intro K hK _
      go_simp
      refine (HGm.out _ _ RR6.out).mono ?_
      rintro e w7 ⟨ur, rfl, ho7, hb7⟩
      have B57 : Below w5.heap.size w5 w7 := B56.trans (hb7.mono B56.size)
      have LG7 := Lib.hid (LG6.out.below hb7)
      have RG7 := Lib.hid (ho7.mono B56.size)
      refine hK _ _ B57 ?_
      clear hK K ho7 s0 s1 s2
      refine wpSched_nil ?_
      try simp only [List.drop_succ_cons, List.drop_zero]
      have KP7 := Lib.hid (KP5.out.below B57 KP5.out.lt)
      have KT7 := Lib.hid (KT5.out.below B57 KT5.out.lt)
      have G7 := Lib.hid (G5.out.below B57)
      have BB7 := Lib.hid (BB5.out.trans (B57.mono BB5.out.size))
      have hz57 := B57.size
      have L7 := Lib.hid (LG7.out.rd (T := fun k => k = w2.heap.size) fun k h1 h2 h3 => by have h4 : w5.heap.size ≤ k := h1; omega)
      have R7 := Lib.hid (RG7.out.rd (T := fun k => k = w2.heap.size) fun k h1 h2 h3 => by have h4 : w5.heap.size ≤ k := h1; omega)
      have E7 := Lib.hid ((E2.out.kps (⟨BB7.out.os, BB7.out.tape, BB7.out.output, BB7.out.size, fun k hk _ => BB7.out.block k hk⟩ : KpS (fun k => w2.heap.size ≤ k) w2 w7)).less (T' := fun k => k = w2.heap.size) fun k h => Nat.le_of_eq h.symm)
      have N7 := Lib.hid (G7.out.rd (T := fun k => k = w2.heap.size ∨ w7.heap.size ≤ k) fun k h1 h2 h3 => by omega)
      have p3 := KP7.out.cell 3
      have p1 := KP7.out.lt
      have t0 := KT7.out.cell 0
      have t1 := KT7.out.lt
      clear B56 hI hb6 hb7 hlt
      go_wp2
      clear p3 p1 t0 t1
      go_loopw [90] (fun kk wr => ∃ (k : Nat) (rw aw : Value), k ≤ N ∧ kk = .int .i64 k ∧ Blk wr w2.heap.size 192 #[.string ⟨#[71, 76]⟩, .slice Ap P.length cp, .slice An ln cn, .int .i64 (N : Int), rw, aw] ∧ Ow cB 4 w7.heap.size wr rw (rfK P fs gs k) ∧ Ow cB 4 w7.heap.size wr aw (List.replicate k true) ∧ (∀ q, rw.ownBlock = some q → aw.ownBlock ≠ some q) ∧ KpS (fun q => q = w2.heap.size) w7 wr) (fun kk _ => N - (intOf kk).toNat)
      case atStart => exact ⟨0, _, _, Nat.zero_le _, rfl, KP7.out, Ow.nil _ _, Ow.nil _ _, fun q h => (by cases h), KpS.refl _ _⟩
      case round =>
        obtain ⟨k, rw', aw, hk, rfl, hKp, hOr, hOa, hap, hks⟩ := hrel
        obtain ⟨w8, hw8⟩ : ∃ W, W = wr := ⟨_, rfl⟩
        subst hw8
        obtain ⟨Ar, cr, e8⟩ := hOr.opn
        rw [rfK_length] at e8
        subst e8
        obtain ⟨Aa, ca, e8⟩ := hOa.opn
        rw [List.length_replicate] at e8
        subst e8
        have KP8 := Lib.hid hKp
        have OR8 := Lib.hid hOr
        have OA8 := Lib.hid hOa
        have AP8 := Lib.hid hap
        have KK8 := Lib.hid hks
        clear hKp hOr hOa hap hks
        by_cases hkl : k < N
        · have i2 : (k : Int) < (N : Int) := by omega
          have hb := below_alloc' w8 (.cells #[.int .i64 (k : Int)] 2)
          have HTB := Lib.hid (Blk.new w8 2 #[.int .i64 (k : Int)])
          have KK9 := Lib.hid (KK8.out.below hb)
          have KP9 := Lib.hid (KP8.out.below hb KP8.out.lt)
          have OR9 := Lib.hid (OR8.out.below hb)
          have OA9 := Lib.hid (OA8.out.below hb)
          have hz78 := KK8.out.size
          have hzb := BB7.out.size
          have ht7 := KT7.out.lt
          clear hb
          go_upto_region 19 with fail
          generalize World.alloc w8 _ = w9 at *
          have KT9 := Lib.hid (KT7.out.kps KK9.out (by omega))
          have E9 := Lib.hid (E7.out.kps KK9.out)
          have L9 := Lib.hid (L7.out.kps KK9.out)
          have R9 := Lib.hid (R7.out.kps KK9.out)
          have hnr : ∀ q, (Value.slice Ar k cr).ownBlock = some q → w7.heap.size ≤ q := fun q e => (OR9.out.block q e).1
          have hp1 : w2.heap.size < w9.heap.size ∧ (Value.slice Ar k cr).ownBlock ≠ some w2.heap.size := ⟨KP9.out.lt, fun e => by have := hnr _ e; omega⟩
          have ht1 : w2.heap.size + 1 < w9.heap.size ∧ (Value.slice Ar k cr).ownBlock ≠ some (w2.heap.size + 1) := ⟨KT9.out.lt, fun e => by have := hnr _ e; omega⟩
          have HPt : Hid (∀ W, Below w9.heap.size w9 W → PtR P w2.heap.size W) := Lib.hid fun W hW => ⟨Ap, cp, Nat.lt_of_lt_of_le KP9.out.lt hW.size, (hW.cell (p := ⟨w2.heap.size, 1, none⟩) KP9.out.lt).trans (KP9.out.cell 1), (E9.out.less (fun _ h => h.elim)).below hW⟩
          have HC1 : Hid (∀ W, Below w9.heap.size w9 W → Calls Tryz.prog 131 #[ul, .func (.func 215) #[] #[.pointer (some ⟨w2.heap.size + 1, 0, none⟩), .pointer (some ⟨w8.heap.size, 0, none⟩)]] W fun e w' => e = .returned (.bool (fs.any fun f => !vt P k f)) ∧ Below W.heap.size W w') := Lib.hid fun W hW =>
            slices_ContainsFunc_fm ul fs _ _ _ _ W (L9.out.below hW) (by have := HNL.out; omega) en_newTypes_1 (fun w' hb f hf u hu => by
              have hi := HIn.out f (List.mem_append_left _ hf)
              have hB := bthen hW hb
              exact impl_newTypes_1 P k w2.heap.size (w2.heap.size + 1) w8.heap.size f (HV.out k w2.heap.size (by omega) f) hi.1 hi.2.1 hi.2.2 u w' (HPt.out w' hB) hu ((hB.cell (p := ⟨w2.heap.size + 1, 0, none⟩) KT9.out.lt).trans (KT9.out.cell 0)) ((hB.cell (p := ⟨w8.heap.size, 0, none⟩) HTB.out.lt).trans (HTB.out.cell 0)) (Nat.lt_of_lt_of_le KT9.out.lt hB.size) (Nat.lt_of_lt_of_le HTB.out.lt hB.size))
          have HC2 : Hid (∀ W, Below w9.heap.size w9 W → Calls Tryz.prog 131 #[ur, .func (.func 216) #[] #[.pointer (some ⟨w2.heap.size + 1, 0, none⟩), .pointer (some ⟨w8.heap.size, 0, none⟩)]] W fun e w' => e = .returned (.bool (gs.any fun f => vt P k f)) ∧ Below W.heap.size W w') := Lib.hid fun W hW =>
            slices_ContainsFunc_fm ur gs _ _ _ _ W (R9.out.below hW) (by have := HNL.out; omega) en_newTypes_2 (fun w' hb f hf u hu => by
              have hi := HIn.out f (List.mem_append_right _ hf)
              have hB := bthen hW hb
              exact impl_newTypes_2 P k w2.heap.size (w2.heap.size + 1) w8.heap.size f (HV.out k w2.heap.size (by omega) f) hi.1 hi.2.1 hi.2.2 u w' (HPt.out w' hB) hu ((hB.cell (p := ⟨w2.heap.size + 1, 0, none⟩) KT9.out.lt).trans (KT9.out.cell 0)) ((hB.cell (p := ⟨w8.heap.size, 0, none⟩) HTB.out.lt).trans (HTB.out.cell 0)) (Nat.lt_of_lt_of_le KT9.out.lt hB.size) (Nat.lt_of_lt_of_le HTB.out.lt hB.size))
          have HRF : Hid (rfT P fs gs k = (!(fs.any fun f => !vt P k f) && !(gs.any fun f => vt P k f))) := Lib.hid (by
            unfold rfT
            congr 1
            rw [Bool.eq_iff_iff, List.all_eq_true, Bool.not_eq_true', List.any_eq_false]
            exact ⟨fun h f hf => by rw [h f hf]; decide, fun h f hf => by simpa using h f hf⟩)
          have HRS := Lib.hid (rfK_succ P fs gs k)
          have p4 := KP9.out.cell 4
          have t0 := KT9.out.cell 0
          clear hnr
          generalize rfT P fs gs k = rk at *
          generalize (fs.any fun f => !vt P k f) = q1 at *
          generalize (gs.any fun f => vt P k f) = q2 at *
          have hI : KpR (.slice Ar k cr) w9 (World.drew w9) := KpR.of (Below.refl _ _).drew
          refine wp_region_sched (KpR (.slice Ar k cr) w9) 17 [0, 1, 2, 3, 4, 5, 6, 8, 9, 10, 11, 13, 14] [0, 1, 2, 3, 4, 5, 6, 7, 8, 9, 10, 11, 12, 13, 14, 15, 16] (by kernel_rfl) (by kernel_rfl) hI ?_
          repeat
            apply wpSched_q rfl rfl
            case h =>
              intro w' hI K hK
              have p4' := (hI.cell (p := ⟨w2.heap.size, 4, none⟩) hp1).trans p4
              have t0' := (hI.cell (p := ⟨w2.heap.size + 1, 0, none⟩) ht1).trans t0
              simp only [quietV, stillV]
              go_simp
              exact hK
            go_simp
          refine wpSched_r rfl rfl ?_ hI
          intro K hK _
          go_simp
          refine (HC1.out _ (Below.refl _ _).drew).mono ?_
          rintro e w10 ⟨rfl, hb10⟩
          have B910 : Below w9.heap.size w9 w10 := (Below.refl _ _).drew.trans hb10
          refine hK _ _ (KpR.of B910) ?_
          clear hK K hb10
          cases q1
          · skip
            repeat
              apply wpSched_q rfl rfl
              case h =>
                intro w' hI K hK
                simp only [quietV, stillV]
                go_simp
                exact hK
              go_simp
            refine wpSched_r rfl rfl ?_ (KpR.of B910)
            intro K hK _
            rw [if_pos (show Region.wanted _ _ = true from rfl)]
            go_simp
            refine (HC2.out _ B910).mono ?_
            rintro e w11 ⟨rfl, hb11⟩
            have B911 := bthen B910 hb11
            refine hK _ _ (KpR.of B911) ?_
            clear hK K hb11
            repeat
              apply wpSched_q rfl rfl
              case h =>
                intro w' hI K hK
                simp only [quietV, stillV]
                go_simp
                exact hK
              go_simp
            refine wpSched_r rfl rfl ?_ (KpR.of B911)
            intro K hK _
            go_simp
            refine hK _ _ ((KpR.of B911).alloc _) ?_
            clear hK K
            refine wpSched_r rfl rfl ?_ ((KpR.of B911).alloc _)
            intro K hK _
            refine step_oneS (K := cB) w11 ty_bool12 rfl _ _ rfl (B := w7.heap.size) (v := .slice Ar k cr) (xs := rfK P fs gs k) (by simp [Act.eval, Act.put]; done) (OR9.out.below B911) (!q2) rfl (by simp [Act.eval, Act.put]; done) (by rw [rfK_length]; omega) (by have := B911.size; have := KK9.out.size; omega) ?_
            intro v12 w12 ho hg1 hb1 hat1
            have hk12 : KpR (.slice Ar k cr) w9 w12 := ((KpR.of B911).alloc _).grown hg1
            have OA12 := Lib.hid (((OA9.out.below B911).alloc (.cells #[.bool (!q2)] 4)).kept hg1 (by
              cases hv : (Value.slice Aa k ca).ownBlock with
              | none => exact .inl rfl
              | some q => exact .inr fun e => AP8.out q e.symm hv))
            have AP12 : Hid (∀ q, v12.ownBlock = some q → (Value.slice Aa k ca).ownBlock ≠ some q) := Lib.hid fun q e e2 => by
              rcases hat1 with h | h
              · exact AP8.out q (h ▸ e) e2
              · rw [h] at e
                injection e with e
                have h1 := (OA9.out.block q e2).2
                have h2 := B911.size
                omega
            obtain ⟨A12, c12, e12⟩ := ho.opn
            rw [List.length_append, rfK_length, List.length_singleton] at e12
            subst e12
            have KP12 := Lib.hid (KP9.out.kps hk12 (fun e => hp1.2 e))
            have KT12 := Lib.hid (KT9.out.kps hk12 (fun e => ht1.2 e))
            have TB12 := Lib.hid (HTB.out.kps hk12 (fun e => by have h1 := (OR8.out.block _ e).2; omega))
            have KK12 := Lib.hid (KK9.out.new hk12 fun q e => (OR9.out.block q e).1)
            have OR12 : Hid (Ow cB 4 w7.heap.size w12 (.slice A12 (k + 1) c12) (rfK P fs gs (k + 1))) := Lib.hid (by rw [HRS.out, HRF.out]; exact ho)
            refine hK _ _ hk12 ?_
            clear hK K ho hg1 hb1 hat1 hk12 hI p4 t0 hp1 ht1 B910 B911
            refine wpSched_nil ?_
            try simp only [List.drop_succ_cons, List.drop_zero]
            have p4 := KP12.out.cell 4
            have pf := KP12.out.frozen 4
            have p1 := KP12.out.lt
            go_upto_region 20 with fail
            have KP13 := Lib.hid (KP12.out.set_ 4 (.slice A12 (k + 1) c12))
            have KT13 := Lib.hid (KT12.out.far (p := ⟨w2.heap.size, 4, none⟩) (by show w2.heap.size + 1 ≠ w2.heap.size; omega) (.slice A12 (k + 1) c12))
            have TB13 := Lib.hid (TB12.out.far (p := ⟨w2.heap.size, 4, none⟩) (by show w8.heap.size ≠ w2.heap.size; omega) (.slice A12 (k + 1) c12))
            have OR13 := Lib.hid (OR12.out.setBelow (p := ⟨w2.heap.size, 4, none⟩) (by show w2.heap.size < w7.heap.size; omega) (.slice A12 (k + 1) c12))
            have OA13 := Lib.hid (OA12.out.setBelow (p := ⟨w2.heap.size, 4, none⟩) (by show w2.heap.size < w7.heap.size; omega) (.slice A12 (k + 1) c12))
            have KK13 := Lib.hid (KK12.out.set (p := ⟨w2.heap.size, 4, none⟩) rfl (.slice A12 (k + 1) c12))
            clear p4 pf p1 KP12 KT12 TB12 OR12 OA12 KK12
            generalize World.setCell w12 _ _ = w13 at *
            have hna : ∀ q, (Value.slice Aa k ca).ownBlock = some q → w7.heap.size ≤ q ∧ q < w8.heap.size := fun q e => ⟨(OA13.out.block q e).1, (OA8.out.block q e).2⟩
            have hp1 : w2.heap.size < w13.heap.size ∧ (Value.slice Aa k ca).ownBlock ≠ some w2.heap.size := ⟨KP13.out.lt, fun e => by have := hna _ e; omega⟩
            have ht1 : w2.heap.size + 1 < w13.heap.size ∧ (Value.slice Aa k ca).ownBlock ≠ some (w2.heap.size + 1) := ⟨KT13.out.lt, fun e => by have := hna _ e; omega⟩
            have hb1 : w8.heap.size < w13.heap.size ∧ (Value.slice Aa k ca).ownBlock ≠ some w8.heap.size := ⟨TB13.out.lt, fun e => by have := hna _ e; omega⟩
            have p5 := KP13.out.cell 5
            have t0 := KT13.out.cell 0
            have b0 := TB13.out.cell 0
            have HAl := Lib.hid (impl_isAllowed_GL w2.heap.size _ (k : Int) (World.drew w13) (KP13.out.drewN 1) rfl)
            have hI : KpR (.slice Aa k ca) w13 (World.drew w13) := KpR.of (Below.refl _ _).drew
            refine wp_region_sched (KpR (.slice Aa k ca) w13) 10 [0, 1, 2, 3, 4, 5, 6] [0, 1, 2, 3, 4, 5, 6, 7, 8, 9] (by kernel_rfl) (by kernel_rfl) hI ?_
            repeat
              apply wpSched_q rfl rfl
              case h =>
                intro w' hI K hK
                have p5' := (hI.cell (p := ⟨w2.heap.size, 5, none⟩) hp1).trans p5
                have t0' := (hI.cell (p := ⟨w2.heap.size + 1, 0, none⟩) ht1).trans t0
                have b0' := (hI.cell (p := ⟨w8.heap.size, 0, none⟩) hb1).trans b0
                simp only [quietV, stillV]
                go_simp
                exact hK
              go_simp
            refine wpSched_r rfl rfl ?_ hI
            intro K hK _
            go_simp
            refine HAl.out.mono ?_
            rintro e w14 ⟨rfl, hb14⟩
            have B1314 : Below w13.heap.size w13 w14 := (Below.refl _ _).drew.trans hb14
            refine hK _ _ (KpR.of B1314) ?_
            clear hK K hb14
            refine wpSched_r rfl rfl ?_ (KpR.of B1314)
            intro K hK _
            go_simp
            refine hK _ _ ((KpR.of B1314).alloc _) ?_
            clear hK K
            refine wpSched_r rfl rfl ?_ ((KpR.of B1314).alloc _)
            intro K hK _
            refine step_oneS (K := cB) w14 ty_bool12 rfl _ _ rfl (B := w7.heap.size) (v := .slice Aa k ca) (xs := List.replicate k true) (by simp [Act.eval, Act.put]; done) (OA13.out.below B1314) true rfl (by simp [Act.eval, Act.put]; done) (by rw [List.length_replicate]; omega) (by have := B1314.size; have := KK13.out.size; omega) ?_
            intro v15 w15 ho hg1 hb1' hat1
            have hk15 : KpR (.slice Aa k ca) w13 w15 := ((KpR.of B1314).alloc _).grown hg1
            have OR15 := Lib.hid (((OR13.out.below B1314).alloc (.cells #[.bool true] 4)).kept hg1 (by
              cases hv : (Value.slice A12 (k + 1) c12).ownBlock with
              | none => exact .inl rfl
              | some q => exact .inr fun e => AP12.out q hv e.symm))
            have AP15 : Hid (∀ q, (Value.slice A12 (k + 1) c12).ownBlock = some q → v15.ownBlock ≠ some q) := Lib.hid fun q e e2 => by
              rcases hat1 with h | h
              · exact AP12.out q e (h ▸ e2)
              · rw [h] at e2
                injection e2 with e2
                have h1 := (OR13.out.block q e).2
                have h2 := B1314.size
                omega
            obtain ⟨A15, c15, e15⟩ := ho.opn
            rw [List.length_append, List.length_replicate, List.length_singleton] at e15
            subst e15
            have KP15 := Lib.hid (KP13.out.kps hk15 (fun e => hp1.2 e))
            have KK15 := Lib.hid (KK13.out.new hk15 fun q e => (hna q e).1)
            have OA15 : Hid (Ow cB 4 w7.heap.size w15 (.slice A15 (k + 1) c15) (List.replicate (k + 1) true)) := Lib.hid (by rw [List.replicate_succ']; exact ho)
            refine hK _ _ hk15 ?_
            clear hK K ho hg1 hb1' hat1 hk15 hI p5 t0 b0 hp1 ht1 hb1 B1314 hna
            refine wpSched_nil ?_
            try simp only [List.drop_succ_cons, List.drop_zero]
            have p4 := KP15.out.cell 5
            have pf := KP15.out.frozen 5
            have p1 := KP15.out.lt
            go_wp2
            have KP16 := Lib.hid (KP15.out.set_ 5 (.slice A15 (k + 1) c15))
            have OR16 := Lib.hid (OR15.out.setBelow (p := ⟨w2.heap.size, 5, none⟩) (by show w2.heap.size < w7.heap.size; omega) (.slice A15 (k + 1) c15))
            have OA16 := Lib.hid (OA15.out.setBelow (p := ⟨w2.heap.size, 5, none⟩) (by show w2.heap.size < w7.heap.size; omega) (.slice A15 (k + 1) c15))
            have KK16 := Lib.hid (KK15.out.set (p := ⟨w2.heap.size, 5, none⟩) rfl (.slice A15 (k + 1) c15))
            clear p4 pf p1
            go_roundw
            case rel => exact ⟨k + 1, _, _, by omega, by go_num, KP16.out, OR16.out, OA16.out, AP15.out, KK16.out⟩
            case measure => simp [intOf]; omega
          · skip
            repeat
              apply wpSched_q rfl rfl
              case h =>
                intro w' hI K hK
                simp only [quietV, stillV]
                go_simp
                exact hK
              go_simp
            refine wpSched_r rfl rfl ?_ (KpR.of B910)
            intro K hK _
            split
            · rename_i h9
              exact absurd h9 Bool.false_ne_true
            refine hK _ _ (KpR.of B910) ?_
            clear hK K
            repeat
              apply wpSched_q rfl rfl
              case h =>
                intro w' hI K hK
                simp only [quietV, stillV]
                go_simp
                exact hK
              go_simp
            refine wpSched_r rfl rfl ?_ (KpR.of B910)
            intro K hK _
            go_simp
            refine hK _ _ ((KpR.of B910).alloc _) ?_
            clear hK K
            refine wpSched_r rfl rfl ?_ ((KpR.of B910).alloc _)
            intro K hK _
            refine step_oneS (K := cB) w10 ty_bool12 rfl _ _ rfl (B := w7.heap.size) (v := .slice Ar k cr) (xs := rfK P fs gs k) (by simp [Act.eval, Act.put]; done) (OR9.out.below B910) (false) rfl (by simp [Act.eval, Act.put]; done) (by rw [rfK_length]; omega) (by have := B910.size; have := KK9.out.size; omega) ?_
            intro v12 w12 ho hg1 hb1 hat1
            have hk12 : KpR (.slice Ar k cr) w9 w12 := ((KpR.of B910).alloc _).grown hg1
            have OA12 := Lib.hid (((OA9.out.below B910).alloc (.cells #[.bool (false)] 4)).kept hg1 (by
              cases hv : (Value.slice Aa k ca).ownBlock with
              | none => exact .inl rfl
              | some q => exact .inr fun e => AP8.out q e.symm hv))
            have AP12 : Hid (∀ q, v12.ownBlock = some q → (Value.slice Aa k ca).ownBlock ≠ some q) := Lib.hid fun q e e2 => by
              rcases hat1 with h | h
              · exact AP8.out q (h ▸ e) e2
              · rw [h] at e
                injection e with e
                have h1 := (OA9.out.block q e2).2
                have h2 := B910.size
                omega
            obtain ⟨A12, c12, e12⟩ := ho.opn
            rw [List.length_append, rfK_length, List.length_singleton] at e12
            subst e12
            have KP12 := Lib.hid (KP9.out.kps hk12 (fun e => hp1.2 e))
            have KT12 := Lib.hid (KT9.out.kps hk12 (fun e => ht1.2 e))
            have TB12 := Lib.hid (HTB.out.kps hk12 (fun e => by have h1 := (OR8.out.block _ e).2; omega))
            have KK12 := Lib.hid (KK9.out.new hk12 fun q e => (OR9.out.block q e).1)
            have OR12 : Hid (Ow cB 4 w7.heap.size w12 (.slice A12 (k + 1) c12) (rfK P fs gs (k + 1))) := Lib.hid (by rw [HRS.out, HRF.out]; exact ho)
            refine hK _ _ hk12 ?_
            clear hK K ho hg1 hb1 hat1 hk12 hI p4 t0 hp1 ht1 B910
            refine wpSched_nil ?_
            try simp only [List.drop_succ_cons, List.drop_zero]
            have p4 := KP12.out.cell 4
            have pf := KP12.out.frozen 4
            have p1 := KP12.out.lt
            go_upto_region 20 with fail
            have KP13 := Lib.hid (KP12.out.set_ 4 (.slice A12 (k + 1) c12))
            have KT13 := Lib.hid (KT12.out.far (p := ⟨w2.heap.size, 4, none⟩) (by show w2.heap.size + 1 ≠ w2.heap.size; omega) (.slice A12 (k + 1) c12))
            have TB13 := Lib.hid (TB12.out.far (p := ⟨w2.heap.size, 4, none⟩) (by show w8.heap.size ≠ w2.heap.size; omega) (.slice A12 (k + 1) c12))
            have OR13 := Lib.hid (OR12.out.setBelow (p := ⟨w2.heap.size, 4, none⟩) (by show w2.heap.size < w7.heap.size; omega) (.slice A12 (k + 1) c12))
            have OA13 := Lib.hid (OA12.out.setBelow (p := ⟨w2.heap.size, 4, none⟩) (by show w2.heap.size < w7.heap.size; omega) (.slice A12 (k + 1) c12))
            have KK13 := Lib.hid (KK12.out.set (p := ⟨w2.heap.size, 4, none⟩) rfl (.slice A12 (k + 1) c12))
            clear p4 pf p1 KP12 KT12 TB12 OR12 OA12 KK12
            generalize World.setCell w12 _ _ = w13 at *
            have hna : ∀ q, (Value.slice Aa k ca).ownBlock = some q → w7.heap.size ≤ q ∧ q < w8.heap.size := fun q e => ⟨(OA13.out.block q e).1, (OA8.out.block q e).2⟩
            have hp1 : w2.heap.size < w13.heap.size ∧ (Value.slice Aa k ca).ownBlock ≠ some w2.heap.size := ⟨KP13.out.lt, fun e => by have := hna _ e; omega⟩
            have ht1 : w2.heap.size + 1 < w13.heap.size ∧ (Value.slice Aa k ca).ownBlock ≠ some (w2.heap.size + 1) := ⟨KT13.out.lt, fun e => by have := hna _ e; omega⟩
            have hb1 : w8.heap.size < w13.heap.size ∧ (Value.slice Aa k ca).ownBlock ≠ some w8.heap.size := ⟨TB13.out.lt, fun e => by have := hna _ e; omega⟩
            have p5 := KP13.out.cell 5
            have t0 := KT13.out.cell 0
            have b0 := TB13.out.cell 0
            have HAl := Lib.hid (impl_isAllowed_GL w2.heap.size _ (k : Int) (World.drew w13) (KP13.out.drewN 1) rfl)
            have hI : KpR (.slice Aa k ca) w13 (World.drew w13) := KpR.of (Below.refl _ _).drew
            refine wp_region_sched (KpR (.slice Aa k ca) w13) 10 [0, 1, 2, 3, 4, 5, 6] [0, 1, 2, 3, 4, 5, 6, 7, 8, 9] (by kernel_rfl) (by kernel_rfl) hI ?_
            repeat
              apply wpSched_q rfl rfl
              case h =>
                intro w' hI K hK
                have p5' := (hI.cell (p := ⟨w2.heap.size, 5, none⟩) hp1).trans p5
                have t0' := (hI.cell (p := ⟨w2.heap.size + 1, 0, none⟩) ht1).trans t0
                have b0' := (hI.cell (p := ⟨w8.heap.size, 0, none⟩) hb1).trans b0
                simp only [quietV, stillV]
                go_simp
                exact hK
              go_simp
            refine wpSched_r rfl rfl ?_ hI
            intro K hK _
            go_simp
            refine HAl.out.mono ?_
            rintro e w14 ⟨rfl, hb14⟩
            have B1314 : Below w13.heap.size w13 w14 := (Below.refl _ _).drew.trans hb14
            refine hK _ _ (KpR.of B1314) ?_
            clear hK K hb14
            refine wpSched_r rfl rfl ?_ (KpR.of B1314)
            intro K hK _
            go_simp
            refine hK _ _ ((KpR.of B1314).alloc _) ?_
            clear hK K
            refine wpSched_r rfl rfl ?_ ((KpR.of B1314).alloc _)
            intro K hK _
            refine step_oneS (K := cB) w14 ty_bool12 rfl _ _ rfl (B := w7.heap.size) (v := .slice Aa k ca) (xs := List.replicate k true) (by simp [Act.eval, Act.put]; done) (OA13.out.below B1314) true rfl (by simp [Act.eval, Act.put]; done) (by rw [List.length_replicate]; omega) (by have := B1314.size; have := KK13.out.size; omega) ?_
            intro v15 w15 ho hg1 hb1' hat1
            have hk15 : KpR (.slice Aa k ca) w13 w15 := ((KpR.of B1314).alloc _).grown hg1
            have OR15 := Lib.hid (((OR13.out.below B1314).alloc (.cells #[.bool true] 4)).kept hg1 (by
              cases hv : (Value.slice A12 (k + 1) c12).ownBlock with
              | none => exact .inl rfl
              | some q => exact .inr fun e => AP12.out q hv e.symm))
            have AP15 : Hid (∀ q, (Value.slice A12 (k + 1) c12).ownBlock = some q → v15.ownBlock ≠ some q) := Lib.hid fun q e e2 => by
              rcases hat1 with h | h
              · exact AP12.out q e (h ▸ e2)
              · rw [h] at e2
                injection e2 with e2
                have h1 := (OR13.out.block q e).2
                have h2 := B1314.size
                omega
            obtain ⟨A15, c15, e15⟩ := ho.opn
            rw [List.length_append, List.length_replicate, List.length_singleton] at e15
            subst e15
            have KP15 := Lib.hid (KP13.out.kps hk15 (fun e => hp1.2 e))
            have KK15 := Lib.hid (KK13.out.new hk15 fun q e => (hna q e).1)
            have OA15 : Hid (Ow cB 4 w7.heap.size w15 (.slice A15 (k + 1) c15) (List.replicate (k + 1) true)) := Lib.hid (by rw [List.replicate_succ']; exact ho)
            refine hK _ _ hk15 ?_
            clear hK K ho hg1 hb1' hat1 hk15 hI p5 t0 b0 hp1 ht1 hb1 B1314 hna
            refine wpSched_nil ?_
            try simp only [List.drop_succ_cons, List.drop_zero]
            have p4 := KP15.out.cell 5
            have pf := KP15.out.frozen 5
            have p1 := KP15.out.lt
            go_wp2
            have KP16 := Lib.hid (KP15.out.set_ 5 (.slice A15 (k + 1) c15))
            have OR16 := Lib.hid (OR15.out.setBelow (p := ⟨w2.heap.size, 5, none⟩) (by show w2.heap.size < w7.heap.size; omega) (.slice A15 (k + 1) c15))
            have OA16 := Lib.hid (OA15.out.setBelow (p := ⟨w2.heap.size, 5, none⟩) (by show w2.heap.size < w7.heap.size; omega) (.slice A15 (k + 1) c15))
            have KK16 := Lib.hid (KK15.out.set (p := ⟨w2.heap.size, 5, none⟩) rfl (.slice A15 (k + 1) c15))
            clear p4 pf p1
            go_roundw
            case rel => exact ⟨k + 1, _, _, by omega, by go_num, KP16.out, OR16.out, OA16.out, AP15.out, KK16.out⟩
            case measure => simp [intOf]; omega
        · obtain rfl : N = k := by omega
          have hN0 : 0 < N := by rw [HNP.out]; exact Nat.pow_pos (by decide)
          obtain ⟨ga, ca', ea, hga1, hga2, -⟩ := OA8.out.form (by rw [List.length_replicate]; exact hN0)
          rw [List.length_replicate] at ea
          injection ea with ea1 ea2 ea3
          subst ea1
          have hz78 := KK8.out.size
          have hzb := BB7.out.size
          have ht7 := KT7.out.lt
          have HLM : Hid (ln = (mdx P).length) := Lib.hid HLN.out.symm
          have hTE : TyE P N w2.heap.size ga (List.replicate N true) (rfK P fs gs N) w8 := by
            have hK8 := KP8.out
            have hN8 : RdS (ndS P) (fun q => q = ga) w8 (.slice An ln cn) (mdx P) := (N7.out.kps (KK8.out.mono fun q h => .inl h)).less fun q h => .inr (by omega)
            rw [HLM.out] at hK8 hN8
            exact ⟨Ap, An, Ar, cp, cn, cr, ca, w7.heap.size, hK8, hN8, OR8.out.sl, fun q e h => AP8.out q e (by rw [h]; rfl), OA8.out, List.length_replicate .., rfK_length .., by omega⟩
          have HEl2 := Lib.hid (HEM.out HIA.out _ _ _ _ hTE)
          have KT8 := Lib.hid (KT7.out.kps KK8.out (by omega))
          have BB8 := Lib.hid (BB7.out.trans (KK8.out.toBelow hzb fun q hq e => by omega))
          have t0 := KT8.out.cell 0
          have t1 := KT8.out.lt
          clear hTE hkl
          go_wp2_with fail
          refine HEl2.out.mono ?_
          rintro e w9 ⟨rfl, al', hTE, hal, hks⟩
          have KT9 := Lib.hid (KT8.out.kps hks (by omega))
          have BB9 := Lib.hid (BB8.out.trans (hks.toBelow BB8.out.size fun q hq e => by omega))
          have HTE := Lib.hid hTE
          have HAL := Lib.hid hal
          clear t0 t1 hTE hal hks
          have t0 := KT9.out.cell 0
          have t1 := KT9.out.lt
          go_wp2
          go_ret
          exact ⟨_, ga, al', rfl, HTE.out, HAL.out, bthen B2.out BB9.out⟩
end Go.Proofs.YtgcoohlakcncbaaGreat
