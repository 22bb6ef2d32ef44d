/- Contracts of chapter 33, of the program: the built fixed point. -/
import Derived.Test.YtgcoohlakcncbaaGreat33s
namespace Go.Proofs.YtgcoohlakcncbaaGreat
open Go.RowKit
set_option linter.unusedVariables false
set_option linter.unusedSimpArgs false
/-- what the built fixed point is told by -/
def BOut (w : World) (u : Value) (b : Bool) : Option Fm → Prop
  | none => b = false
  | some d => b = true ∧ Sl cN w u (enc d)
theorem imsTo_none {s : Nat} {cap : Bool} {O : List Fm} {b : Nat → Option Fm} {k : Nat} (h : imsTo s cap O b k = none) : ∀ {m : Nat}, k ≤ m → imsTo s cap O b m = none
  | 0, hm => by obtain rfl : k = 0 := by omega
                exact h
  | m + 1, hm => by
    by_cases hk : k = m + 1
    · rw [← hk]; exact h
    · rw [imsTo, imsTo_none h (m := m) (by omega)]
set_option maxRecDepth 100000 in
theorem impl_built_leaf (s : Nat) (hs : s ≤ 5) (f : Fm) (v : Value) (w : World) (hok : f.ok = true) (hl : (enc f).length ≤ 100) (h : Sl cN w v (enc f)) (hc : 40 < (enc f).length ∨ f.occ s = false) :
    Calls Tryz.prog 101 #[v, .int .i64 s] w fun e w' => e = .returned (.tuple #[v, .bool (decide ((enc f).length ≤ 40))]) ∧ Below w.heap.size w w' := by
  have hnd := enc_nodes f hok
  have hoc : (vmask (enc f)).testBit s = f.occ s := by rw [← occ_bit (enc f) s hnd, occ_enc]
  have hvm := vmask_lt (enc f) hnd
  have HM := Lib.hid (impl_variableMask v (enc f) w h (by omega) hnd)
  have HH := Lib.hid (fun W1 => impl_has (vmask (enc f)) s W1 (by omega) (by omega))
  rw [hoc] at HH
  clear hnd hoc
  obtain ⟨A, c, rfl⟩ := h.opn
  clear h
  by_cases h40 : 40 < (enc f).length
  · have HD : Hid (decide ((enc f).length ≤ 40) = false) := Lib.hid (decide_eq_false (by omega))
    rw [HD.out]
    clear HM HH hc HD
    generalize (enc f).length = L at *
    have h1 : (40 : Int) < (L : Int) := by omega
    have h2 : ¬ (L : Int) ≤ 40 := by omega
    have h3 : ¬ L ≤ 40 := by omega
    go_enter Tryz.func101, Tryz.ntmps101
    go_wp2
    go_ret2
    exact ⟨rfl, Below.refl _ _⟩
  · have ho : f.occ s = false := hc.elim (fun h => absurd h h40) id
    rw [ho] at HH
    have HD : Hid (decide ((enc f).length ≤ 40) = true) := Lib.hid (decide_eq_true (by omega))
    rw [HD.out]
    clear hc HD
    generalize (enc f).length = L at *
    have h1 : ¬ (40 : Int) < (L : Int) := by omega
    have h2 : (L : Int) ≤ 40 := by omega
    go_enter Tryz.func101, Tryz.ntmps101
    go_wp2_with fail
    refine HM.out.mono ?_
    rintro e w1 ⟨rfl, hb⟩
    have HB := Lib.hid hb
    clear hb
    go_wp2_with fail
    refine (HH.out _).mono ?_
    rintro e w2 ⟨rfl, rfl⟩
    go_wp2
    go_ret2
    exact ⟨rfl, HB.out⟩
theorem bldI_len {s n : Nat} {f d : Fm} (h : bldI s n f = some d) : (enc d).length ≤ 40 := by
  cases n with
  | zero =>
    rw [bldI] at h
    split at h
    · cases h
    · obtain rfl := Option.some.inj h; omega
  | succ n =>
    rw [bldI] at h
    split at h
    · cases h
    · split at h
      · obtain rfl := Option.some.inj h; omega
      · split at h
        · cases h
        · split at h
          · cases h
          · obtain rfl := Option.some.inj h; omega
theorem bldI_ok {s : Nat} : ∀ {n : Nat} {f d : Fm}, f.ok = true → bldI s n f = some d → d.ok = true
  | 0, f, d, hf, h => by
    rw [bldI] at h
    split at h
    · cases h
    · obtain rfl := Option.some.inj h; exact hf
  | n + 1, f, d, hf, h => by
    rw [bldI] at h
    split at h
    · cases h
    · split at h
      · obtain rfl := Option.some.inj h; exact hf
      · split at h
        · cases h
        · rename_i I hI
          split at h
          · cases h
          · obtain rfl := Option.some.inj h
            refine repO_ok hf fun g hg => ?_
            obtain ⟨-, e2⟩ := imsTo_form hI
            obtain ⟨d, h3, h4⟩ := e2 _ (ix_outs hg)
            unfold ims
            rw [h4]
            exact sub_ok (occs_ok hf _ (outs_mem (getF_mem (ix_outs hg)))) (bldI_ok (wto_ok hf (occs_ok hf) _) h3)
/-- what the recursion gives -/
def BuiltOK (s n : Nat) : Prop := ∀ (f : Fm) (v : Value) (w : World), (outs s f []).length ≤ n → gd f s = true → f.ok = true → (enc f).length + (occs s f).length ≤ 80 → Sl cN w v (enc f) →
    Calls Tryz.prog 101 #[v, .int .i64 s] w fun e w' => ∃ u b, e = .returned (.tuple #[u, .bool b]) ∧ BOut w' u b (bldI s n f) ∧ Below w.heap.size w w'
theorem BOut.below {w w' : World} {u : Value} {b : Bool} {r : Option Fm} (h : BOut w u b r) (hb : Below w.heap.size w w') : BOut w' u b r := by
  cases r with
  | none => exact h
  | some d => exact ⟨h.1, h.2.below hb⟩
theorem outs_len {s : Nat} {f x : Fm} (h : x ∈ outs s f []) : 2 ≤ (enc x).length ∧ (enc x).length ≤ (enc f).length := occs_len (outs_mem h)
theorem set_mem {O : List Fm} {i : Nat} {c x : Fm} (h : x ∈ O.set i c) : x ∈ O ∨ x = c := List.mem_or_eq_of_mem_set h
set_option maxHeartbeats 2000000 in
set_option maxRecDepth 100000 in
theorem impl_built_step (s n : Nat) (hs5 : s ≤ 5) (ih : BuiltOK s n) (f : Fm) (v : Value) (w : World) (hn : (outs s f []).length ≤ n + 1) (hg : gd f s = true) (hok : f.ok = true) (hz : (enc f).length + (occs s f).length ≤ 80) (h : Sl cN w v (enc f)) (h40 : (enc f).length ≤ 40) (hoc1 : f.occ s = true) :
    Calls Tryz.prog 101 #[v, .int .i64 s] w fun e w' => ∃ u b, e = .returned (.tuple #[u, .bool b]) ∧ BOut w' u b (bldI s (n + 1) f) ∧ Below w.heap.size w w' := by
  have hnd := enc_nodes f hok
  have hoc : (vmask (enc f)).testBit s = f.occ s := by rw [← occ_bit (enc f) s hnd, occ_enc]
  have hvm := vmask_lt (enc f) hnd
  have HM := Lib.hid (impl_variableMask v (enc f) w h (by omega) hnd)
  have HH := Lib.hid (fun W1 => impl_has (vmask (enc f)) s W1 (by omega) (by omega))
  rw [hoc, hoc1] at HH
  have HOP := Lib.hid (fun W1 (hb : Below w.heap.size w W1) => impl_outerParts f s v W1 (h.below hb) hok (by omega) hs5)
  have HOM := Lib.hid (fun x (hx : x ∈ outs s f []) => outs_len hx)
  have HIX := Lib.hid (fun g (hg : g ∈ occs s f) => ix_outs hg)
  have HREP := Lib.hid (fun (W1 : World) (hb : Below w.heap.size w W1) (I : List Fm) (Ai Ao : Option Addr) (ci co : Nat) (sO : Sl2 cN W1 (.slice Ao (outs s f []).length co) ((outs s f []).map enc)) (sI : Sl2 cN W1 (.slice Ai I.length ci) (I.map enc)) (hIO : I.length = (outs s f []).length) (hlI : ∀ x ∈ I, (enc x).length ≤ 8192) =>
    impl_replaceOuter f s (outs s f []) I Ai Ao ci co v W1 (h.below hb) hok (by omega) hs5 sO sI hIO (fun g hg => ix_outs hg) (by have := outs_length s f; omega) (fun x hx => by have := (outs_len hx).2; omega) hlI)
  have HIH := Lib.hid (fun (j : Nat) (hj : j < (outs s f []).length) (v1 : Value) (W1 : World) (h1 : Sl cN W1 v1 (enc (wto s f j))) => ih (wto s f j) v1 W1 (by have := wto_outs hj; omega) (wto_gd hg j) (wto_ok hok (occs_ok hok) j) (Nat.le_trans (wto_size s f j) hz) h1)
  have HUN := Lib.hid (fun (j : Nat) (hj : j < (outs s f []).length) => occs_mem (outs_mem (getF_mem hj)))
  have HOK := Lib.hid (fun (j : Nat) (hj : j < (outs s f []).length) => occs_ok hok _ (outs_mem (getF_mem hj)))
  have HBL : Hid (bldI s (n + 1) f = match imsTo s true (outs s f []) (fun i => bldI s n (wto s f i)) (outs s f []).length with
    | none => none
    | some I => if 40 < (enc (repO s (ims (outs s f []) I) f)).length then none else some (repO s (ims (outs s f []) I) f)) := Lib.hid (by rw [bldI, if_neg (by omega), if_neg (by rw [hoc1]; decide)]; rfl)
  have HW : Hid (∀ j, wto s f j = repO s (ims (outs s f []) ((outs s f []).set j (cst1 ((outs s f []).getD j .fls)))) f) := Lib.hid fun j => rfl
  have hO100 : (outs s f []).length ≤ 80 := by have := outs_length s f; omega
  have HIT : Hid (∀ j, imsTo s true (outs s f []) (fun i => bldI s n (wto s f i)) (j + 1) = match imsTo s true (outs s f []) (fun i => bldI s n (wto s f i)) j with
    | none => none
    | some l => match bldI s n (wto s f j) with
      | none => none
      | some d => if true && decide (40 < (enc (((outs s f []).getD j .fls).sub s d)).length) then none else some (l ++ [((outs s f []).getD j .fls).sub s d])) := Lib.hid fun j => rfl
  have HDOK := Lib.hid (fun (j : Nat) (hj : j < (outs s f []).length) d (hd : bldI s n (wto s f j) = some d) => bldI_ok (wto_ok hok (occs_ok hok) j) hd)
  have HS5 := Lib.hid hs5
  have HE40 := Lib.hid h40
  clear hnd hoc ih hn hg hok hz hoc1 hs5
  obtain ⟨A, c, rfl⟩ := h.opn
  clear h
  generalize outs s f [] = O at *
  generalize hLL : (enc f).length = L at *
  have HLL := Lib.hid hLL
  clear hLL
  have h1 : ¬ (40 : Int) < (L : Int) := by omega
  have HB0 : Hid (Below w.heap.size w w) := Lib.hid (Below.refl _ _)
  go_enter Tryz.func101, Tryz.ntmps101
  go_wp2_with fail
  refine HM.out.mono ?_
  rintro e w1 ⟨rfl, hb1⟩
  have HB1 := Lib.hid hb1
  clear hb1
  go_wp2_with fail
  refine (HH.out _).mono ?_
  rintro e w2 ⟨rfl, rfl⟩
  go_wp2_with fail
  refine (HOP.out _ HB1.out).mono ?_
  rintro e w2 ⟨uo, hs, rfl, ho, hH, hb⟩
  have HB2 := Lib.hid (bthen HB1.out hb)
  obtain ⟨Ao, co, rfl⟩ := ho.opn
  have HHs := Lib.hid (hH.below hb)
  have HN : Hid (hs.length = O.length) := Lib.hid hH.1
  rw [HN.out] at ho ⊢
  have HO := Lib.hid ho
  clear hH ho hb HM HH HOP h1
  go_wp2
  go_loopw [7, 34] (fun iv i wr => ∃ j : Nat, j ≤ O.length ∧ i = .int .i64 j ∧ ∃ I : List Fm, imsTo s true O (fun i => bldI s n (wto s f i)) j = some I ∧ (∀ x ∈ I, (enc x).length ≤ 40) ∧ Ow2 w2.heap.size wr iv (I.map enc) ∧ Below w2.heap.size w2 wr) (fun _ i _ => O.length - (intOf i).toNat)
  case atStart => exact ⟨0, Nat.zero_le _, rfl, [], rfl, by simp, Ow2.nil _ _, Below.refl _ _⟩
  case round =>
    obtain ⟨j, hj, rfl, I, hI, hI40, hOI, hbr⟩ := hrel
    have HI := Lib.hid hI
    have HI40 := Lib.hid hI40
    have HOI := Lib.hid hOI
    have HBr := Lib.hid hbr
    have HIL : Hid (I.length = j) := Lib.hid (imsTo_form hI).1
    have hOr := HO.out.below hbr
    have HHr := Lib.hid (HHs.out.below hbr)
    clear hI hI40 hOI hbr
    by_cases hlt : j < O.length
    · have hlt' : j < hs.length := by rw [HN.out]; exact hlt
      obtain ⟨b, o, rfl, hbl, d0⟩ := (show Sl cH wr (.slice Ao hs.length co) hs by rw [HN.out]; exact hOr.sl).atHd hlt'
      have HOr := Lib.hid hOr
      have HJ := Lib.hid hlt
      have HSm : Hid (Sl cN wr (.slice hs[j].a hs[j].n hs[j].c) (enc (O.getD j .fls))) := Lib.hid (by
        have := HHr.out.2 j hlt' hlt
        rw [List.getD_eq_getElem?_getD, List.getElem?_eq_getElem hlt]
        exact this)
      have HCl := Lib.hid (slices_Clone_nodes (.slice (some ⟨b, o, none⟩) O.length co) hs wr hOr.sl (by rw [HN.out]; omega))
      generalize hs[j].a = ma at *
      generalize hs[j].n = mn at *
      generalize hs[j].c = mc at *
      clear hOr hlt'
      go_wp2_with fail
      refine HCl.out.mono ?_
      rintro e w3 ⟨u1, rfl, ho1, hb⟩
      have HB3 := Lib.hid hb
      obtain ⟨g1, c1, hu1, hg1, hg1w, -, -⟩ := ho1.form (by rw [HN.out]; omega)
      subst hu1
      have HO1 := Lib.hid ho1
      have HG1 := Lib.hid hg1
      clear ho1 hb hg1 hg1w d0 HCl
      rw [HN.out] at HO1 ⊢
      go_wp2_with fail
      refine (impl_falsum _).mono ?_
      rintro e w4 ⟨uf, rfl, hf, hb⟩
      have HB4 := Lib.hid (bthen HB3.out hb)
      obtain ⟨Af, cf, rfl⟩ := hf.opn
      have ho4 := HO1.out.below hb
      have hsep : ∀ k, (Value.slice Af 1 cf).ownBlock = some k → w3.heap.size ≤ k := fun k hk => (hf.block k hk).1
      have hg3 := (HO1.out.block g1 rfl).2
      obtain ⟨q1, q2, -, q4⟩ := ho4.at1 (j := j) rfl (by rw [HN.out]; exact hlt) rfl
      have ho5 := ho4.set1 (j := j) (x := ⟨Af, 1, cf⟩) (u := .slice Af 1 cf) rfl rfl (by rw [HN.out]; exact hlt)
      have hf5 : Sl cN (w4.setCell ⟨g1, j, none⟩ (.slice Af 1 cf)) (.slice Af 1 cf) [(1, 0)] := (hf.far (p := ⟨g1, j, none⟩) (fun h => by have := hsep g1 h; omega) _).sl
      have hb5 : Below wr.heap.size wr (w4.setCell ⟨g1, j, none⟩ (.slice Af 1 cf)) := HB4.out.setCell HG1.out _
      have HO5 := Lib.hid ho5
      have HF5 := Lib.hid hf5
      have HB5 := Lib.hid hb5
      have HSm5 := Lib.hid (HSm.out.below hb5)
      clear hf hb ho4 hsep hg3 ho5 hf5 hb5
      go_upto_region 10 with fail
      generalize World.setCell w4 _ _ = w5 at *
      clear q1 q2 q4 hbl
      obtain ⟨k, a, hun, hao⟩ := HUN.out j hlt
      have hm := HSm5.out
      rw [hun, enc_un] at hm
      obtain ⟨mA, mC, hmv⟩ := hm.opn
      injection hmv with e1 e2 e3
      subst e1 e3
      obtain ⟨bm, om, rfl, hbm, hm0, hm1⟩ := hm.atN0
      simp only at hm0
      have hmn : 0 < mn := by rw [e2]; simp
      clear hm hm1 e2
      have HUN2 := Lib.hid hun
      have HAO := Lib.hid hao
      clear hao
      have hcl : j < (hs.set j ⟨Af, 1, cf⟩).length := by rw [List.length_set, HN.out]; exact hlt
      cases k
      case' box =>
        have HC1 : Hid (cst1 (O.getD j .fls) = truF) := Lib.hid (by rw [hun]; rfl)
        clear hun
        simp only [UK.i] at hm0
        go_wp2_with fail
        refine (impl_truth _).mono ?_
        rintro e w6 ⟨ut, rfl, ht, hb⟩
        obtain ⟨At, ct, rfl⟩ := ht.opn
        have ho6 := HO5.out.below hb
        have hsep : ∀ k, (Value.slice At 3 ct).ownBlock = some k → w5.heap.size ≤ k := fun k hk => (ht.block k hk).1
        have hg5 := (HO5.out.block g1 rfl).2
        obtain ⟨q0, q2, -, q4⟩ := ho6.at1 (j := j) rfl hcl rfl
        obtain ⟨u0, q1⟩ : ∃ u0, w6.cell? ⟨g1, j, none⟩ = some u0 := ⟨_, q0⟩
        clear q0
        have ho7 := ho6.set1 (j := j) (x := ⟨At, 3, ct⟩) (u := .slice At 3 ct) rfl rfl hcl
        rw [List.set_set] at ho7
        have hb7 : Below wr.heap.size wr (w6.setCell ⟨g1, j, none⟩ (.slice At 3 ct)) := (bthen HB5.out hb).setCell HG1.out _
        have HX7 : Hid (Sl cN (w6.setCell ⟨g1, j, none⟩ (.slice At 3 ct)) (.slice At 3 ct) (enc (cst1 (O.getD j .fls)))) := Lib.hid (by
          rw [HC1.out]
          exact (ht.far (p := ⟨g1, j, none⟩) (fun h => by have := hsep g1 h; omega) _).sl)
        have HO7 := Lib.hid ho7
        have HB7 := Lib.hid hb7
        clear ht hb ho6 hsep hg5 ho7 hb7 hm0 hbm hmn hcl
        go_upto_region 12 with fail
        generalize World.setCell w6 _ _ = w7 at *
        clear q1 q2 q4
        have hbW : Below w.heap.size w w7 := (HB2.out.trans (HBr.out.mono HB2.out.size)).trans (HB7.out.mono (HB2.out.trans (HBr.out.mono HB2.out.size)).size)
        have hbW2 : Below w2.heap.size w2 w7 := HBr.out.trans (HB7.out.mono HBr.out.size)
        have hHw := HHs.out.below hbW2
        have hHset := hHw.set_ (i := j) (x := ⟨At, 3, ct⟩) (g := cst1 (O.getD j .fls)) HX7.out
        have hRun := HREP.out w7 hbW (O.set j (cst1 (O.getD j .fls))) _ _ c1 co (hHw.sl2 (HO.out.below hbW2).sl) (by rw [List.length_set]; exact hHset.sl2 HO7.out.sl) List.length_set (fun x hx => by
          rcases set_mem hx with h | h
          · have := (HOM.out x h).2; omega
          · rw [h]; have := cst1_len (O.getD j .fls); omega)
        rw [List.length_set, ← HW.out j] at hRun
        have HRun := Lib.hid hRun
        have HSmW := Lib.hid (HSm.out.below HB7.out)
        have HBW := Lib.hid HB7.out
        clear hRun hHset hHw hbW hbW2 HX7 HO7 HREP
        go_wp2_with fail
        refine HRun.out.mono ?_
        rintro e w8 ⟨u8, rfl, h8, hb8⟩
        have HB8 := Lib.hid (bthen HBW.out hb8)
        have HS8 := Lib.hid h8
        have HSm8 := Lib.hid (HSmW.out.below hb8)
        clear h8 hb8 HRun
        go_wp2_with fail
        refine (HIH.out j hlt u8 w8 HS8.out).mono ?_
        rintro e w9 ⟨u9, b9, rfl, hB9, hb9⟩
        have HB9 := Lib.hid (bthen HB8.out hb9)
        have HSm9 := Lib.hid (HSm8.out.below hb9)
        have HBw9 : Hid (Below w.heap.size w w9) := Lib.hid ((HB2.out.trans (HBr.out.mono HB2.out.size)).trans (HB9.out.mono (HB2.out.trans (HBr.out.mono HB2.out.size)).size))
        cases hbj : bldI s n (wto s f j) with
        | none =>
          rw [hbj] at hB9
          have hb9f : b9 = false := hB9
          subst hb9f
          have HNO : Hid (bldI s (n + 1) f = none) := Lib.hid (by
            have : imsTo s true O (fun i => bldI s n (wto s f i)) (j + 1) = none := by rw [HIT.out j, HI.out, hbj]
            rw [HBL.out, imsTo_none this HJ.out])
          clear hb9 hB9 hbj
          go_wp2
          go_ret2
          exact ⟨_, false, rfl, by rw [HNO.out]; rfl, HBw9.out⟩
        | some d =>
          rw [hbj] at hB9
          obtain ⟨hb9t, h9⟩ := hB9
          subst hb9t
          have hd40 := bldI_len hbj
          have hdok := HDOK.out j hlt d hbj
          obtain ⟨A9, c9, rfl⟩ := h9.opn
          have hRv := impl_replaceVariable _ _ (enc (O.getD j .fls)) (enc d) s w9 HSm9.out h9 (enc_nodes _ (HOK.out j hlt)) (by have := (HOM.out _ (getF_mem HJ.out)).2; omega) (by omega) HS5.out
          rw [repL_enc _ _ _ HS5.out (HOK.out j hlt)] at hRv
          have HRv := Lib.hid hRv
          have HLB := Lib.hid (sub_le (O.getD j .fls) d s)
          have HBJ := Lib.hid hbj
          have HD40 := Lib.hid hd40
          clear hb9 hbj h9 hRv hd40 hdok
          generalize (enc d).length = ld at *
          go_wp2_with fail
          refine HRv.out.mono ?_
          rintro e w10 ⟨r, rfl, ho10, hb10⟩
          obtain ⟨A10, c10, rfl⟩ := ho10.opn
          have HB10 := Lib.hid (bthen HB9.out hb10)
          have HBw10 : Hid (Below w.heap.size w w10) := Lib.hid (HBw9.out.trans (hb10.mono HBw9.out.size))
          have HO10 := Lib.hid ho10
          clear ho10 hb10 HRv
          by_cases hlong : 40 < (enc ((O.getD j .fls).sub s d)).length
          · have HNO : Hid (bldI s (n + 1) f = none) := Lib.hid (by
              have : imsTo s true O (fun i => bldI s n (wto s f i)) (j + 1) = none := by
                rw [HIT.out j, HI.out, HBJ.out]
                simp only
                rw [if_pos (by simpa using hlong)]
              rw [HBL.out, imsTo_none this HJ.out])
            generalize (enc ((O.getD j .fls).sub s d)).length = lx at *
            have hl2 : (40 : Int) < (lx : Int) := by omega
            go_wp2
            go_ret2
            exact ⟨_, false, rfl, by rw [HNO.out]; rfl, HBw10.out⟩
          · have HYES : Hid (imsTo s true O (fun i => bldI s n (wto s f i)) (j + 1) = some (I ++ [(O.getD j .fls).sub s d])) := Lib.hid (by
              rw [HIT.out j, HI.out, HBJ.out]
              simp only
              rw [if_neg (by simpa using hlong)])
            have hoi := HOI.out.below HB10.out
            obtain ⟨hsI, p1, p2, p3⟩ := hoi.push HO10.out (fun k hk => by
              obtain ⟨hs0, a1, -, -⟩ := HOI.out
              have := (a1.block k hk).2
              have := HB9.out.size
              omega)
            have HP1 := Lib.hid p1
            have HP2 : Hid (hsI.length ≤ 80) := Lib.hid (by rw [p2, List.length_map, HIL.out]; have := HJ.out; omega)
            have HP3 := Lib.hid p3
            have HLX := Lib.hid hlong
            have HWW := Lib.hid (HBr.out.trans (HB10.out.mono HBr.out.size))
            clear hoi p1 p2 p3 hlong
            generalize hlx : (enc ((O.getD j .fls).sub s d)).length = lx at *
            have hl2 : ¬ (40 : Int) < (lx : Int) := by have := HLX.out; omega
            have HLX2 := Lib.hid hlx
            clear hlx
            go_wp2_with (at_builtin; refine stopHere ?_)
            refine goHere ?_
            refine ap_one' (K := cH) _ ty_nodes rfl _ _ rfl (B := w2.heap.size) (xs := hsI) rfl HP1.out ⟨A10, lx, c10⟩ rfl (g := w10.heap.size) (by simp) rfl (by have := HP2.out; omega) HWW.out.size ?_
            intro v1 w11 ho1 hg1 hb1 hat1
            have HO2 : Hid (Ow2 w2.heap.size w11 v1 ((I ++ [(O.getD j .fls).sub s d]).map enc)) := Lib.hid (by
              rw [List.map_append]
              exact HP3.out w11 v1 ho1 hg1 (hat1.imp id fun h => h.trans (by simp)))
            have HW11 : Hid (Below w2.heap.size w2 w11) := Lib.hid (HWW.out.trans hb1)
            have HI41 : Hid (∀ x ∈ I ++ [(O.getD j .fls).sub s d], (enc x).length ≤ 40) := Lib.hid fun x hx => by
              rcases List.mem_append.1 hx with h | h
              · exact HI40.out x h
              · have e : x = (O.getD j .fls).sub s d := by simpa using h
                rw [e, HLX2.out]; have := HLX.out; omega
            clear ho1 hg1 hb1 hat1
            go_wp2
            go_roundw
            case rel => exact ⟨j + 1, by omega, by go_num, _, HYES.out, HI41.out, HO2.out, HW11.out⟩
            case measure => simp [intOf]; omega
      case' dia =>
        have HC1 : Hid (cst1 (O.getD j .fls) = .fls) := Lib.hid (by rw [hun]; rfl)
        clear hun
        simp only [UK.i] at hm0
        have HX7 : Hid (Sl cN w5 (.slice Af 1 cf) (enc (cst1 (O.getD j .fls)))) := Lib.hid (by rw [HC1.out]; exact HF5.out)
        have HO7 := HO5
        have HB7 := HB5
        clear hcl
        go_upto_region 12 with fail
        clear hm0 hbm hmn
        have hbW : Below w.heap.size w w5 := (HB2.out.trans (HBr.out.mono HB2.out.size)).trans (HB7.out.mono (HB2.out.trans (HBr.out.mono HB2.out.size)).size)
        have hbW2 : Below w2.heap.size w2 w5 := HBr.out.trans (HB7.out.mono HBr.out.size)
        have hHw := HHs.out.below hbW2
        have hHset := hHw.set_ (i := j) (x := ⟨Af, 1, cf⟩) (g := cst1 (O.getD j .fls)) HX7.out
        have hRun := HREP.out w5 hbW (O.set j (cst1 (O.getD j .fls))) _ _ c1 co (hHw.sl2 (HO.out.below hbW2).sl) (by rw [List.length_set]; exact hHset.sl2 HO7.out.sl) List.length_set (fun x hx => by
          rcases set_mem hx with h | h
          · have := (HOM.out x h).2; omega
          · rw [h]; have := cst1_len (O.getD j .fls); omega)
        rw [List.length_set, ← HW.out j] at hRun
        have HRun := Lib.hid hRun
        have HSmW := Lib.hid (HSm.out.below HB7.out)
        have HBW := Lib.hid HB7.out
        clear hRun hHset hHw hbW hbW2 HX7 HO7 HREP
        go_wp2_with fail
        refine HRun.out.mono ?_
        rintro e w8 ⟨u8, rfl, h8, hb8⟩
        have HB8 := Lib.hid (bthen HBW.out hb8)
        have HS8 := Lib.hid h8
        have HSm8 := Lib.hid (HSmW.out.below hb8)
        clear h8 hb8 HRun
        go_wp2_with fail
        refine (HIH.out j hlt u8 w8 HS8.out).mono ?_
        rintro e w9 ⟨u9, b9, rfl, hB9, hb9⟩
        have HB9 := Lib.hid (bthen HB8.out hb9)
        have HSm9 := Lib.hid (HSm8.out.below hb9)
        have HBw9 : Hid (Below w.heap.size w w9) := Lib.hid ((HB2.out.trans (HBr.out.mono HB2.out.size)).trans (HB9.out.mono (HB2.out.trans (HBr.out.mono HB2.out.size)).size))
        cases hbj : bldI s n (wto s f j) with
        | none =>
          rw [hbj] at hB9
          have hb9f : b9 = false := hB9
          subst hb9f
          have HNO : Hid (bldI s (n + 1) f = none) := Lib.hid (by
            have : imsTo s true O (fun i => bldI s n (wto s f i)) (j + 1) = none := by rw [HIT.out j, HI.out, hbj]
            rw [HBL.out, imsTo_none this HJ.out])
          clear hb9 hB9 hbj
          go_wp2
          go_ret2
          exact ⟨_, false, rfl, by rw [HNO.out]; rfl, HBw9.out⟩
        | some d =>
          rw [hbj] at hB9
          obtain ⟨hb9t, h9⟩ := hB9
          subst hb9t
          have hd40 := bldI_len hbj
          have hdok := HDOK.out j hlt d hbj
          obtain ⟨A9, c9, rfl⟩ := h9.opn
          have hRv := impl_replaceVariable _ _ (enc (O.getD j .fls)) (enc d) s w9 HSm9.out h9 (enc_nodes _ (HOK.out j hlt)) (by have := (HOM.out _ (getF_mem HJ.out)).2; omega) (by omega) HS5.out
          rw [repL_enc _ _ _ HS5.out (HOK.out j hlt)] at hRv
          have HRv := Lib.hid hRv
          have HLB := Lib.hid (sub_le (O.getD j .fls) d s)
          have HBJ := Lib.hid hbj
          have HD40 := Lib.hid hd40
          clear hb9 hbj h9 hRv hd40 hdok
          generalize (enc d).length = ld at *
          go_wp2_with fail
          refine HRv.out.mono ?_
          rintro e w10 ⟨r, rfl, ho10, hb10⟩
          obtain ⟨A10, c10, rfl⟩ := ho10.opn
          have HB10 := Lib.hid (bthen HB9.out hb10)
          have HBw10 : Hid (Below w.heap.size w w10) := Lib.hid (HBw9.out.trans (hb10.mono HBw9.out.size))
          have HO10 := Lib.hid ho10
          clear ho10 hb10 HRv
          by_cases hlong : 40 < (enc ((O.getD j .fls).sub s d)).length
          · have HNO : Hid (bldI s (n + 1) f = none) := Lib.hid (by
              have : imsTo s true O (fun i => bldI s n (wto s f i)) (j + 1) = none := by
                rw [HIT.out j, HI.out, HBJ.out]
                simp only
                rw [if_pos (by simpa using hlong)]
              rw [HBL.out, imsTo_none this HJ.out])
            generalize (enc ((O.getD j .fls).sub s d)).length = lx at *
            have hl2 : (40 : Int) < (lx : Int) := by omega
            go_wp2
            go_ret2
            exact ⟨_, false, rfl, by rw [HNO.out]; rfl, HBw10.out⟩
          · have HYES : Hid (imsTo s true O (fun i => bldI s n (wto s f i)) (j + 1) = some (I ++ [(O.getD j .fls).sub s d])) := Lib.hid (by
              rw [HIT.out j, HI.out, HBJ.out]
              simp only
              rw [if_neg (by simpa using hlong)])
            have hoi := HOI.out.below HB10.out
            obtain ⟨hsI, p1, p2, p3⟩ := hoi.push HO10.out (fun k hk => by
              obtain ⟨hs0, a1, -, -⟩ := HOI.out
              have := (a1.block k hk).2
              have := HB9.out.size
              omega)
            have HP1 := Lib.hid p1
            have HP2 : Hid (hsI.length ≤ 80) := Lib.hid (by rw [p2, List.length_map, HIL.out]; have := HJ.out; omega)
            have HP3 := Lib.hid p3
            have HLX := Lib.hid hlong
            have HWW := Lib.hid (HBr.out.trans (HB10.out.mono HBr.out.size))
            clear hoi p1 p2 p3 hlong
            generalize hlx : (enc ((O.getD j .fls).sub s d)).length = lx at *
            have hl2 : ¬ (40 : Int) < (lx : Int) := by have := HLX.out; omega
            have HLX2 := Lib.hid hlx
            clear hlx
            go_wp2_with (at_builtin; refine stopHere ?_)
            refine goHere ?_
            refine ap_one' (K := cH) _ ty_nodes rfl _ _ rfl (B := w2.heap.size) (xs := hsI) rfl HP1.out ⟨A10, lx, c10⟩ rfl (g := w10.heap.size) (by simp) rfl (by have := HP2.out; omega) HWW.out.size ?_
            intro v1 w11 ho1 hg1 hb1 hat1
            have HO2 : Hid (Ow2 w2.heap.size w11 v1 ((I ++ [(O.getD j .fls).sub s d]).map enc)) := Lib.hid (by
              rw [List.map_append]
              exact HP3.out w11 v1 ho1 hg1 (hat1.imp id fun h => h.trans (by simp)))
            have HW11 : Hid (Below w2.heap.size w2 w11) := Lib.hid (HWW.out.trans hb1)
            have HI41 : Hid (∀ x ∈ I ++ [(O.getD j .fls).sub s d], (enc x).length ≤ 40) := Lib.hid fun x hx => by
              rcases List.mem_append.1 hx with h | h
              · exact HI40.out x h
              · have e : x = (O.getD j .fls).sub s d := by simpa using h
                rw [e, HLX2.out]; have := HLX.out; omega
            clear ho1 hg1 hb1 hat1
            go_wp2
            go_roundw
            case rel => exact ⟨j + 1, by omega, by go_num, _, HYES.out, HI41.out, HO2.out, HW11.out⟩
            case measure => simp [intOf]; omega
    · obtain rfl : j = O.length := by omega
      have hsl := HOI.out.sl2
      obtain ⟨Ai, ci, hu7⟩ := hsl.opn
      rw [List.length_map] at hu7
      have hRun := fun h => HREP.out wr (HB2.out.trans (HBr.out.mono HB2.out.size)) I Ai _ ci co (HHr.out.sl2 hOr.sl) h HIL.out (fun x hx => by have := HI40.out x hx; omega)
      rw [← hu7] at hRun
      have HRun := Lib.hid (hRun hsl)
      have HBw := Lib.hid (HB2.out.trans (HBr.out.mono HB2.out.size))
      have HBL2 : Hid (bldI s (n + 1) f = if 40 < (enc (repO s (ims O I) f)).length then none else some (repO s (ims O I) f)) := Lib.hid (by rw [HBL.out, HI.out])
      clear hRun hsl hu7 hOr
      go_wp2_with fail
      refine HRun.out.mono ?_
      rintro e w3 ⟨u3, rfl, h3, hb3⟩
      obtain ⟨A3, c3, rfl⟩ := h3.opn
      have HS3 := Lib.hid h3
      have HB3 := Lib.hid (HBw.out.trans (hb3.mono HBw.out.size))
      clear h3 hb3 HRun
      by_cases hlong : 40 < (enc (repO s (ims O I) f)).length
      · rw [if_pos hlong] at HBL2
        generalize (enc (repO s (ims O I) f)).length = lx at *
        have hl2 : ¬ (lx : Int) ≤ 40 := by omega
        have hl3 : ¬ lx ≤ 40 := by omega
        go_wp2
        go_ret2
        refine ⟨_, _, rfl, ?_, HB3.out⟩
        rw [HBL2.out]
        exact decide_eq_false (by omega)
      · rw [if_neg hlong] at HBL2
        generalize (enc (repO s (ims O I) f)).length = lx at *
        have hl2 : (lx : Int) ≤ 40 := by omega
        go_wp2
        go_ret2
        refine ⟨_, _, rfl, ?_, HB3.out⟩
        rw [HBL2.out]
        exact ⟨rfl, HS3.out⟩
theorem impl_built (s : Nat) (hs5 : s ≤ 5) : ∀ n, BuiltOK s n := by
  intro n
  induction n with
  | zero =>
    intro f v w hn hg hok hz h
    have ho : f.occ s = false := by
      cases ho : f.occ s
      · rfl
      · exact absurd (outs_nil.1 (List.length_eq_zero_iff.1 (by omega))) ((gd_occ hg).1 ho)
    refine (impl_built_leaf s hs5 f v w hok (by omega) h (.inr ho)).mono ?_
    rintro e w' ⟨rfl, hb⟩
    refine ⟨_, _, rfl, ?_, hb⟩
    rw [bldI]
    by_cases hl : 40 < (enc f).length
    · rw [if_pos hl]; exact decide_eq_false (by omega)
    · rw [if_neg hl]; exact ⟨decide_eq_true (by omega), h.below hb⟩
  | succ n ih =>
    intro f v w hn hg hok hz h
    by_cases hl : 40 < (enc f).length
    · refine (impl_built_leaf s hs5 f v w hok (by omega) h (.inl hl)).mono ?_
      rintro e w' ⟨rfl, hb⟩
      refine ⟨_, _, rfl, ?_, hb⟩
      rw [bldI, if_pos hl]
      exact decide_eq_false (by omega)
    · cases ho : f.occ s
      · refine (impl_built_leaf s hs5 f v w hok (by omega) h (.inr ho)).mono ?_
        rintro e w' ⟨rfl, hb⟩
        refine ⟨_, _, rfl, ?_, hb⟩
        rw [bldI, if_neg hl, if_pos ho]
        exact ⟨decide_eq_true (by omega), h.below hb⟩
      · exact impl_built_step s n hs5 ih f v w hn hg hok hz h (by omega) ho
end Go.Proofs.YtgcoohlakcncbaaGreat
