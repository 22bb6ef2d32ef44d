/- Contracts of chapter 33, of the reference: the built fixed point. -/
import Derived.Test.YtgcoohlakcncbaaGreatM3
namespace Go.Proofs.YtgcoohlakcncbaaGreat
open Go.RowKit
set_option linter.unusedVariables false
set_option linter.unusedSimpArgs false
/-- what the reference's built fixed point is told by -/
def SOut (B : Nat) (w : World) (u : Value) : Option Fm → Prop
  | none => u = .slice none 0 0
  | some d => Ow cN 82 B w u (enc d)
theorem imsTo_none' {s : Nat} {cap : Bool} {O : List Fm} {b : Nat → Option Fm} {k : Nat} (h : imsTo s cap O b k = none) : ∀ {m : Nat}, k ≤ m → imsTo s cap O b m = none
  | 0, hm => by obtain rfl : k = 0 := by omega
                exact h
  | m + 1, hm => by
    by_cases hk : k = m + 1
    · rw [← hk]; exact h
    · rw [imsTo, imsTo_none' h (m := m) (by omega)]
theorem bldS_len {s : Nat} : ∀ {n : Nat} {f d : Fm}, (enc f).length ≤ 80 → bldS s n f = some d → (enc d).length ≤ 80
  | 0, f, d, hl, h => by
    rw [bldS] at h
    obtain rfl := Option.some.inj h; exact hl
  | n + 1, f, d, hl, h => by
    rw [bldS] at h
    split at h
    · obtain rfl := Option.some.inj h; exact hl
    · split at h
      · cases h
      · split at h
        · cases h
        · obtain rfl := Option.some.inj h; omega
theorem bldS_ok {s : Nat} : ∀ {n : Nat} {f d : Fm}, f.ok = true → bldS s n f = some d → d.ok = true
  | 0, f, d, hf, h => by
    rw [bldS] at h
    obtain rfl := Option.some.inj h; exact hf
  | n + 1, f, d, hf, h => by
    rw [bldS] at h
    split at h
    · obtain rfl := Option.some.inj h; exact hf
    · split at h
      · cases h
      · rename_i I hI
        split at h
        · cases h
        · obtain rfl := Option.some.inj h
          refine repO_ok hf fun g hg => ?_
          obtain ⟨-, e2⟩ := imsTo_form hI
          obtain ⟨d, h3, h4⟩ := e2 _ (ix_outs hg)
          unfold ims
          rw [h4]
          exact sub_ok (occs_ok hf _ (outs_mem (getF_mem (ix_outs hg)))) (bldS_ok (wto_ok hf (occs_ok hf) _) h3)
/-- a slice of a formula lies in a block of the world -/
theorem Sl.blk {w : World} {A : Option Addr} {n c : Nat} {g : Fm} (h : Sl cN w (.slice A n c) (enc g)) : ∃ b, (Value.slice A n c).ownBlock = some b ∧ b < w.heap.size := by
  obtain ⟨b, o, hA, hb, -⟩ := h.cell (k := 0) (enc_pos g)
  subst hA
  exact ⟨b, rfl, hb⟩
/-- one more header, of whatever slice that lies in another block -/
theorem Ow2.pushR {B : Nat} {w : World} {v : Value} {xss : List (List Nd)} {A : Option Addr} {n c : Nat} {xs : List Nd}
    (h : Ow2 B w v xss) (hu : Sl cN w (.slice A n c) xs) (hk : ∀ k, (Value.slice A n c).ownBlock = some k → v.ownBlock ≠ some k ∧ k < w.heap.size) :
    ∃ hs : List Hd, Ow cH 26 B w v hs ∧ hs.length = xss.length ∧
      ∀ w' v', Ow cH 26 B w' v' (hs ++ [⟨A, n, c⟩]) → (w.alloc (.cells #[.slice A n c] 26)).grownBy w' v.ownBlock →
        (v'.ownBlock = v.ownBlock ∨ v'.ownBlock = some (w.alloc (.cells #[.slice A n c] 26)).heap.size) → Ow2 B w' v' (xss ++ [xs]) := by
  obtain ⟨hs, h1, h2, h3⟩ := h
  refine ⟨hs, h1, h2, fun w' v' ho hg hat => ?_⟩
  refine Ow2.snoc (hd := ⟨A, n, c⟩) (w := w.alloc (.cells #[.slice A n c] 26)) h2 (fun i a b => ⟨(h3 i a b).1.alloc _, ?_⟩) (hu.alloc _) ?_ ho hg hat
  · rcases (h3 i a b).2 with h | ⟨h, k⟩
    · exact .inl h
    · exact .inr ⟨h, fun j hj => by have := k j hj; simp; omega⟩
  · show (Value.slice A n c).ownBlock = none ∨ _
    cases hq : (Value.slice A n c).ownBlock with
    | none => exact .inl rfl
    | some k =>
      obtain ⟨h4, h5⟩ := hk k hq
      refine .inr ⟨?_, fun j hj => ?_⟩
      · rw [show (Hd.val ⟨A, n, c⟩).ownBlock = some k from hq]
        exact fun e => h4 e.symm
      · have hj' : (Value.slice A n c).ownBlock = some j := hj
        rw [hq] at hj'
        have := Option.some.inj hj'
        simp; omega
/-- what the recursion gives -/
def BuiltSOK (s n : Nat) : Prop := ∀ (f : Fm) (v : Value) (w : World), (outs s f []).length ≤ n → f.ok = true → (enc f).length + (occs s f).length ≤ 80 → Sl cN w v (enc f) →
    Calls Tryz.prog 102 #[v, .int .i64 s] w fun e w' => ∃ u, e = .returned u ∧ SOut w.heap.size w' u (bldS s n f) ∧ Below w.heap.size w w'
set_option maxRecDepth 100000 in
theorem spec_built_leaf (s : Nat) (hs : s ≤ 5) (f : Fm) (v : Value) (w : World) (hok : f.ok = true) (hl : (enc f).length + (occs s f).length ≤ 80) (h : Sl cN w v (enc f)) (hc : (outs s f []).length = 0) :
    Calls Tryz.prog 102 #[v, .int .i64 s] w fun e w' => ∃ u, e = .returned u ∧ Ow cN 82 w.heap.size w' u (enc f) ∧ Below w.heap.size w w' := by
  have hba := below_alloc' w (.cells #[] 26)
  have HO := Lib.hid (spec_l33Outer s f v (.slice (some ⟨w.heap.size, 0, none⟩) 0 0) [] [] w (w.alloc (.cells #[] 26)) w.heap.size h hba (Nat.le_refl _) (by simp) (Ow.lit [] rfl rfl (Nat.le_refl _)) Hs.nil (by simp; omega) (by omega) (by simp))
  have HC : Hid (outs s f [] = []) := Lib.hid (List.length_eq_zero_iff.1 hc)
  have HOw := Lib.hid (fun W1 (hb : Below w.heap.size w W1) => spec_l02Own v (enc f) W1 (h.below hb) (by omega))
  have HB := Lib.hid hba
  clear h hba hc
  go_enter Tryz.func102, Tryz.ntmps102
  go_wp2_with fail
  refine HO.out.mono ?_
  rintro e w1 ⟨u, hs1, rfl, o1, h1, b1⟩
  rw [HC.out] at h1
  have hz : hs1 = [] := List.length_eq_zero_iff.1 h1.1
  subst hz
  obtain ⟨A1, c1, rfl⟩ := o1.opn
  have HB1 : Hid (Below w.heap.size w w1) := Lib.hid (HB.out.trans b1)
  clear o1 h1 b1
  simp only [List.length_nil]
  go_wp2_with fail
  refine (HOw.out _ HB1.out).mono ?_
  rintro e w2 ⟨u2, rfl, o2, b2⟩
  have O2 := Lib.hid (o2.mono HB1.out.size)
  have B2 := Lib.hid (bthen HB1.out b2)
  clear o2 b2
  go_wp2
  go_ret
  exact ⟨_, rfl, O2.out, B2.out⟩
theorem Ow2.blk {B : Nat} {w : World} {v : Value} {xss : List (List Nd)} (h : Ow2 B w v xss) : ∀ k, v.ownBlock = some k → B ≤ k ∧ k < w.heap.size := by
  obtain ⟨hs0, a1, -, -⟩ := h
  exact a1.block
theorem take_map_enc (X : List Fm) (m : Nat) (h : m < X.length) : (X.take (m + 1)).map enc = (X.take m).map enc ++ [enc (X.getD m .fls)] := by
  rw [List.take_succ_eq_append_getElem h, List.map_append, List.getD_eq_getElem?_getD, List.getElem?_eq_getElem h]; rfl
theorem getD_set_ne {O : List Fm} {j m : Nat} {c : Fm} (h : ¬ m = j) : (O.set j c).getD m .fls = O.getD m .fls := by
  rw [List.getD_eq_getElem?_getD, List.getElem?_set, if_neg (fun e => h e.symm), ← List.getD_eq_getElem?_getD]
theorem getD_set_eq {O : List Fm} {j : Nat} {c : Fm} (h : j < O.length) : (O.set j c).getD j .fls = c := by
  rw [List.getD_eq_getElem?_getD, List.getElem?_set, if_pos rfl, if_pos h]; rfl
set_option maxHeartbeats 2000000 in
set_option maxRecDepth 100000 in
theorem spec_built_step (s n : Nat) (hs5 : s ≤ 5) (ih : BuiltSOK s n) (f : Fm) (v : Value) (w : World) (hn : (outs s f []).length ≤ n + 1) (hok : f.ok = true) (hz : (enc f).length + (occs s f).length ≤ 80) (h : Sl cN w v (enc f)) (hne : ¬ (outs s f []).length = 0) :
    Calls Tryz.prog 102 #[v, .int .i64 s] w fun e w' => ∃ u, e = .returned u ∧ SOut w.heap.size w' u (bldS s (n + 1) f) ∧ Below w.heap.size w w' := by
  have hba := below_alloc' w (.cells #[] 26)
  have HOut := Lib.hid (spec_l33Outer s f v (.slice (some ⟨w.heap.size, 0, none⟩) 0 0) [] [] w (w.alloc (.cells #[] 26)) w.heap.size h hba (Nat.le_refl _) (by simp) (Ow.lit [] rfl rfl (Nat.le_refl _)) Hs.nil (by simp; omega) (by omega) (by simp))
  have HB := Lib.hid hba
  have HOM := Lib.hid (fun x (hx : x ∈ outs s f []) => occs_len (outs_mem hx))
  have HREP := Lib.hid (fun (W1 : World) (hb : Below w.heap.size w W1) (I : List Fm) (Ao Ai : Option Addr) (co ci : Nat) (sO : Sl2 cN W1 (.slice Ao (outs s f []).length co) ((outs s f []).map enc)) (sI : Sl2 cN W1 (.slice Ai I.length ci) (I.map enc)) (hIO : I.length = (outs s f []).length) (hlI : ∀ x ∈ I, (enc x).length ≤ 8192) =>
    spec_l33Replace s (outs s f []) I hIO (by have := outs_length s f; omega) (fun x hx => by have := (occs_len (outs_mem hx)).2; omega) hlI f v Ao Ai co ci W1 (h.below hb) (by omega) sO sI (fun g hg => ix_outs hg))
  have HIH := Lib.hid (fun (j : Nat) (hj : j < (outs s f []).length) (v1 : Value) (W1 : World) (h1 : Sl cN W1 v1 (enc (wto s f j))) => ih (wto s f j) v1 W1 (by have := wto_outs hj; omega) (wto_ok hok (occs_ok hok) j) (Nat.le_trans (wto_size s f j) hz) h1)
  have HUN := Lib.hid (fun (j : Nat) (hj : j < (outs s f []).length) => occs_mem (outs_mem (getF_mem hj)))
  have HOK := Lib.hid (fun (j : Nat) (hj : j < (outs s f []).length) => occs_ok hok _ (outs_mem (getF_mem hj)))
  have HDL := Lib.hid (fun (j : Nat) d (hd : bldS s n (wto s f j) = some d) => bldS_len (by have := wto_size s f j; omega) hd)
  have HBL : Hid (bldS s (n + 1) f = match imsTo s false (outs s f []) (fun i => bldS s n (wto s f i)) (outs s f []).length with
    | none => none
    | some I => if 40 < (enc (repO s (ims (outs s f []) I) f)).length then none else some (repO s (ims (outs s f []) I) f)) := Lib.hid (by rw [bldS, if_neg hne]; rfl)
  have HW : Hid (∀ j, wto s f j = repO s (ims (outs s f []) ((outs s f []).set j (cst1 ((outs s f []).getD j .fls)))) f) := Lib.hid fun j => rfl
  have hO80 : (outs s f []).length ≤ 80 := by have := outs_length s f; omega
  have HIT : Hid (∀ j, imsTo s false (outs s f []) (fun i => bldS s n (wto s f i)) (j + 1) = match imsTo s false (outs s f []) (fun i => bldS s n (wto s f i)) j with
    | none => none
    | some l => match bldS s n (wto s f j) with
      | none => none
      | some d => if false && decide (40 < (enc (((outs s f []).getD j .fls).sub s d)).length) then none else some (l ++ [((outs s f []).getD j .fls).sub s d])) := Lib.hid fun j => rfl
  have HS5 := Lib.hid hs5
  have HZ := Lib.hid hz
  have hnz : (((outs s f []).length : Int) == 0) = false := by rw [beq_eq_false_iff_ne]; omega
  clear ih hn hok hz hs5 h hba hne
  generalize outs s f [] = O at *
  go_enter Tryz.func102, Tryz.ntmps102
  go_wp2_with fail
  refine HOut.out.mono ?_
  rintro e w1 ⟨uo, hs, rfl, ho, hH, hb⟩
  have HB1 : Hid (Below w.heap.size w w1) := Lib.hid (HB.out.trans hb)
  obtain ⟨Ao, co, rfl⟩ := ho.opn
  have HHs := Lib.hid hH
  have HN : Hid (hs.length = O.length) := Lib.hid hH.1
  rw [HN.out] at ho ⊢
  have HO1 := Lib.hid ho
  clear hH ho hb HOut HB
  go_upto_region 5 with fail
  have hba := below_alloc' w1 (.cells #[] 26)
  have HB2 := Lib.hid (HB1.out.trans (hba.mono HB1.out.size))
  have HOS := Lib.hid HO1.out.sl
  have HI0 := Lib.hid (Ow2.lit w1.heap.size w1.heap.size w1 rfl (Nat.le_refl _))
  have HB12 := Lib.hid hba
  clear hba HO1
  generalize World.alloc w1 _ = w2 at *
  go_wp2
  go_loopw [6, 7] (fun iv i wr => ∃ j : Nat, j ≤ O.length ∧ i = .int .i64 j ∧ ∃ I : List Fm, imsTo s false O (fun i => bldS s n (wto s f i)) j = some I ∧ (∀ x ∈ I, (enc x).length ≤ 8192) ∧ Ow2 w1.heap.size wr iv (I.map enc) ∧ Below w1.heap.size w2 wr) (fun _ i _ => O.length - (intOf i).toNat)
  case atStart => exact ⟨0, Nat.zero_le _, rfl, [], rfl, by simp, HI0.out, Below.refl _ _⟩
  case round =>
    obtain ⟨j, hj, rfl, I, hI, hI40, hOI, hbr⟩ := hrel
    have HI := Lib.hid hI
    have HI40 := Lib.hid hI40
    have HOI := Lib.hid hOI
    have HBr : Hid (Below w.heap.size w wr) := Lib.hid (HB2.out.trans (hbr.mono HB1.out.size))
    have HBr1 : Hid (Below w1.heap.size w2 wr) := Lib.hid hbr
    have HIL : Hid (I.length = j) := Lib.hid (imsTo_form hI).1
    have hsr : Sl cH wr (.slice Ao O.length co) hs := HOS.out.below (HB12.out.trans hbr)
    have HSr := Lib.hid hsr
    have HWr := Lib.hid (Nat.le_trans HB1.out.size (Nat.le_trans HB12.out.size hbr.size))
    have HW1r : Hid (w1.heap.size ≤ wr.heap.size) := Lib.hid (Nat.le_trans HB12.out.size hbr.size)
    clear hI hI40 hOI hbr
    by_cases hlt : j < O.length
    · have HJ := Lib.hid hlt
      obtain ⟨c, hc⟩ : ∃ c, cst1 (O.getD j .fls) = c := ⟨_, rfl⟩
      obtain ⟨X, hX⟩ : ∃ X, O.set j c = X := ⟨_, rfl⟩
      have HXL : Hid (X.length = O.length) := Lib.hid (by rw [← hX, List.length_set])
      have HXN : Hid (∀ m, ¬ m = j → X.getD m .fls = O.getD m .fls) := Lib.hid (fun m hm => by rw [← hX]; exact getD_set_ne hm)
      have HXJ : Hid (X.getD j .fls = c) := Lib.hid (by rw [← hX]; exact getD_set_eq hlt)
      have HXW : Hid (wto s f j = repO s (ims O X) f) := Lib.hid (by rw [HW.out j, hc, hX])
      have HXM : Hid (∀ x ∈ X, (enc x).length ≤ 8192) := Lib.hid (fun x hx => by
        rw [← hX] at hx
        rcases List.mem_or_eq_of_mem_set hx with h | h
        · have := (HOM.out x h).2; have := HZ.out; omega
        · rw [h, ← hc]; have := cst1_len (O.getD j .fls); omega)
      have HC := Lib.hid hc
      clear hc hX
      go_upto_region 9 with fail
      have hba := below_alloc' wr (.cells #[] 26)
      have HBa := Lib.hid hba
      have HO0 := Lib.hid (Ow2.lit wr.heap.size wr.heap.size wr rfl (Nat.le_refl _))
      clear hba hsr
      generalize World.alloc wr _ = wa at *
      generalize wr = wo at *
      go_wp2
      go_loopw [8, 9] (fun ov k wr => ∃ m : Nat, m ≤ O.length ∧ k = .int .i64 m ∧ Ow2 wo.heap.size wr ov ((X.take m).map enc) ∧ Below wo.heap.size wo wr) (fun _ k _ => O.length - (intOf k).toNat)
      case atStart => exact ⟨0, Nat.zero_le _, rfl, HO0.out, HBa.out⟩
      case round =>
        obtain ⟨m, hm, rfl, hov, hbq⟩ := hrel
        have HOV := Lib.hid hov
        have HBq := Lib.hid hbq
        have HOvb := Lib.hid HOV.out.blk
        have HQL : Hid (((X.take m).map enc).length ≤ 80) := Lib.hid (by rw [List.length_map, List.length_take]; omega)
        clear hov hbq
        by_cases hml : m < O.length
        · have hm' : m < hs.length := by rw [HN.out]; exact hml
          have HTK : Hid ((X.take (m + 1)).map enc = (X.take m).map enc ++ [enc (X.getD m .fls)]) := Lib.hid (take_map_enc X m (by rw [HXL.out]; exact hml))
          obtain ⟨b, o, rfl, hbl, d0⟩ := (show Sl cH wr (.slice Ao hs.length co) hs by rw [HN.out]; exact HSr.out.below HBq.out).atHd' hm'
          have HSw : Hid (Sl cN w (.slice hs[m].a hs[m].n hs[m].c) (enc (O.getD m .fls))) := Lib.hid (by
            have := HHs.out.2 m hm' hml
            rw [List.getD_eq_getElem?_getD, List.getElem?_eq_getElem hml]
            exact this)
          generalize hs[m].a = ma at *
          generalize hs[m].n = mn at *
          generalize hs[m].c = mc at *
          clear hm'
          have HSq : Hid (Sl cN wr (.slice ma mn mc) (enc (O.getD m .fls))) := Lib.hid ((HSw.out.below HBr.out).below HBq.out)
          by_cases hmj : m = j
          · subst hmj
            rw [HXJ.out] at HTK
            obtain ⟨k, a, hun, hao⟩ := HUN.out m hml
            have hrd := HSq.out
            rw [hun, enc_un] at hrd
            obtain ⟨mA, mC, hmv⟩ := hrd.opn
            injection hmv with e1 e2 e3
            subst e1 e3
            obtain ⟨bm, om, rfl, hbm, hm0, hm1⟩ := hrd.atN0
            simp only at hm0
            have hmn : 0 < mn := by rw [e2]; simp
            clear hrd hm1 e2 hao
            cases k
            case' box =>
              have HC2 : Hid (c = truF) := Lib.hid (by rw [← HC.out, hun]; rfl)
              clear hun
              simp only [UK.i] at hm0
              go_wp2_with fail
              refine (spec_l02True _).mono ?_
              rintro e w5 ⟨ut, rfl, ht, hb⟩
            case' dia =>
              have HC2 : Hid (c = .fls) := Lib.hid (by rw [← HC.out, hun]; rfl)
              clear hun
              simp only [UK.i] at hm0
              go_wp2_with fail
              refine (spec_l02False _).mono ?_
              rintro e w5 ⟨ut, rfl, ht, hb⟩
            all_goals
              obtain ⟨At, ct, rfl⟩ := ht.opn
              obtain ⟨hsI, p1, p2, p3⟩ := (HOV.out.below hb).push ht (fun k hk => (HOvb.out k hk).2)
              have HP1 := Lib.hid p1
              have HP2 : Hid (hsI.length ≤ 80) := Lib.hid (by rw [p2]; exact HQL.out)
              have HP3 := Lib.hid p3
              have HB5 := Lib.hid (HBq.out.trans (hb.mono HBq.out.size))
              clear ht hb p1 p2 p3 hm0 hbm hmn d0 hbl
              simp only [List.length_cons, List.length_nil] at HP3
              go_wp2_with (at_builtin; refine stopHere ?_)
              refine goHere ?_
              refine ap_one' (K := cH) _ ty_nodes rfl _ _ rfl (B := wo.heap.size) (xs := hsI) rfl HP1.out ⟨At, _, ct⟩ rfl (g := w5.heap.size) (by simp) rfl (by have := HP2.out; omega) HB5.out.size ?_
              intro v1 w6 ho1 hg1 hb1 hat1
              have HO2 : Hid (Ow2 wo.heap.size w6 v1 ((X.take (m + 1)).map enc)) := Lib.hid (by
                rw [HTK.out, HC2.out]
                exact HP3.out w6 v1 ho1 hg1 (hat1.imp id fun h => h.trans (by simp)))
              have HB6 := Lib.hid (HB5.out.trans hb1)
              clear ho1 hg1 hb1 hat1
              go_wp2
              go_roundw
              case rel => exact ⟨m + 1, by omega, by go_num, HO2.out, HB6.out⟩
              case measure => simp [intOf]; omega
          · rw [HXN.out m hmj] at HTK
            have hmj2 : ((m : Int) != (j : Int)) = true := by simp; omega
            have hmj3 : ¬ (m : Int) = (j : Int) := by omega
            obtain ⟨bk, hbk1, hbk2⟩ := HSw.out.blk
            obtain ⟨hsI, p1, p2, p3⟩ := HOV.out.pushR HSq.out (fun k hk => by
              rw [hbk1] at hk
              have e := Option.some.inj hk
              subst e
              refine ⟨fun h => ?_, ?_⟩
              · have := (HOvb.out _ h).1; have := HWr.out; omega
              · have := HWr.out; have := HBq.out.size; omega)
            have HP1 := Lib.hid p1
            have HP2 : Hid (hsI.length ≤ 80) := Lib.hid (by rw [p2]; exact HQL.out)
            have HP3 := Lib.hid p3
            clear p1 p2 p3 hbk1 hbk2 bk hmj
            go_wp2_with (at_builtin; refine stopHere ?_)
            refine goHere ?_
            refine ap_one' (K := cH) _ ty_nodes rfl _ _ rfl (B := wo.heap.size) (xs := hsI) rfl HP1.out ⟨ma, mn, mc⟩ rfl (g := wr.heap.size) (by simp) rfl (by have := HP2.out; omega) HBq.out.size ?_
            intro v1 w6 ho1 hg1 hb1 hat1
            have HO2 : Hid (Ow2 wo.heap.size w6 v1 ((X.take (m + 1)).map enc)) := Lib.hid (by
              rw [HTK.out]
              exact HP3.out w6 v1 ho1 hg1 (hat1.imp id fun h => h.trans (by simp)))
            have HB6 := Lib.hid (HBq.out.trans hb1)
            clear ho1 hg1 hb1 hat1
            go_wp2
            go_roundw
            case rel => exact ⟨m + 1, by omega, by go_num, HO2.out, HB6.out⟩
            case measure => simp [intOf]; omega
        · obtain rfl : m = O.length := by omega
          have hTX : (X.take O.length).map enc = X.map enc := by rw [List.take_of_length_le (by rw [HXL.out]; exact Nat.le_refl _)]
          rw [hTX] at HOV
          have hsl := HOV.out.sl2
          obtain ⟨Ai, ci, hu8⟩ := hsl.opn
          rw [List.length_map, HXL.out] at hu8
          have HBw : Hid (Below w.heap.size w wr) := Lib.hid (HBr.out.trans (HBq.out.mono HBr.out.size))
          have hRun := HREP.out wr HBw.out X Ao Ai co ci ((HHs.out.below HBw.out).sl2 (HSr.out.below HBq.out)) (by rw [HXL.out, ← hu8]; exact hsl) HXL.out HXM.out
          rw [HXL.out, ← hu8, ← HXW.out] at hRun
          have HRun := Lib.hid hRun
          clear hRun hsl hTX hu8 HQL HOvb
          go_wp2_with fail
          refine HRun.out.mono ?_
          rintro e w5 ⟨u5, rfl, o5, b5⟩
          have HB5 := Lib.hid (HBw.out.trans (b5.mono HBw.out.size))
          have HB5o := Lib.hid (HBq.out.trans (b5.mono HBq.out.size))
          have HS5' := Lib.hid o5.sl
          clear o5 b5 HRun
          go_wp2_with fail
          refine (HIH.out j hlt u5 w5 HS5'.out).mono ?_
          rintro e w6 ⟨u6, rfl, o6, b6⟩
          have HB6 := Lib.hid (HB5.out.trans (b6.mono HB5.out.size))
          have HB6o := Lib.hid (HB5o.out.trans (b6.mono HB5o.out.size))
          cases hbj : bldS s n (wto s f j) with
          | none =>
            rw [hbj] at o6
            have hu6 : u6 = .slice none 0 0 := o6
            subst hu6
            have HNO : Hid (bldS s (n + 1) f = none) := Lib.hid (by
              have : imsTo s false O (fun i => bldS s n (wto s f i)) (j + 1) = none := by rw [HIT.out j, HI.out, hbj]
              rw [HBL.out, imsTo_none' this HJ.out])
            clear o6 b6 hbj
            go_wp2
            go_ret
            exact ⟨_, rfl, by rw [HNO.out]; rfl, HB6.out⟩
          | some d =>
            rw [hbj] at o6
            have o6' : Ow cN 82 w5.heap.size w6 u6 (enc d) := o6
            have hdl := HDL.out j d hbj
            obtain ⟨A6, c6, rfl⟩ := o6'.opn
            have hdp := enc_pos d
            have HYES : Hid (imsTo s false O (fun i => bldS s n (wto s f i)) (j + 1) = some (I ++ [(O.getD j .fls).sub s d])) := Lib.hid (by
              rw [HIT.out j, HI.out, hbj]
              rfl)
            have hgl := HOM.out _ (getF_mem hlt)
            have HSL : Hid ((enc ((O.getD j .fls).sub s d)).length ≤ 6400) := Lib.hid (Nat.le_trans (sub_le _ _ _) (by
              have := HZ.out
              exact Nat.mul_le_mul (show (enc (O.getD j .fls)).length ≤ 80 by omega) hdl))
            have HBind := Lib.hid (fun (W1 : World) (hb : Below w6.heap.size w6 W1) => spec_bind s _ (enc d) W1 (o6'.sl.below hb) (by omega) HS5.out)
            have hj' : j < hs.length := by rw [HN.out]; exact hlt
            obtain ⟨b, o, rfl, hbl, d0⟩ := (show Sl cH w6 (.slice Ao hs.length co) hs by rw [HN.out]; exact HSr.out.below HB6o.out).atHd' hj'
            have HSm : Hid (Sl cN w6 (.slice hs[j].a hs[j].n hs[j].c) (enc (O.getD j .fls))) := Lib.hid (by
              have := (HHs.out.2 j hj' hlt).below HB6.out
              rw [List.getD_eq_getElem?_getD, List.getElem?_eq_getElem hlt]
              exact this)
            have HNI := Lib.hid (node_ims (enc_nodes _ (HOK.out j hlt)) s (enc d))
            have HIM := Lib.hid (repL_ims s (enc d) 4096 (by omega) (by omega))
            have HRP : Hid (subI (enc (O.getD j .fls)) ((idTo 6).set s (enc d)) = enc ((O.getD j .fls).sub s d)) := Lib.hid (repL_enc (O.getD j .fls) s d HS5.out (HOK.out j hlt))
            have HG80 : Hid ((enc (O.getD j .fls)).length ≤ 4096) := Lib.hid (by have := HZ.out; omega)
            have hnd : ((enc d).length : Int) = 0 → False := by omega
            have hnd2 : (((enc d).length : Int) == 0) = false := by rw [beq_eq_false_iff_ne]; exact fun h => hnd h
            have HOI6 := Lib.hid (HOI.out.below HB6o.out)
            have HW16 : Hid (Below w1.heap.size w2 w6) := Lib.hid (HBr1.out.trans (HB6o.out.mono HW1r.out))
            have HIo := Lib.hid HOI.out.blk
            clear o6 o6' b6 hbj hdl hdp hgl hnd
            generalize (enc d).length = ld at *
            generalize hs[j].a = ma at *
            generalize hs[j].n = mn at *
            generalize hs[j].c = mc at *
            clear hj'
            generalize (O.getD j .fls).sub s d = gi at *
            go_upto_region 20 with fail
            refine wp_region_sched (Below w6.heap.size w6) 10 [0, 1, 2, 3, 4, 5, 6] [0, 1, 2, 3, 4, 5, 6, 7, 8, 9] (by kernel_rfl) (by kernel_rfl) (Below.refl _ _).drew ?_
            repeat
              apply wpSched_q rfl rfl
              case h =>
                intro w' hI K hK
                have d0' := (hI.cell (p := ⟨b, o + j, none⟩) hbl).trans d0
                simp only [quietV, stillV]
                go_simp
                exact hK
              go_simp
            refine wpSched_r rfl rfl ?_ (Below.refl _ _).drew
            intro K hK hI
            go_simp
            refine (HBind.out _ hI).mono ?_
            rintro e w7 ⟨u7, rfl, o7, b7⟩
            have hI7 := hI.trans (b7.mono hI.size)
            refine hK _ _ hI7 ?_
            clear hK K
            refine wpSched_r rfl rfl ?_ hI7
            intro K hK _
            go_simp
            refine (spec_sub _ u7 (enc (O.getD j .fls)) _ w7 (HSm.out.below hI7) o7 HNI.out HG80.out HIM.out).mono ?_
            rintro e w8 ⟨u8, rfl, o8, b8⟩
            rw [HRP.out] at o8
            have hI8 := hI7.trans (b8.mono hI7.size)
            refine hK _ _ hI8 ?_
            clear hK K
            obtain ⟨A8, c8, rfl⟩ := o8.opn
            refine wpSched_r rfl rfl ?_ hI8
            intro K hK _
            go_simp
            refine hK _ _ (hI8.alloc (hI8.size) _) ?_
            clear hK K
            refine wpSched_nil ?_
            try simp only [List.drop_succ_cons, List.drop_zero, List.drop_nil]
            obtain ⟨hsI, p1, p2, p3⟩ := (HOI6.out.below hI8).push o8 (fun k hk => by
              have := (HIo.out k hk).2
              have := HB6o.out.size
              have := hI7.size
              omega)
            have HP1 := Lib.hid p1
            have HP2 : Hid (hsI.length ≤ 80) := Lib.hid (by rw [p2, List.length_map, HIL.out]; have := HJ.out; omega)
            have HP3 := Lib.hid p3
            have HWW : Hid (Below w1.heap.size w2 w8) := Lib.hid (HW16.out.trans (hI8.mono (Nat.le_trans HW1r.out HB6o.out.size)))
            have HWZ : Hid (w1.heap.size ≤ w8.heap.size) := Lib.hid (Nat.le_trans HW1r.out (Nat.le_trans HB6o.out.size hI8.size))
            clear p1 p2 p3 o7 o8 b7 b8 hI hI7 hI8 d0 hbl
            generalize hlx : (enc gi).length = lx at *
            have HLX := Lib.hid hlx
            clear hlx
            go_wp2_with (at_builtin; refine stopHere ?_)
            refine goHere ?_
            refine ap_one' (K := cH) _ ty_nodes rfl _ _ rfl (B := w1.heap.size) (xs := hsI) rfl HP1.out ⟨A8, lx, c8⟩ rfl (g := w8.heap.size) (by simp) rfl (by have := HP2.out; omega) HWZ.out ?_
            intro v1 w11 ho1 hg1 hb1 hat1
            have HO2 : Hid (Ow2 w1.heap.size w11 v1 ((I ++ [gi]).map enc)) := Lib.hid (by
              rw [List.map_append]
              exact HP3.out w11 v1 ho1 hg1 (hat1.imp id fun h => h.trans (by simp)))
            have HW11 : Hid (Below w1.heap.size w2 w11) := Lib.hid (HWW.out.trans hb1)
            have HI41 : Hid (∀ x ∈ I ++ [gi], (enc x).length ≤ 8192) := Lib.hid fun x hx => by
              rcases List.mem_append.1 hx with h | h
              · exact HI40.out x h
              · have e : x = gi := by simpa using h
                rw [e, HLX.out]; have := HSL.out; omega
            clear ho1 hg1 hb1 hat1
            go_wp2
            go_roundw
            case rel => exact ⟨j + 1, by omega, by go_num, _, HYES.out, HI41.out, HO2.out, HW11.out⟩
            case measure => simp [intOf]; omega
    · obtain rfl : j = O.length := by omega
      have hsl := HOI.out.sl2
      obtain ⟨Ai, ci, hu6⟩ := hsl.opn
      rw [List.length_map] at hu6
      have hRun := fun h => HREP.out wr HBr.out I Ao Ai co ci ((HHs.out.below HBr.out).sl2 hsr) h HIL.out HI40.out
      rw [← hu6] at hRun
      have HRun := Lib.hid (hRun hsl)
      have HBL2 : Hid (bldS s (n + 1) f = if 40 < (enc (repO s (ims O I) f)).length then none else some (repO s (ims O I) f)) := Lib.hid (by rw [HBL.out, HI.out])
      clear hRun hsl hu6 hsr
      go_wp2_with fail
      refine HRun.out.mono ?_
      rintro e w3 ⟨u3, rfl, h3, hb3⟩
      obtain ⟨A3, c3, rfl⟩ := h3.opn
      have HO3 := Lib.hid (h3.mono (B' := w.heap.size) HWr.out)
      have HB3 := Lib.hid (HBr.out.trans (hb3.mono HBr.out.size))
      clear h3 hb3 HRun
      by_cases hlong : 40 < (enc (repO s (ims O I) f)).length
      · rw [if_pos hlong] at HBL2
        generalize (enc (repO s (ims O I) f)).length = lx at *
        have hl2 : (40 : Int) < (lx : Int) := by omega
        go_wp2
        go_ret
        exact ⟨_, rfl, by rw [HBL2.out]; rfl, HB3.out⟩
      · rw [if_neg hlong] at HBL2
        generalize (enc (repO s (ims O I) f)).length = lx at *
        have hl2 : ¬ (40 : Int) < (lx : Int) := by omega
        go_wp2
        go_ret
        exact ⟨_, rfl, by rw [HBL2.out]; exact HO3.out, HB3.out⟩
theorem spec_built (s : Nat) (hs5 : s ≤ 5) : ∀ n, BuiltSOK s n := by
  intro n
  induction n with
  | zero =>
    intro f v w hn hok hz h
    exact spec_built_leaf s hs5 f v w hok hz h (by omega)
  | succ n ih =>
    intro f v w hn hok hz h
    by_cases h0 : (outs s f []).length = 0
    · refine (spec_built_leaf s hs5 f v w hok hz h h0).mono ?_
      rintro e w' ⟨u, rfl, ho, hb⟩
      refine ⟨u, rfl, ?_, hb⟩
      rw [bldS, if_pos h0]
      exact ho
    · exact spec_built_step s n hs5 ih f v w hn hok hz h h0
end Go.Proofs.YtgcoohlakcncbaaGreat
