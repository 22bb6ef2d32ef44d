/- Contracts of chapter 33, of the reference: outer parts, replaced outer parts. -/
import Derived.Test.Ytgdmfihnbbgcoaa33p
import Derived.Test.YtgdmfihnbbgcoaaSch
namespace Go.Proofs.Ytgdmfihnbbgcoaa
open Go.RowKit
set_option linter.unusedVariables false
set_option linter.unusedSimpArgs false
theorem left_g (v : Value) (n : Nd) (f : Fm) (rest : List Nd) (w : World) (h : Sl cN w v (n :: (enc f ++ rest))) (hl : (n :: (enc f ++ rest)).length ≤ 1048576) :
    Calls Try.prog 114 #[v] w fun e w' => ∃ u, e = .returned u ∧ (∀ W0, Sl cN W0 v (n :: (enc f ++ rest)) → Sl cN W0 u (enc f)) ∧ w = w' := by
  obtain ⟨A, c, rfl⟩ := h.opn
  obtain ⟨-, hc, hm⟩ := h.cap
  have hpos := enc_pos f
  have hlen : (n :: (enc f ++ rest)).length = 1 + (enc f).length + rest.length := by simp; omega
  have h2 := fun A' n' hn hA W0 (h0 : Sl cN W0 (.slice A (n :: (enc f ++ rest)).length c) (n :: (enc f ++ rest))) => h0.cutAt (A' := A') (n' := n') (i := 1) (j := 1 + (enc f).length) (c' := c - 1) (by omega) (by omega) hn hA (by omega) (by omega)
  rw [Nat.add_sub_cancel_left, take_enc] at h2
  have H2 := Lib.hid h2; clear h2
  have h1 := spec_l02Part _ _ 1 w h (by omega) (by omega)
  rw [show ((1 : Nat) : Int) = 1 from rfl, pe_first n f rest] at h1
  have H1 := Lib.hid h1; clear h1
  clear h
  generalize (n :: (enc f ++ rest)).length = L at *
  generalize hm' : (enc f).length = m at *
  have HM := Lib.hid hm'; clear hm'
  have HL := Lib.hid hlen
  have hL : 1 + m ≤ L := by omega
  clear hlen
  go_enter Try.func114, Try.ntmps114
  go_wp2_with fail
  refine H1.out.mono ?_
  rintro e w1 ⟨rfl, rfl⟩
  go_wp2
  go_ret
  exact ⟨_, rfl, H2.out _ _ (by omega) (fun b o hA => by subst hA; rfl), rfl⟩
theorem right_g (v : Value) (n : Nd) (f g : Fm) (w : World) (h : Sl cN w v (n :: (enc f ++ enc g))) (hl : (n :: (enc f ++ enc g)).length ≤ 1048576) :
    Calls Try.prog 113 #[v] w fun e w' => ∃ u, e = .returned u ∧ (∀ W0, Sl cN W0 v (n :: (enc f ++ enc g)) → Sl cN W0 u (enc g)) ∧ w = w' := by
  obtain ⟨A, c, rfl⟩ := h.opn
  obtain ⟨-, hc, hm⟩ := h.cap
  have hpos := enc_pos f
  have hpos2 := enc_pos g
  have hlen : (n :: (enc f ++ enc g)).length = 1 + (enc f).length + (enc g).length := by simp; omega
  have h2 := fun A' n' hn hA W0 (h0 : Sl cN W0 (.slice A (n :: (enc f ++ enc g)).length c) (n :: (enc f ++ enc g))) => h0.cutAt (A' := A') (n' := n') (i := 1 + (enc f).length) (j := 1 + (enc f).length + (enc g).length) (c' := c - (1 + (enc f).length)) (by omega) (by omega) hn hA (by omega) (by omega)
  have e2 := take_enc2 n f g []
  rw [List.append_nil] at e2
  rw [Nat.add_sub_cancel_left, Nat.add_comm 1 (enc f).length, e2] at h2
  have H2 := Lib.hid h2; clear h2 e2
  have h1 := spec_l02Part _ _ 1 w h (by omega) (by omega)
  rw [show ((1 : Nat) : Int) = 1 from rfl, pe_first n f (enc g), Nat.add_comm 1] at h1
  have H1 := Lib.hid h1; clear h1
  clear h
  generalize (n :: (enc f ++ enc g)).length = L at *
  generalize hm' : (enc f).length = m at *
  generalize hk' : (enc g).length = k at *
  have HM := Lib.hid hm'; clear hm'
  have HK := Lib.hid hk'; clear hk'
  have HL := Lib.hid hlen
  have hL : 1 + m + k ≤ L := by omega
  have hne : ¬ c = m + 1 := by omega
  clear hlen
  go_enter Try.func113, Try.ntmps113
  go_wp2_with fail
  refine H1.out.mono ?_
  rintro e w1 ⟨rfl, rfl⟩
  go_wp2
  go_ret
  exact ⟨_, rfl, H2.out _ _ (by have := HL.out; omega) (fun b o hA => by subst hA; rfl), rfl⟩
theorem fold_len : ∀ (L l : List Fm), (L.foldl ins l).length ≤ l.length + L.length
  | [], l => Nat.le_refl _
  | g :: L, l => by
    have := fold_len L (ins l g)
    have h2 : (ins l g).length ≤ l.length + 1 := by unfold ins; split <;> simp
    rw [List.foldl_cons, List.length_cons]; omega
/-- what l33Outer does -/
def OutOK (s : Nat) (f : Fm) : Prop := ∀ (v u : Value) (hs : List Hd) (l : List Fm) (w0 w : World) (B : Nat), Sl cN w0 v (enc f) → Below w0.heap.size w0 w → w0.heap.size ≤ B → B ≤ w.heap.size → Ow cH 26 B w u hs → Hs w0 hs l → l.length + (occs s f).length ≤ 1000 → (enc f).length ≤ 100 → (∀ x ∈ l, (enc x).length ≤ 100) →
    Calls Try.prog 53 #[v, .int .i64 s, u] w fun e w' => ∃ u' hs', e = .returned u' ∧ Ow cH 26 B w' u' hs' ∧ Hs w0 hs' (outs s f l) ∧ Below B w w'
theorem spec_l33Outer_no (s : Nat) (f : Fm) (ho : f.occ s = false) : OutOK s f := by
  intro v u hs l w0 w B h0 hb0 hB hBw hO hH hn hl hlx
  have HO := Lib.hid hO
  have HH := Lib.hid hH
  have HE : Hid (outs s f l = l) := Lib.hid (outs_no ho l)
  have HOc := Lib.hid (spec_l33Occurs v (enc f) s w (h0.below hb0) (by omega))
  rw [occ_enc, ho] at HOc
  clear h0 hb0 hO hH
  go_enter Try.func53, Try.ntmps53
  go_wp2_with fail
  refine HOc.out.mono ?_
  rintro e w1 ⟨rfl, rfl⟩
  go_wp2
  go_ret
  exact ⟨_, hs, rfl, HO.out, by rw [HE.out]; exact HH.out, Below.refl _ _⟩
theorem spec_l33Outer_var (s t : Nat) (ho : (Fm.var t).occ s = true) : OutOK s (.var t) := by
  intro v u hs l w0 w B h0 hb0 hB hBw hO hH hn hl hlx
  have HO := Lib.hid hO
  have HH := Lib.hid hH
  have HE : Hid (outs s (.var t) l = l) := Lib.hid rfl
  have h := h0.below hb0
  have HOc := Lib.hid (spec_l33Occurs v (enc (.var t)) s w h (by omega))
  rw [occ_enc, ho] at HOc
  have HMo := Lib.hid (spec_l33Modal (.var t) v w h)
  obtain ⟨A, c, rfl⟩ := h.opn
  simp only [enc, List.length_cons, List.length_nil] at h HOc HMo ⊢
  obtain ⟨b, o, rfl, hb, hc0, hc1⟩ := h.atN0
  clear h0 hb0 hO hH h
  go_enter Try.func53, Try.ntmps53
  go_wp2_with fail
  refine HOc.out.mono ?_
  rintro e w1 ⟨rfl, rfl⟩
  go_wp2_with fail
  refine HMo.out.mono ?_
  rintro e w1 ⟨rfl, rfl⟩
  rw [show isun (.var t) = false from rfl]
  go_wp2_with fail
  refine (spec_l02Parts _ _).mono ?_
  rintro e w1 ⟨rfl, rfl⟩
  rw [show parts 0 = 0 from rfl]
  go_wp2
  go_ret
  exact ⟨_, hs, rfl, HO.out, by rw [HE.out]; exact HH.out, Below.refl _ _⟩
set_option maxRecDepth 100000 in
theorem spec_l33Outer_bin (s : Nat) (k : BK) (a b : Fm) (iha : OutOK s a) (ihb : OutOK s b) (ho : (Fm.bin k a b).occ s = true) : OutOK s (.bin k a b) := by
  intro v u hs l w0 w B h0 hb0 hB hBw hO hH hn hl hlx
  have HE : Hid (outs s (.bin k a b) l = outs s b (outs s a l)) := Lib.hid (outs_bin s k a b l)
  have h := h0.below hb0
  have HOc := Lib.hid (spec_l33Occurs v (enc (.bin k a b)) s w h (by omega))
  rw [occ_enc, ho] at HOc
  have HMo := Lib.hid (spec_l33Modal (.bin k a b) v w h)
  have hn2 : l.length + ((occs s a).length + (occs s b).length) ≤ 1000 := by simpa [occs] using hn
  have hla : (enc a).length ≤ 100 ∧ (enc b).length ≤ 100 := by simp [enc] at hl; omega
  have hfl : (outs s a l).length ≤ l.length + (occs s a).length := fold_len _ _
  have hfm : ∀ x ∈ outs s a l, (enc x).length ≤ 100 := fun x hx => (fold_mem _ _ _ hx).elim (hlx x) fun h => Nat.le_trans (occs_len h).2 hla.1
  have he : enc (.bin k a b) = (k.i, 0) :: (enc a ++ enc b) := rfl
  have HL := Lib.hid (left_g v (k.i, 0) a (enc b) w h (by rw [← he]; omega))
  have HR := Lib.hid (right_g v (k.i, 0) a b w h (by rw [← he]; omega))
  have HA := Lib.hid (fun (v1 : Value) (h1 : Sl cN w0 v1 (enc a)) => iha v1 u hs l w0 w B h1 hb0 hB hBw hO hH (by omega) hla.1 hlx)
  have HB := Lib.hid (fun (v1 u1 : Value) (hs1 : List Hd) (w1 : World) (h1 : Sl cN w0 v1 (enc b)) (hb1 : Below B w w1) (hO1 : Ow cH 26 B w1 u1 hs1) (hH1 : Hs w0 hs1 (outs s a l)) => ihb v1 u1 hs1 (outs s a l) w0 w1 B h1 (hb0.trans (hb1.mono hB)) hB (Nat.le_trans hBw hb1.size) hO1 hH1 (by omega) hla.2 hfm)
  have H0 := Lib.hid h0
  obtain ⟨A, c, rfl⟩ := h.opn
  have hL0 : 0 < (enc (.bin k a b)).length := enc_pos _
  rw [he] at h
  obtain ⟨bb, o, rfl, hb, hc0, hc1⟩ := h.atN0
  clear h0 hb0 hO hH h iha ihb hn hl hlx hn2 hla hfl hfm he hB hBw
  generalize (enc (.bin k a b)).length = L at *
  simp only at hc0
  go_enter Try.func53, Try.ntmps53
  go_wp2_with fail
  refine HOc.out.mono ?_
  rintro e w1 ⟨rfl, rfl⟩
  go_wp2_with fail
  refine HMo.out.mono ?_
  rintro e w1 ⟨rfl, rfl⟩
  rw [show isun (.bin k a b) = false from rfl]
  go_wp2_with fail
  refine (spec_l02Parts _ _).mono ?_
  rintro e w1 ⟨rfl, rfl⟩
  rw [BK.parts k]
  go_wp2_with fail
  refine HR.out.mono ?_
  rintro e w1 ⟨ur, rfl, hr, rfl⟩
  have HR0 := Lib.hid (hr _ H0.out)
  go_wp2_with fail
  refine HL.out.mono ?_
  rintro e w1 ⟨ul, rfl, hl, rfl⟩
  have HL0 := Lib.hid (hl _ H0.out)
  clear hr hl
  go_wp2_with fail
  refine (HA.out _ HL0.out).mono ?_
  rintro e w1 ⟨u1, hs1, rfl, o1, h1, b1⟩
  have HRun := Lib.hid (HB.out _ u1 hs1 w1 HR0.out b1 o1 h1)
  have HB1 := Lib.hid b1
  clear o1 h1 b1
  go_wp2_with fail
  refine HRun.out.mono ?_
  rintro e w2 ⟨u2, hs2, rfl, o2, h2, b2⟩
  have O2 := Lib.hid o2
  have H2 := Lib.hid h2
  have B2 := Lib.hid (HB1.out.trans b2)
  clear o2 h2 b2
  go_wp2
  go_ret
  exact ⟨_, hs2, rfl, O2.out, by rw [HE.out]; exact H2.out, B2.out⟩
theorem Sl.atHd' {w : World} {A : Option Addr} {n c : Nat} {hs : List Hd} (h : Sl cH w (.slice A n c) hs) {k : Nat} (hk : k < hs.length) :
    ∃ b o, A = some ⟨b, o, none⟩ ∧ b < w.heap.size ∧ w.cell? ⟨b, o + k, none⟩ = some (.slice hs[k].a hs[k].n hs[k].c) := by
  obtain ⟨b, o, hA, hb, hc⟩ := h.cell hk
  have := hc 0 hs[k].val rfl
  exact ⟨b, o, hA, hb, by simpa [cH, Hd.val] using this⟩
theorem isin_no {l : List Fm} {g : Fm} (h : ∀ k, k < l.length → ¬ enc (l.getD k .fls) = enc g) : isin l g = false := by
  unfold isin
  rw [← Bool.not_eq_true, List.any_eq_true]
  rintro ⟨x, hx, he⟩
  obtain ⟨k, hk, rfl⟩ := List.getElem_of_mem hx
  refine h k hk ?_
  rw [List.getD_eq_getElem?_getD, List.getElem?_eq_getElem hk]
  exact of_decide_eq_true he
theorem isin_yes {l : List Fm} {g : Fm} {k : Nat} (hk : k < l.length) (h : enc (l.getD k .fls) = enc g) : isin l g = true := by
  unfold isin
  rw [List.any_eq_true]
  exact ⟨_, getF_mem hk, decide_eq_true h⟩
set_option maxRecDepth 100000 in
theorem spec_l33Outer_un (s : Nat) (k : UK) (a : Fm) (ho : (Fm.un k a).occ s = true) : OutOK s (.un k a) := by
  intro v u hs l w0 w B h0 hb0 hB hBw hO hH hn hl hlx
  have hao : a.occ s = true := ho
  have HE : Hid (outs s (.un k a) l = if isin l (.un k a) then l else l ++ [.un k a]) := Lib.hid (outs_un s k a l hao)
  have h := h0.below hb0
  have HOc := Lib.hid (spec_l33Occurs v (enc (.un k a)) s w h (by omega))
  rw [occ_enc, ho] at HOc
  have HMo := Lib.hid (spec_l33Modal (.un k a) v w h)
  have HEq := Lib.hid (fun (W1 : World) (hb : Below w.heap.size w W1) (u1 : Value) (g : Fm) (hg : g ∈ l) (hu : Sl cN W1 u1 (enc g)) => spec_l02Equal u1 v (enc g) (enc (.un k a)) W1 hu (h.below hb) (by have := hlx g hg; omega) (by omega))
  have H0 := Lib.hid h0
  have hn2 : l.length ≤ 1000 := by omega
  obtain ⟨A, c, rfl⟩ := h0.opn
  obtain ⟨Ao, co, rfl⟩ := hO.opn
  have HN : Hid (hs.length = l.length) := Lib.hid hH.1
  rw [hH.1] at hO ⊢
  have HO := Lib.hid hO
  have HHs := Lib.hid hH
  have HB0 := Lib.hid hb0
  have HBB := Lib.hid hB
  have HBW := Lib.hid hBw
  clear h0 hb0 hO hH h hn hl hlx hB hBw hao ho
  generalize (enc (.un k a)).length = L at *
  go_enter Try.func53, Try.ntmps53
  go_wp2_with fail
  refine HOc.out.mono ?_
  rintro e w1 ⟨rfl, rfl⟩
  go_wp2_with fail
  refine HMo.out.mono ?_
  rintro e w1 ⟨rfl, rfl⟩
  rw [show isun (.un k a) = true from rfl]
  go_wp2
  go_loopw [7] (fun i wr => ∃ j : Nat, j ≤ l.length ∧ i = .int .i64 j ∧ (∀ m, m < j → ¬ enc (l.getD m .fls) = enc (.un k a)) ∧ Below w.heap.size w wr) (fun i _ => l.length - (intOf i).toNat)
  case atStart => exact ⟨0, Nat.zero_le _, rfl, fun m hm => by omega, Below.refl _ _⟩
  case round =>
    obtain ⟨j, hj, rfl, hh, hb⟩ := hrel
    have HNo := Lib.hid hh
    have HBr := Lib.hid hb
    clear hh
    by_cases hlt : j < l.length
    · have hlt' : j < hs.length := by rw [HN.out]; exact hlt
      obtain ⟨b, o, rfl, hbl, d0⟩ := (show Sl cH wr (.slice Ao hs.length co) hs by rw [HN.out]; exact (HO.out.below hb).sl).atHd' hlt'
      have HSm : Hid (Sl cN wr (.slice hs[j].a hs[j].n hs[j].c) (enc (l.getD j .fls))) := Lib.hid (by
        have := (HHs.out.2 j hlt' hlt).below (HB0.out.trans (hb.mono HB0.out.size))
        rw [List.getD_eq_getElem?_getD, List.getElem?_eq_getElem hlt]
        exact this)
      have HRun := Lib.hid (HEq.out wr hb _ _ (getF_mem hlt) HSm.out)
      generalize hs[j].a = ma at *
      generalize hs[j].n = mn at *
      generalize hs[j].c = mc at *
      clear hlt' hb
      go_wp2_with fail
      refine HRun.out.mono ?_
      rintro e w2 ⟨rfl, hb⟩
      have HB2 := Lib.hid (bthen HBr.out hb)
      clear hb d0 HRun
      by_cases he : enc (l.getD j .fls) = enc (.un k a)
      · have HIN : Hid (isin l (.un k a) = true) := Lib.hid (isin_yes hlt he)
        rw [decide_eq_true he]
        clear he
        go_wp2
        go_ret
        refine ⟨_, hs, rfl, HO.out.below HB2.out, ?_, HB2.out.mono HBW.out⟩
        rw [HE.out, if_pos HIN.out]; exact HHs.out
      · have HNo2 : Hid (∀ m, m < j + 1 → ¬ enc (l.getD m .fls) = enc (.un k a)) := Lib.hid fun m hm => by
          rcases Nat.lt_or_ge m j with h | h
          · exact HNo.out m h
          · obtain rfl : m = j := by omega
            exact he
        rw [decide_eq_false he]
        clear he
        go_wp2
        go_roundw
        case rel => exact ⟨j + 1, by omega, by go_num, HNo2.out, HB2.out⟩
        case measure => simp [intOf]; omega
    · obtain rfl : j = l.length := by omega
      have HIN : Hid (isin l (.un k a) = false) := Lib.hid (isin_no HNo.out)
      have ho2 := HO.out.below hb
      have HO2 := Lib.hid ho2
      clear ho2 hb
      go_wp2_with (at_builtin; refine stopHere ?_)
      refine goHere ?_
      refine ap_one' (K := cH) _ ty_nodes rfl _ _ rfl (B := B) (xs := hs) rfl HO2.out ⟨A, L, c⟩ rfl (g := wr.heap.size) (by simp) rfl (by have := HN.out; omega) (Nat.le_trans HBW.out HBr.out.size) ?_
      intro v1 w2 ho1 hg1 hb1 hat1
      have O1 := Lib.hid ho1
      have B1 := Lib.hid ((HBr.out.mono HBW.out).trans hb1)
      clear ho1 hg1 hb1 hat1
      go_wp2
      go_ret
      refine ⟨_, _, rfl, O1.out, ?_, B1.out⟩
      rw [HE.out, HIN.out, if_neg (by decide)]
      exact HHs.out.snoc H0.out
theorem spec_l33Outer (s : Nat) (f : Fm) : OutOK s f := by
  induction f with
  | var t =>
    cases ho : (Fm.var t).occ s
    · exact spec_l33Outer_no s _ ho
    · exact spec_l33Outer_var s t ho
  | fls => exact spec_l33Outer_no s _ rfl
  | bin k a b iha ihb =>
    cases ho : (Fm.bin k a b).occ s
    · exact spec_l33Outer_no s _ ho
    · exact spec_l33Outer_bin s k a b iha ihb ho
  | un k a ih =>
    cases ho : (Fm.un k a).occ s
    · exact spec_l33Outer_no s _ ho
    · exact spec_l33Outer_un s k a ho
/-- what l33Replace does -/
def RepOK (s : Nat) (O I : List Fm) (f : Fm) : Prop := ∀ (v : Value) (Ao Ai : Option Addr) (co ci : Nat) (w : World), Sl cN w v (enc f) → (enc f).length ≤ 100 → Sl2 cN w (.slice Ao O.length co) (O.map enc) → Sl2 cN w (.slice Ai I.length ci) (I.map enc) → (∀ g ∈ occs s f, ix O g < O.length) →
    Calls Try.prog 55 #[v, .int .i64 s, .slice Ao O.length co, .slice Ai I.length ci] w fun e w' => ∃ u, e = .returned u ∧ Ow cN 89 w.heap.size w' u (enc (repO s (ims O I) f)) ∧ Below w.heap.size w w'
theorem spec_l33Replace_no (s : Nat) (O I : List Fm) (f : Fm) (ho : f.occ s = false) : RepOK s O I f := by
  intro v Ao Ai co ci w h hl sO sI hx
  have HE : Hid (repO s (ims O I) f = f) := Lib.hid (repO_no _ ho)
  have HOc := Lib.hid (spec_l33Occurs v (enc f) s w h (by omega))
  rw [occ_enc, ho] at HOc
  have HOw := Lib.hid (spec_l02Own v (enc f) w h (by omega))
  clear h sO sI hx
  go_enter Try.func55, Try.ntmps55
  go_wp2_with fail
  refine HOc.out.mono ?_
  rintro e w1 ⟨rfl, rfl⟩
  go_wp2_with fail
  refine HOw.out.mono ?_
  rintro e w1 ⟨u, rfl, o1, b1⟩
  have O1 := Lib.hid o1
  clear o1
  go_wp2
  go_ret
  exact ⟨_, rfl, by rw [HE.out]; exact O1.out, b1⟩
theorem spec_l33Replace_var (s t : Nat) (O I : List Fm) (ho : (Fm.var t).occ s = true) : RepOK s O I (.var t) := by
  intro v Ao Ai co ci w h hl sO sI hx
  have HE : Hid (repO s (ims O I) (.var t) = .var t) := Lib.hid rfl
  have HOc := Lib.hid (spec_l33Occurs v (enc (.var t)) s w h (by omega))
  rw [occ_enc, ho] at HOc
  have HMo := Lib.hid (spec_l33Modal (.var t) v w h)
  have HOw := Lib.hid (spec_l02Own v (enc (.var t)) w h (by omega))
  obtain ⟨A, c, rfl⟩ := h.opn
  simp only [enc, List.length_cons, List.length_nil] at h HOc HMo HOw ⊢
  obtain ⟨b, o, rfl, hb, hc0, hc1⟩ := h.atN0
  clear h sO sI hx
  go_enter Try.func55, Try.ntmps55
  go_wp2_with fail
  refine HOc.out.mono ?_
  rintro e w1 ⟨rfl, rfl⟩
  go_wp2_with fail
  refine HMo.out.mono ?_
  rintro e w1 ⟨rfl, rfl⟩
  rw [show isun (.var t) = false from rfl]
  go_wp2_with fail
  refine (spec_l02Parts _ _).mono ?_
  rintro e w1 ⟨rfl, rfl⟩
  rw [show parts 0 = 0 from rfl]
  go_wp2_with fail
  refine HOw.out.mono ?_
  rintro e w1 ⟨u, rfl, o1, b1⟩
  have O1 := Lib.hid o1
  clear o1
  go_wp2
  go_ret
  exact ⟨_, rfl, by rw [HE.out]; exact O1.out, b1⟩
theorem Sl2.atG {W : World} {A : Option Addr} {n c : Nat} {I : List Fm} (h : Sl2 cN W (.slice A n c) (I.map enc)) {k : Nat} (hk : k < I.length) :
    ∃ b o Ai ni ci, A = some ⟨b, o, none⟩ ∧ b < W.heap.size ∧ W.cell? ⟨b, o + k, none⟩ = some (.slice Ai ni ci) ∧ Sl cN W (.slice Ai ni ci) (enc (I.getD k .fls)) := by
  obtain ⟨b, o, Ai, ni, ci, h1, h2, h3, h4⟩ := h.at_ (k := k) (by simpa using hk)
  refine ⟨b, o, Ai, ni, ci, h1, h2, h3, ?_⟩
  rw [List.getElem_map] at h4
  rw [List.getD_eq_getElem?_getD, List.getElem?_eq_getElem hk]
  exact h4
theorem ix_no {O : List Fm} {g : Fm} {j : Nat} (h : ∀ m, m < j → ¬ enc (O.getD m .fls) = enc g) (hj : j < O.length) (he : enc (O.getD j .fls) = enc g) : ix O g = j := by
  have hl : ix O g < O.length := ix_lt (isin_yes hj he)
  rcases Nat.lt_trichotomy (ix O g) j with h1 | h1 | h1
  · exact absurd (ix_at hl) (h _ h1)
  · exact h1
  · exfalso
    have := List.not_of_lt_findIdx (show j < O.findIdx (fun h => decide (enc h = enc g)) from h1)
    rw [List.getD_eq_getElem?_getD, List.getElem?_eq_getElem hj] at he
    simp at this
    exact this he
set_option maxRecDepth 100000 in
theorem spec_l33Replace_un (s : Nat) (O I : List Fm) (k : UK) (a : Fm) (ho : (Fm.un k a).occ s = true) (hIO : I.length = O.length) (hO1 : O.length ≤ 1000) (hlO : ∀ x ∈ O, (enc x).length ≤ 100) (hlI : ∀ x ∈ I, (enc x).length ≤ 8192) : RepOK s O I (.un k a) := by
  intro v Ao Ai co ci w h hl sO sI hx
  have hao : a.occ s = true := ho
  have HE : Hid (repO s (ims O I) (.un k a) = I.getD (ix O (.un k a)) .fls) := Lib.hid (by rw [repO, if_pos hao]; rfl)
  have HX : Hid (ix O (.un k a) < O.length) := Lib.hid (hx _ (by rw [occs, if_pos hao]; simp))
  have HOc := Lib.hid (spec_l33Occurs v (enc (.un k a)) s w h (by omega))
  rw [occ_enc, ho] at HOc
  have HMo := Lib.hid (spec_l33Modal (.un k a) v w h)
  have HEq := Lib.hid (fun (W1 : World) (hb : Below w.heap.size w W1) (u1 : Value) (g : Fm) (hg : g ∈ O) (hu : Sl cN W1 u1 (enc g)) => spec_l02Equal u1 v (enc g) (enc (.un k a)) W1 hu (h.below hb) (by have := hlO g hg; omega) (by omega))
  have HSO := Lib.hid sO
  have HSI := Lib.hid sI
  have HLI := Lib.hid hlI
  have HIO := Lib.hid hIO
  clear h hl sO sI hx hao ho hlO hlI hIO
  go_enter Try.func55, Try.ntmps55
  go_wp2_with fail
  refine HOc.out.mono ?_
  rintro e w1 ⟨rfl, rfl⟩
  go_wp2_with fail
  refine HMo.out.mono ?_
  rintro e w1 ⟨rfl, rfl⟩
  rw [show isun (.un k a) = true from rfl]
  go_wp2
  go_loopw [9] (fun i wr => ∃ j : Nat, j ≤ O.length ∧ i = .int .i64 j ∧ (∀ m, m < j → ¬ enc (O.getD m .fls) = enc (.un k a)) ∧ Below w.heap.size w wr) (fun i _ => O.length - (intOf i).toNat)
  case atStart => exact ⟨0, Nat.zero_le _, rfl, fun m hm => by omega, Below.refl _ _⟩
  case round =>
    obtain ⟨j, hj, rfl, hh, hb⟩ := hrel
    have HNo := Lib.hid hh
    have HBr := Lib.hid hb
    clear hh
    by_cases hlt : j < O.length
    · obtain ⟨b, o, ma, mn, mc, rfl, hbl, d0, hsm⟩ := (HSO.out.below hb).atG hlt
      obtain ⟨b2, o2, na, nn, nc, rfl, hbl2, d2, hsn⟩ := (HSI.out.below hb).atG (k := j) (by rw [HIO.out]; exact hlt)
      have HSm := Lib.hid hsm
      have HSn := Lib.hid hsn
      have HRun := Lib.hid (HEq.out wr hb _ _ (getF_mem hlt) HSm.out)
      have hij : j < I.length := by rw [HIO.out]; exact hlt
      clear hb hsm hsn
      go_wp2_with fail
      refine HRun.out.mono ?_
      rintro e w2 ⟨rfl, hb⟩
      have HB2 := Lib.hid (bthen HBr.out hb)
      by_cases he : enc (O.getD j .fls) = enc (.un k a)
      · have HIX : Hid (ix O (.un k a) = j) := Lib.hid (ix_no HNo.out hlt he)
        have d3 := (hb.cell (p := ⟨b2, o2 + j, none⟩) hbl2).trans d2
        have HOwn := Lib.hid (spec_l02Own _ (enc (I.getD j .fls)) w2 (HSn.out.below hb) (by have := HLI.out _ (getF_mem hij); omega))
        rw [decide_eq_true he]
        clear he hb d0 d2
        go_wp2_with fail
        refine HOwn.out.mono ?_
        rintro e w3 ⟨u, rfl, o3, b3⟩
        have O3 := Lib.hid (o3.mono HB2.out.size)
        have B3 := Lib.hid (bthen HB2.out b3)
        clear o3 b3 d3
        go_wp2
        go_ret
        exact ⟨_, rfl, by rw [HE.out, HIX.out]; exact O3.out, B3.out⟩
      · have HNo2 : Hid (∀ m, m < j + 1 → ¬ enc (O.getD m .fls) = enc (.un k a)) := Lib.hid fun m hm => by
          rcases Nat.lt_or_ge m j with h | h
          · exact HNo.out m h
          · obtain rfl : m = j := by omega
            exact he
        rw [decide_eq_false he]
        clear he hb d0 d2
        go_wp2
        go_roundw
        case rel => exact ⟨j + 1, by omega, by go_num, HNo2.out, HB2.out⟩
        case measure => simp [intOf]; omega
    · exfalso
      exact HNo.out _ (by have := HX.out; omega) (ix_at HX.out)
set_option maxHeartbeats 1000000 in
set_option maxRecDepth 100000 in
theorem spec_l33Replace_bin (s : Nat) (O I : List Fm) (k : BK) (a b : Fm) (iha : RepOK s O I a) (ihb : RepOK s O I b) (ho : (Fm.bin k a b).occ s = true) (hlI : ∀ x ∈ I, (enc x).length ≤ 8192) (hIO : I.length = O.length) : RepOK s O I (.bin k a b) := by
  intro v Ao Ai co ci w h hl sO sI hx
  have HE : Hid (enc (repO s (ims O I) (.bin k a b)) = [(k.i, 0)] ++ enc (repO s (ims O I) a) ++ enc (repO s (ims O I) b)) := Lib.hid (by simp [repO, enc])
  have HOc := Lib.hid (spec_l33Occurs v (enc (.bin k a b)) s w h (by omega))
  rw [occ_enc, ho] at HOc
  have HMo := Lib.hid (spec_l33Modal (.bin k a b) v w h)
  have hla : (enc a).length ≤ 100 ∧ (enc b).length ≤ 100 := by simp [enc] at hl; omega
  have he : enc (.bin k a b) = (k.i, 0) :: (enc a ++ enc b) := rfl
  have hxa : ∀ g ∈ occs s a, ix O g < O.length := fun g hg => hx g (by rw [occs, List.mem_append]; exact .inl hg)
  have hxb : ∀ g ∈ occs s b, ix O g < O.length := fun g hg => hx g (by rw [occs, List.mem_append]; exact .inr hg)
  have hbnd : ∀ (f : Fm), (∀ g ∈ occs s f, ix O g < O.length) → (enc f).length ≤ 100 → (enc (repO s (ims O I) f)).length ≤ 1048576 := fun f hf hl => by
    have := repO_le (s := s) (r := ims O I) (f := f) (M := 8192) (by omega) fun g hg => hlI _ (getF_mem (by have := hf g hg; omega))
    have h2 : (enc f).length * 8192 ≤ 100 * 8192 := Nat.mul_le_mul_right _ hl
    omega
  have HL := Lib.hid (fun (W1 : World) (hb : Below w.heap.size w W1) => left_g v (k.i, 0) a (enc b) W1 (h.below hb) (by rw [← he]; omega))
  have HR := Lib.hid (fun (W1 : World) (hb : Below w.heap.size w W1) => right_g v (k.i, 0) a b W1 (h.below hb) (by rw [← he]; omega))
  have HA := Lib.hid (fun (v1 : Value) (W1 : World) (hb : Below w.heap.size w W1) (h1 : Sl cN W1 v1 (enc a)) => iha v1 Ao Ai co ci W1 h1 hla.1 (sO.below hb) (sI.below hb) hxa)
  have HB := Lib.hid (fun (v1 : Value) (W1 : World) (hb : Below w.heap.size w W1) (h1 : Sl cN W1 v1 (enc b)) => ihb v1 Ao Ai co ci W1 h1 hla.2 (sO.below hb) (sI.below hb) hxb)
  have HLA := Lib.hid (hbnd a hxa hla.1)
  have HLB := Lib.hid (hbnd b hxb hla.2)
  have H0 : Hid (Sl cN w v ((k.i, (0 : Int)) :: (enc a ++ enc b))) := Lib.hid h
  obtain ⟨A, c, rfl⟩ := h.opn
  have hL0 : 0 < (enc (.bin k a b)).length := enc_pos _
  rw [he] at h
  obtain ⟨bb, o, rfl, hb, hc0, hc1⟩ := h.atN0
  clear h iha ihb hl hla he hx hxa hxb hbnd hlI hIO sO sI hc1
  generalize (enc (.bin k a b)).length = L at *
  simp only at hc0
  go_enter Try.func55, Try.ntmps55
  go_wp2_with fail
  refine HOc.out.mono ?_
  rintro e w1 ⟨rfl, rfl⟩
  go_wp2_with fail
  refine HMo.out.mono ?_
  rintro e w1 ⟨rfl, rfl⟩
  rw [show isun (.bin k a b) = false from rfl]
  go_wp2_with fail
  refine (spec_l02Parts _ _).mono ?_
  rintro e w1 ⟨rfl, rfl⟩
  rw [BK.parts k]
  go_upto_region 10 with fail
  refine wp_region_sched (Below w.heap.size w) 18 [0, 1, 2, 3, 4, 6, 7, 8, 10, 12, 13, 14, 17] [0, 1, 2, 3, 4, 6, 7, 8, 10, 12, 13, 14, 5, 9, 11, 15, 16, 17] (by kernel_rfl) (by kernel_rfl) (Below.refl _ _).drew ?_
  repeat
    apply wpSched_q rfl rfl
    case h =>
      intro w' hI K hK
      have hc0' := (hI.cell (p := ⟨bb, o, none⟩) hb).trans hc0
      simp only [quietV, stillV]
      go_simp
      exact hK
    go_simp
  refine wpSched_r rfl rfl ?_ (Below.refl _ _).drew
  intro K hK hI
  go_simp
  refine (HL.out _ hI).mono ?_
  rintro e w1 ⟨ul, rfl, hul, rfl⟩
  refine hK _ _ hI ?_
  clear hK K
  refine wpSched_r rfl rfl ?_ hI
  intro K hK _
  go_simp
  refine (HA.out ul _ hI (hul _ (H0.out.below hI))).mono ?_
  rintro e w2 ⟨ua, rfl, oa, ba⟩
  have hI2 := hI.trans (ba.mono hI.size)
  refine hK _ _ hI2 ?_
  clear hK K
  refine wpSched_r rfl rfl ?_ hI2
  intro K hK _
  go_simp
  refine (HR.out _ hI2).mono ?_
  rintro e w3 ⟨ur, rfl, hur, rfl⟩
  refine hK _ _ hI2 ?_
  clear hK K
  refine wpSched_r rfl rfl ?_ hI2
  intro K hK _
  go_simp
  refine (HB.out ur _ hI2 (hur _ (H0.out.below hI2))).mono ?_
  rintro e w3 ⟨ub, rfl, ob, bb3⟩
  have hI3 := hI2.trans (bb3.mono hI2.size)
  refine hK _ _ hI3 ?_
  clear hK K
  refine wpSched_r rfl rfl ?_ hI3
  intro K hK _
  go_simp
  refine (spec_l02Pair k.i ua ub _ _ w3 (oa.sl.below bb3) ob.sl HLA.out HLB.out).mono ?_
  rintro e w4 ⟨up, rfl, op, bp⟩
  have hI4 := hI3.trans (bp.mono hI3.size)
  refine hK _ _ hI4 ?_
  clear hK K
  repeat
    apply wpSched_q rfl rfl
    case h =>
      intro w' hI K hK
      simp only [quietV, stillV]
      go_simp
      exact hK
    go_simp
  refine wpSched_nil ?_
  try simp only [List.drop_succ_cons, List.drop_zero, List.drop_nil]
  have O4 := Lib.hid (op.mono hI3.size)
  have B4 := Lib.hid hI4
  clear op bp oa ob ba bb3 hI hI2 hI3 hI4 hc0
  go_wp2
  go_ret
  exact ⟨_, rfl, by rw [HE.out]; exact O4.out, B4.out⟩
theorem spec_l33Replace (s : Nat) (O I : List Fm) (hIO : I.length = O.length) (hO1 : O.length ≤ 1000) (hlO : ∀ x ∈ O, (enc x).length ≤ 100) (hlI : ∀ x ∈ I, (enc x).length ≤ 8192) (f : Fm) : RepOK s O I f := by
  induction f with
  | var t =>
    cases ho : (Fm.var t).occ s
    · exact spec_l33Replace_no s O I _ ho
    · exact spec_l33Replace_var s t O I ho
  | fls => exact spec_l33Replace_no s O I _ rfl
  | bin k a b iha ihb =>
    cases ho : (Fm.bin k a b).occ s
    · exact spec_l33Replace_no s O I _ ho
    · exact spec_l33Replace_bin s O I k a b iha ihb ho hlI hIO
  | un k a ih =>
    cases ho : (Fm.un k a).occ s
    · exact spec_l33Replace_no s O I _ ho
    · exact spec_l33Replace_un s O I k a ho hIO hO1 hlO hlI
end Go.Proofs.Ytgdmfihnbbgcoaa
