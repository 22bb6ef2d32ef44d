/- Contracts of the program: the premises of a rule on the left. -/
import Derived.Test.YtaigiopoogbbbaaGreatY29
import Derived.Test.YtaigiopoogbbbaaGreatY31
import Derived.Test.YtaigiopoogbbbaaGreatY25
import Derived.Test.YtaigiopoogbbbaaGreatY14
namespace Go.Proofs.YtaigiopoogbbbaaGreat
open Go.RowKit
set_option linter.unusedVariables false
set_option linter.unusedSimpArgs false
/-- a closure for two small formulas -/
structure ClC (C : List Fm) : Prop where
  ok : ∀ f ∈ C, f.ok = true
  pl : ∀ f ∈ C, f.plain = true
  sh : ∀ f ∈ C, (enc f).length ≤ 20
  few : C.length ≤ 40
  cl : Clsd C
/-- a goal over it -/
structure GC (C L : List Fm) (c : Fm) : Prop where
  cc : ClC C
  gd : Gd C (L, c)
  sm : gsw (L, c) ≤ 200000
theorem GC.len {C L : List Fm} {c : Fm} (h : GC C L c) : L.length ≤ 200000 := by
  have h1 := h.sm
  have h2 := swL_len L
  simp only [gsw] at h1
  omega
theorem bs_txM (L : List Fm) : bs (tx L) = L.map txt := by
  unfold bs tx
  rw [List.map_map]
  rfl
/-- a goal's side with formulas in the place of one -/
theorem impl_insteadF (A B : Option Addr) (n c m d : Nat) (s : ByteArray) (L M : List Fm) (f : Fm) (w : World) (h : Sl cS w (.slice A n c) (L.map txt)) (h' : Sl cS w (.slice B m d) (M.map txt)) (hl : L.length + M.length ≤ 1048576) :
    Calls Tryz.prog 93 #[.agg #[.slice A n c, .string s], .string (txt f), .slice B m d] w fun e w' => ∃ A' c', e = .returned (.agg #[.slice A' (nw L f M).length c', .string s]) ∧ Sl cS w' (.slice A' (nw L f M).length c') ((nw L f M).map txt) ∧ Below w.heap.size w w' := by
  rw [← bs_txM] at h h'
  refine (impl_instead A B n c m d s (tx L) (tx M) (t1 f) w h h' (by simpa [tx] using hl)).mono ?_
  rintro e w' ⟨r, rfl, ho, hb⟩
  rw [tx_dr, tx_pu, bs_txM] at ho
  obtain ⟨A', c', rfl⟩ := ho.opn
  rw [List.length_map] at ho ⊢
  exact ⟨A', c', rfl, ho.sl, hb⟩
theorem impl_withF (A B : Option Addr) (n c m d : Nat) (s : ByteArray) (L M : List Fm) (w : World) (h : Sl cS w (.slice A n c) (L.map txt)) (h' : Sl cS w (.slice B m d) (M.map txt)) (hl : L.length + M.length ≤ 1048576) :
    Calls Tryz.prog 82 #[.agg #[.slice A n c, .string s], .slice B m d] w fun e w' => ∃ A' c', e = .returned (.agg #[.slice A' (pu L M).length c', .string s]) ∧ Sl cS w' (.slice A' (pu L M).length c') ((pu L M).map txt) ∧ Below w.heap.size w w' := by
  rw [← bs_txM] at h h'
  refine (impl_with A B n c m d s (tx L) (tx M) w h h' (by simpa [tx] using hl)).mono ?_
  rintro e w' ⟨r, rfl, ho, hb⟩
  rw [tx_pu, bs_txM] at ho
  obtain ⟨A', c', rfl⟩ := ho.opn
  rw [List.length_map] at ho ⊢
  exact ⟨A', c', rfl, ho.sl, hb⟩
/-- what taking a formula of the left side apart gives: nothing, or premises -/
def TkR (C L : List Fm) (c f : Fm) (w w' : World) (e : Ending) : Prop :=
  Below w.heap.size w w' ∧ ((∃ A n k, e = .returned (.tuple #[.slice A n k, .bool false]) ∧ irr1 L f) ∨
    ∃ A n k gs, e = .returned (.tuple #[.slice A n k, .bool true]) ∧ GlR w' (.slice A n k) gs ∧ gs.length ≤ 2 ∧ Prm C L c (gs.map (·.2)))
theorem GlR.one {w : World} {A : Option Addr} {k : Nat} {L : List Fm} {c : Fm} (h : Sl cS w (.slice A L.length k) (L.map txt)) (e : TypeId) (g : Nat) (hg : g = w.heap.size) :
    GlR (w.alloc (.cells #[.slice A L.length k, .string (txt c)] e)) (.slice (some ⟨g, 0, none⟩) 1 1) [(⟨A, L.length, k⟩, L, c)] := by
  subst hg
  refine ⟨(Ow.lit (K := cG) (w := w) (e := e) (B := w.heap.size) (cs := #[.slice A L.length k, .string (txt c)]) (n := 1) [((⟨A, L.length, k⟩ : Hd), txt c)] rfl rfl (Nat.le_refl _)).sl, fun p hp => ?_⟩
  rw [List.mem_singleton.1 hp]
  exact h.alloc _
theorem GlR.two {w : World} {A A' : Option Addr} {k k' : Nat} {L L' : List Fm} {c c' : Fm} (h : Sl cS w (.slice A L.length k) (L.map txt)) (h' : Sl cS w (.slice A' L'.length k') (L'.map txt)) (e : TypeId) (g : Nat) (hg : g = w.heap.size) :
    GlR (w.alloc (.cells #[.slice A L.length k, .string (txt c), .slice A' L'.length k', .string (txt c')] e)) (.slice (some ⟨g, 0, none⟩) 2 2) [(⟨A, L.length, k⟩, L, c), (⟨A', L'.length, k'⟩, L', c')] := by
  subst hg
  refine ⟨(Ow.lit (K := cG) (w := w) (e := e) (B := w.heap.size) (cs := #[.slice A L.length k, .string (txt c), .slice A' L'.length k', .string (txt c')]) (n := 2) [((⟨A, L.length, k⟩ : Hd), txt c), ((⟨A', L'.length, k'⟩ : Hd), txt c')] rfl rfl (Nat.le_refl _)).sl, fun p hp => ?_⟩
  simp only [List.mem_cons, List.not_mem_nil, or_false] at hp
  rcases hp with rfl | rfl
  · exact h.alloc _
  · exact h'.alloc _
/-- one text laid as a list -/
theorem Sl.txt1 (w : World) (f : Fm) (e : TypeId) (g : Nat) (hg : g = w.heap.size) : Sl cS (w.alloc (.cells #[.string (txt f)] e)) (.slice (some ⟨g, 0, none⟩) 1 1) ([f].map txt) := by
  subst hg
  exact (Ow.lit (K := cS) (w := w) (e := e) (B := w.heap.size) (cs := #[.string (txt f)]) (n := 1) [txt f] rfl rfl (Nat.le_refl _)).sl
theorem Sl.txt2 (w : World) (f f' : Fm) (e : TypeId) (g : Nat) (hg : g = w.heap.size) : Sl cS (w.alloc (.cells #[.string (txt f), .string (txt f')] e)) (.slice (some ⟨g, 0, none⟩) 2 2) ([f, f'].map txt) := by
  subst hg
  exact (Ow.lit (K := cS) (w := w) (e := e) (B := w.heap.size) (cs := #[.string (txt f), .string (txt f')]) (n := 2) [txt f, txt f'] rfl rfl (Nat.le_refl _)).sl
/-- arrow at two and at three formulas laid as a list -/
theorem arr2F {A B : Option Addr} {c d : Nat} (x y : Fm) (w : World) (h : Sl cN w (.slice A (enc x).length c) (enc x)) (h' : Sl cN w (.slice B (enc y).length d) (enc y)) (hl : (enc x).length ≤ 1000) (hl' : (enc y).length ≤ 1000) (g : Nat) (hg : g = w.heap.size) :
    Calls Tryz.prog 98 #[.slice (some ⟨g, 0, none⟩) 2 2] (w.alloc (.cells #[.slice A (enc x).length c, .slice B (enc y).length d] 37)) fun e w' => ∃ A' c', e = .returned (.slice A' (enc (.bin .imp x y)).length c') ∧ Sl cN w' (.slice A' (enc (.bin .imp x y)).length c') (enc (.bin .imp x y)) ∧ Below w.heap.size w w' := by
  refine (impl_arrow_of _ _ w h h' (by omega) (by omega) g hg).mono ?_
  rintro e w' ⟨r, rfl, ho, hb⟩
  have e1 : [(4, 0)] ++ enc x ++ enc y = enc (.bin .imp x y) := by simp [enc, BK.i]
  rw [e1] at ho
  obtain ⟨A', c', rfl⟩ := ho.opn
  exact ⟨A', c', rfl, ho.sl, hb⟩
theorem arr3F {A B D : Option Addr} {c d k : Nat} (x y z : Fm) (w : World) (h : Sl cN w (.slice A (enc x).length c) (enc x)) (h' : Sl cN w (.slice B (enc y).length d) (enc y)) (h2 : Sl cN w (.slice D (enc z).length k) (enc z)) (hl : (enc x).length ≤ 1000) (hl' : (enc y).length ≤ 1000) (hl2 : (enc z).length ≤ 1000) (g : Nat) (hg : g = w.heap.size) :
    Calls Tryz.prog 98 #[.slice (some ⟨g, 0, none⟩) 3 3] (w.alloc (.cells #[.slice A (enc x).length c, .slice B (enc y).length d, .slice D (enc z).length k] 37)) fun e w' => ∃ A' c', e = .returned (.slice A' (enc (.bin .imp x (.bin .imp y z))).length c') ∧ Sl cN w' (.slice A' (enc (.bin .imp x (.bin .imp y z))).length c') (enc (.bin .imp x (.bin .imp y z))) ∧ Below w.heap.size w w' := by
  refine (impl_arrow3 _ _ _ _ _ (Sl2.three h h' h2 37 g hg) hl hl' hl2).mono ?_
  rintro e w' ⟨r, rfl, ho, hb⟩
  have e1 : [(4, 0)] ++ enc x ++ ([(4, 0)] ++ enc y ++ enc z) = enc (.bin .imp x (.bin .imp y z)) := by simp [enc, BK.i]
  rw [e1] at ho
  obtain ⟨A', c', rfl⟩ := ho.opn
  exact ⟨A', c', rfl, ho.sl, ((Below.refl _ _).alloc (Nat.le_refl _) _).trans (hb.mono (by simp))⟩
/-- the parts of a formula with two -/
theorem fstF (k : BK) (x y : Fm) (v : Value) (w : World) (h : Sl cN w v (enc (.bin k x y))) (hl : (enc (.bin k x y)).length ≤ 1000) :
    Calls Tryz.prog 67 #[v] w fun e w' => ∃ A' c', e = .returned (.slice A' (enc x).length c') ∧ Sl cN w (.slice A' (enc x).length c') (enc x) ∧ w = w' := by
  refine (impl_first v (k.i, 0) x (enc y) w h (by show (enc (.bin k x y)).length ≤ _; omega)).mono ?_
  rintro e w' ⟨u, rfl, hs, hw⟩
  obtain ⟨A', c', rfl⟩ := hs.opn
  exact ⟨A', c', rfl, hs, hw⟩
theorem sndF (k : BK) (x y : Fm) (v : Value) (w : World) (h : Sl cN w v (enc (.bin k x y))) (hl : (enc (.bin k x y)).length ≤ 1000) :
    Calls Tryz.prog 68 #[v] w fun e w' => ∃ A' c', e = .returned (.slice A' (enc y).length c') ∧ Sl cN w (.slice A' (enc y).length c') (enc y) ∧ w = w' := by
  have e0 : enc (.bin k x y) = (k.i, 0) :: (enc x ++ (enc y ++ [])) := by rw [List.append_nil]; rfl
  rw [e0] at h hl
  refine (impl_second v (k.i, 0) x y [] w h (by omega)).mono ?_
  rintro e w' ⟨u, rfl, hs, hw⟩
  obtain ⟨A', c', rfl⟩ := hs.opn
  exact ⟨A', c', rfl, hs, hw⟩
/-- the text of a formula, in a later world -/
theorem txtF (f : Fm) {v : Value} {w w' : World} (h : Sl cN w v (enc f)) (hb : Below w.heap.size w w') (hl : (enc f).length ≤ 1000) (hok : f.ok = true) :
    Calls Tryz.prog 53 #[v] w' fun e w2 => e = .returned (.string (txt f)) ∧ Below w'.heap.size w' w2 :=
  (impl_text f v w' (h.below hb) (by omega) hok).mono fun e w2 ⟨he, m, hw⟩ => ⟨he, by subst hw; exact below_drewN (Below.refl _ _) m⟩
set_option maxRecDepth 100000 in
set_option maxHeartbeats 1000000 in
theorem impl_implied (C L : List Fm) (c a d : Fm) (A : Option Addr) (n k : Nat) (va vd : Value) (w : World) (hg : GC C L c) (hf : .bin .imp a d ∈ L) (h : Sl cS w (.slice A n k) (L.map txt)) (ha : Sl cN w va (enc a)) (hd : Sl cN w vd (enc d)) :
    Calls Tryz.prog 94 #[.agg #[.slice A n k, .string (txt c)], .string (txt (.bin .imp a d)), va, vd] w fun e w' => TkR C L c (.bin .imp a d) w w' e := by
  have hlen := hg.len
  have hfC := (hg.gd.2.1 _ hf).2
  obtain ⟨haC, hdC⟩ := hg.cc.cl.bin _ _ _ hfC
  have haok := hg.cc.ok _ haC
  have hdok := hg.cc.ok _ hdC
  have hapl := hg.cc.pl _ haC
  have hash := hg.cc.sh _ haC
  have hdsh := hg.cc.sh _ hdC
  have hb0 := below_alloc' w (.cells #[.slice A n k, .string (txt c)] 80)
  have HK := Lib.hid (Blk.new w 80 #[.slice A n k, .string (txt c)])
  obtain ⟨A1, c1, rfl⟩ := ha.opn
  obtain ⟨A2, c2, rfl⟩ := hd.opn
  have HL := Lib.hid (h.below hb0)
  have HA := Lib.hid (ha.below hb0)
  have HD := Lib.hid (hd.below hb0)
  have HB := Lib.hid hb0
  have HG := Lib.hid hg
  have HF := Lib.hid hf
  have HI := Lib.hid (fun W (M : List Fm) B m z (hM : M.length ≤ 2) (h1 : Sl cS W (.slice A n k) (L.map txt)) (h2 : Sl cS W (.slice B m z) (M.map txt)) => impl_insteadF A B n k m z (txt c) L M (.bin .imp a d) W h1 h2 (by omega))
  generalize txt (.bin .imp a d) = tf at *
  clear hb0 h ha hd hg hf hfC
  cases a with
  | fls =>
    go_enter Tryz.func94, Tryz.ntmps94
    go_upto_region 1 with fail
    generalize World.alloc w _ = w1 at *
    have k0 := HK.out.cell 0
    have k1 := HK.out.cell 1
    have l1 := HK.out.lt
    obtain ⟨b, o, rfl, hb, hc⟩ := HA.out.cell (k := 0) (by simp [enc])
    have hc0 : w1.cell? ⟨b, o, none⟩ = some (.int .i64 1) := hc 0 _ rfl
    clear hc
    go_wp2_with fail
    refine (HI.out _ [] none 0 0 (by simp) HL.out Sl.nil).mono ?_
    rintro e w2 ⟨A9, c9, rfl, hs, hb2⟩
    have HB2 := Lib.hid (bthen HB.out hb2)
    have HS := Lib.hid hs
    clear hs hb2 k0 k1 l1 hc0
    go_wp2
    go_ret2
    exact ⟨HB2.out.alloc HB2.out.size _, .inr ⟨_, _, _, _, rfl, GlR.one HS.out _ _ rfl, by simp, prm_fi HG.out.cc.ok HG.out.cc.cl HG.out.gd HF.out⟩⟩
  | var s =>
    obtain ⟨bb, hbb, HT, HF1⟩ : ∃ bb : Bool, (bb = true ↔ txt (.var s) ∈ L.map txt) ∧ Hid (bb = true → .var s ∈ L) ∧ Hid (bb = false → .var s ∉ L) := by
      have h1 : txt (.var s) ∈ L.map txt ↔ .var s ∈ L := by
        rw [List.mem_map]
        exact ⟨fun ⟨f, h2, h3⟩ => txt_injI (HG.out.gd.2.1 f h2).1 haok h3 ▸ h2, fun h => ⟨_, h, rfl⟩⟩
      by_cases hs : .var s ∈ L
      · exact ⟨true, ⟨fun _ => h1.2 hs, fun _ => rfl⟩, Lib.hid fun _ => hs, Lib.hid fun e => by cases e⟩
      · exact ⟨false, ⟨fun e => by (cases e), fun e => absurd (h1.1 e) hs⟩, Lib.hid fun e => by (cases e), Lib.hid fun _ => hs⟩
    have HCt := Lib.hid (fun W (hW : Sl cS W (.slice A n k) (L.map txt)) => slices_ContainsS _ (L.map txt) (txt (.var s)) bb hbb W hW (by rw [List.length_map]; omega))
    clear hbb
    clear hlen
    go_enter Tryz.func94, Tryz.ntmps94
    go_upto_region 1 with fail
    generalize World.alloc w _ = w1 at *
    have k0 := HK.out.cell 0
    have k1 := HK.out.cell 1
    have l1 := HK.out.lt
    obtain ⟨b, o, rfl, hb, hc⟩ := HA.out.cell (k := 0) (by simp [enc])
    have hc0 : w1.cell? ⟨b, o, none⟩ = some (.int .i64 0) := hc 0 _ rfl
    have hpp := enc_pos (.var s)
    clear hc
    go_upto_region 5 with fail
    refine wp_region_tree (Below w1.heap.size w1) 12 (.q 0 (.q 1 (.q 2 (.q 7 (.q 8 (.q 9 (.r 3 (.r 4 (.r 5 (.rr 6 10 (.r 10 (.q 11 .fin)) (.q 11 (.r 6 .fin)))))))))))) (by kernel_rfl) (by kernel_rfl) (Below.refl _ _).drew ?_
    repeat
      apply wpT_q rfl
      case h =>
        intro w' hI K hK
        have k0' := (hI.cell (p := ⟨w.heap.size, 0, none⟩) l1).trans k0
        have k1' := (hI.cell (p := ⟨w.heap.size, 1, none⟩) l1).trans k1
        simp only [quietV, stillV]
        go_simp
        exact hK
      go_simp
    refine wpT_r rfl ?_ (Below.refl _ _).drew
    intro K hK hI
    go_simp
    refine (impl_text d _ _ (HD.out.below hI) (by omega) hdok).mono ?_
    rintro e wa ⟨rfl, m, rfl⟩
    have hIa := below_drewN hI m
    refine hK _ _ hIa ?_
    clear hK K hI
    generalize World.drewN _ m = wa at *
    refine wpT_r rfl ?_ hIa
    intro K hK _
    go_simp
    have hM := Sl.txt1 wa d 9 _ rfl
    have hIb := hIa.alloc hIa.size (.cells #[.string (txt d)] 9)
    refine hK _ _ hIb ?_
    clear hK K
    generalize World.alloc wa _ = wb at *
    refine wpT_r rfl ?_ hIb
    intro K hK _
    go_simp
    refine (HI.out wb [d] _ _ _ (by simp) (HL.out.below hIb) hM).mono ?_
    rintro e wc ⟨A9, c9, rfl, hs, hb2⟩
    have hIc := hIb.trans (hb2.mono hIb.size)
    refine hK _ _ hIc ?_
    clear hK K hM hb2 hIb hIa
    refine wpT_rr rfl rfl ?_ ?_ hIc
    · intro K hK hI
      go_simp
      have hId := hIc.alloc hIc.size (.cells #[.slice A9 (nw L (.bin .imp (.var s) d) [d]).length c9, .string (txt c)] 80)
      have hG := GlR.one (c := c) hs 80 _ rfl
      refine hK _ _ hId ?_
      clear hK K hI
      generalize World.alloc wc _ = wd at *
      generalize wc.heap.size = g at *
      refine wpT_r rfl ?_ hId
      intro K hK hI
      go_simp
      refine (impl_text (.var s) _ _ (HA.out.below hI) (by omega) haok).mono ?_
      rintro e we ⟨rfl, m, rfl⟩
      have hIe := below_drewN hI m
      have hG2 : GlR (World.drewN wd m) _ _ := hG.below (below_drewN (Below.refl _ _) m)
      refine hK _ _ hIe ?_
      clear hK K hI hG hId hIc hs
      generalize World.drewN _ m = we at *
      apply wpT_q rfl
      case h =>
        intro w' hI K hK
        simp only [quietV, stillV]
        go_simp
        exact ⟨.bool bb, (HCt.out w' (HL.out.below hI)).mono fun e w'' ⟨h1, h2⟩ => ⟨h1, h2.symm⟩, hK⟩
      refine wpT_fin ?_
      try simp only [List.drop_succ_cons, List.drop_zero, List.drop_nil]
      have HE := Lib.hid (bthen HB.out hIe)
      have G2 := Lib.hid hG2
      clear hIe hG2 k0 k1 l1 hc0 hpp hb HI HCt
      cases bb
      · have HN := Lib.hid (HF1.out rfl)
        clear HT HF1
        go_wp2
        go_ret2
        exact ⟨HE.out, .inl ⟨_, _, _, rfl, .inr (.inl ⟨_, _, rfl, HN.out⟩)⟩⟩
      · have HN := Lib.hid (HT.out rfl)
        clear HT HF1
        go_wp2
        go_ret2
        exact ⟨HE.out, .inr ⟨_, _, _, _, rfl, G2.out, by simp, prm_vi HG.out.cc.ok HG.out.cc.cl HG.out.gd HF.out HN.out⟩⟩
    · intro K hK hI
      go_simp
      refine (impl_text (.var s) _ _ (HA.out.below hI) (by omega) haok).mono ?_
      rintro e we ⟨rfl, m, rfl⟩
      have hIe := below_drewN hI m
      have hs2 : Sl cS (World.drewN wc m) _ _ := hs.below (below_drewN (Below.refl _ _) m)
      refine hK _ _ hIe ?_
      clear hK K hI hs hIc
      generalize World.drewN _ m = we at *
      apply wpT_q rfl
      case h =>
        intro w' hI K hK
        simp only [quietV, stillV]
        go_simp
        exact ⟨.bool bb, (HCt.out w' (HL.out.below hI)).mono fun e w'' ⟨h1, h2⟩ => ⟨h1, h2.symm⟩, hK⟩
      refine wpT_r rfl ?_ hIe
      intro K hK hI
      go_simp
      have hId := hIe.alloc hIe.size (.cells #[.slice A9 (nw L (.bin .imp (.var s) d) [d]).length c9, .string (txt c)] 80)
      have hG := GlR.one (c := c) hs2 80 _ rfl
      refine hK _ _ hId ?_
      clear hK K hI
      refine wpT_fin ?_
      try simp only [List.drop_succ_cons, List.drop_zero, List.drop_nil]
      have HE := Lib.hid (bthen HB.out hId)
      have G2 := Lib.hid hG
      clear hIe hs2 hId hG k0 k1 l1 hc0 hpp hb HI HCt
      generalize World.alloc we _ = wd at *
      generalize we.heap.size = g at *
      cases bb
      · have HN := Lib.hid (HF1.out rfl)
        clear HT HF1
        go_wp2
        go_ret2
        exact ⟨HE.out, .inl ⟨_, _, _, rfl, .inr (.inl ⟨_, _, rfl, HN.out⟩)⟩⟩
      · have HN := Lib.hid (HT.out rfl)
        clear HT HF1
        go_wp2
        go_ret2
        exact ⟨HE.out, .inr ⟨_, _, _, _, rfl, G2.out, by simp, prm_vi HG.out.cc.ok HG.out.cc.cl HG.out.gd HF.out HN.out⟩⟩
  | bin kk x y =>
    cases kk with
    | imp =>
      obtain ⟨hxC, hyC⟩ := HG.out.cc.cl.bin _ _ _ haC
      have hxok := HG.out.cc.ok _ hxC
      have hyok := HG.out.cc.ok _ hyC
      have hxsh := HG.out.cc.sh _ hxC
      have hysh := HG.out.cc.sh _ hyC
      go_enter Tryz.func94, Tryz.ntmps94
      go_upto_region 1 with fail
      generalize World.alloc w _ = w1 at *
      have k0 := HK.out.cell 0
      have k1 := HK.out.cell 1
      have l1 := HK.out.lt
      obtain ⟨b, o, rfl, hb, hc⟩ := HA.out.cell (k := 0) (enc_pos _)
      have hc0 : w1.cell? ⟨b, o, none⟩ = some (.int .i64 4) := hc 0 _ rfl
      have hpp := enc_pos (.bin .imp x y)
      clear hc
      go_wp2
      go_ret2
      exact ⟨HB.out, .inl ⟨_, _, _, rfl, .inr (.inr ⟨x, y, d, rfl⟩)⟩⟩
    | and =>
      have hz := HG.out.cc.cl.ai _ _ _ (HG.out.gd.2.1 _ HF.out).2
      have hzok := HG.out.cc.ok _ hz
      have hzsh := HG.out.cc.sh _ hz
      obtain ⟨hxC, hyC⟩ := HG.out.cc.cl.bin _ _ _ haC
      have hxok := HG.out.cc.ok _ hxC
      have hyok := HG.out.cc.ok _ hyC
      have hxsh := HG.out.cc.sh _ hxC
      have hysh := HG.out.cc.sh _ hyC
      go_enter Tryz.func94, Tryz.ntmps94
      go_upto_region 1 with fail
      generalize World.alloc w _ = w1 at *
      have k0 := HK.out.cell 0
      have k1 := HK.out.cell 1
      have l1 := HK.out.lt
      obtain ⟨b, o, rfl, hb, hc⟩ := HA.out.cell (k := 0) (enc_pos _)
      have hc0 : w1.cell? ⟨b, o, none⟩ = some (.int .i64 2) := hc 0 _ rfl
      have hpp := enc_pos (.bin .and x y)
      clear hc
      go_upto_region 7 with fail
      refine wp_region_sched (Below w1.heap.size w1) 12 [0, 1, 2, 4, 6] [0, 1, 2, 4, 6, 3, 5, 7, 8, 9, 10, 11] (by kernel_rfl) (by kernel_rfl) (Below.refl _ _).drew ?_
      repeat
        apply wpSched_q rfl rfl
        case h =>
          intro w' hI K hK
          have k0' := (hI.cell (p := ⟨w.heap.size, 0, none⟩) l1).trans k0
          have k1' := (hI.cell (p := ⟨w.heap.size, 1, none⟩) l1).trans k1
          simp only [quietV, stillV]
          go_simp
          exact hK
        go_simp
      refine wpSched_r rfl rfl ?_ (Below.refl _ _).drew
      intro K hK hI
      go_simp
      refine (fstF .and x y _ _ (HA.out.below hI) (by omega)).mono ?_
      rintro e wa ⟨Ax, cx, rfl, hx, rfl⟩
      refine hK _ _ hI ?_
      clear hK K hI
      refine wpSched_r rfl rfl ?_ (Below.refl _ _).drew
      intro K hK hI
      go_simp
      refine (sndF .and x y _ _ (HA.out.below hI) (by omega)).mono ?_
      rintro e wa ⟨Ay, cy, rfl, hy, rfl⟩
      refine hK _ _ hI ?_
      clear hK K hI
      have hI0 : Below w1.heap.size w1 w1.drew := (Below.refl _ _).drew
      have hdd := HD.out.below hI0
      generalize World.drew w1 = wa at *
      refine wpSched_r rfl rfl ?_ hI0
      intro K hK hI
      go_simp
      refine hK _ _ (hI0.alloc hI0.size _) ?_
      clear hK K hI
      refine wpSched_r rfl rfl ?_ (hI0.alloc hI0.size _)
      intro K hK hI
      go_simp
      refine (arr3F x y d wa hx hy hdd (by omega) (by omega) (by omega) _ rfl).mono ?_
      rintro e wb ⟨Az, cz, rfl, hzs, hb2⟩
      have hIb := hI0.trans (hb2.mono hI0.size)
      refine hK _ _ hIb ?_
      clear hK K hI hx hy hdd hb2
      refine wpSched_r rfl rfl ?_ hIb
      intro K hK hI
      go_simp
      refine (txtF (.bin .imp x (.bin .imp y d)) hzs (Below.refl _ _) (by omega) hzok).mono ?_
      rintro e wc ⟨rfl, hb⟩
      have hIc := hI.trans (hb.mono hI.size)
      refine hK _ _ hIc ?_
      clear hK K hI hb
      refine wpSched_r rfl rfl ?_ hIc
      intro K hK hI
      go_simp
      have hM := Sl.txt1 wc (.bin .imp x (.bin .imp y d)) 9 _ rfl
      have hId := hIc.alloc hIc.size (.cells #[.string (txt (.bin .imp x (.bin .imp y d)))] 9)
      refine hK _ _ hId ?_
      clear hK K hI
      generalize World.alloc wc _ = wd at *
      refine wpSched_r rfl rfl ?_ hId
      intro K hK hI
      go_simp
      refine (HI.out wd [.bin .imp x (.bin .imp y d)] _ _ _ (by simp) (HL.out.below hId) hM).mono ?_
      rintro e we ⟨A9, c9, rfl, hs, hb⟩
      have hIe := hI.trans (hb.mono hI.size)
      refine hK _ _ hIe ?_
      clear hK K hI hb
      refine wpSched_nil ?_
      try simp only [List.drop_succ_cons, List.drop_zero, List.drop_nil]
      have HE := Lib.hid (bthen HB.out hIe)
      have HS := Lib.hid hs
      clear hIe hs hM hId hIc hIb hI0 hzs k0 k1 l1 hc0 hpp hb HI
      go_wp2
      go_ret2
      exact ⟨HE.out.alloc HE.out.size _, .inr ⟨_, _, _, _, rfl, GlR.one HS.out _ _ rfl, by simp, prm_ai HG.out.cc.ok HG.out.cc.cl HG.out.gd HF.out⟩⟩
    | or =>
      obtain ⟨hz1, hz2⟩ := HG.out.cc.cl.oi _ _ _ (HG.out.gd.2.1 _ HF.out).2
      have hz1ok := HG.out.cc.ok _ hz1
      have hz1sh := HG.out.cc.sh _ hz1
      have hz2ok := HG.out.cc.ok _ hz2
      have hz2sh := HG.out.cc.sh _ hz2
      obtain ⟨hxC, hyC⟩ := HG.out.cc.cl.bin _ _ _ haC
      have hxok := HG.out.cc.ok _ hxC
      have hyok := HG.out.cc.ok _ hyC
      have hxsh := HG.out.cc.sh _ hxC
      have hysh := HG.out.cc.sh _ hyC
      go_enter Tryz.func94, Tryz.ntmps94
      go_upto_region 1 with fail
      generalize World.alloc w _ = w1 at *
      have k0 := HK.out.cell 0
      have k1 := HK.out.cell 1
      have l1 := HK.out.lt
      obtain ⟨b, o, rfl, hb, hc⟩ := HA.out.cell (k := 0) (enc_pos _)
      have hc0 : w1.cell? ⟨b, o, none⟩ = some (.int .i64 3) := hc 0 _ rfl
      have hpp := enc_pos (.bin .or x y)
      clear hc
      go_upto_region 9 with fail
      refine wp_region_sched (Below w1.heap.size w1) 16 [0, 1, 2, 4, 8, 10] [0, 1, 2, 4, 8, 10, 3, 5, 6, 7, 9, 11, 12, 13, 14, 15] (by kernel_rfl) (by kernel_rfl) (Below.refl _ _).drew ?_
      repeat
        apply wpSched_q rfl rfl
        case h =>
          intro w' hI K hK
          have k0' := (hI.cell (p := ⟨w.heap.size, 0, none⟩) l1).trans k0
          have k1' := (hI.cell (p := ⟨w.heap.size, 1, none⟩) l1).trans k1
          simp only [quietV, stillV]
          go_simp
          exact hK
        go_simp
      refine wpSched_r rfl rfl ?_ (Below.refl _ _).drew
      intro K hK hI
      go_simp
      refine (fstF .or x y _ _ (HA.out.below hI) (by omega)).mono ?_
      rintro e wa ⟨Ax, cx, rfl, hx, rfl⟩
      refine hK _ _ hI ?_
      clear hK K hI
      have hI0 : Below w1.heap.size w1 w1.drew := (Below.refl _ _).drew
      have hdd := HD.out.below hI0
      generalize World.drew w1 = wa at *
      refine wpSched_r rfl rfl ?_ hI0
      intro K hK hI
      go_simp
      refine hK _ _ (hI0.alloc hI0.size _) ?_
      clear hK K hI
      refine wpSched_r rfl rfl ?_ (hI0.alloc hI0.size _)
      intro K hK hI
      go_simp
      refine (arr2F x d wa hx hdd (by omega) (by omega) _ rfl).mono ?_
      rintro e wb ⟨Az, cz, rfl, hzs, hb2⟩
      have hIb := hI0.trans (hb2.mono hI0.size)
      refine hK _ _ hIb ?_
      clear hK K hI hx hdd hb2
      refine wpSched_r rfl rfl ?_ hIb
      intro K hK hI
      go_simp
      refine (txtF (.bin .imp x d) hzs (Below.refl _ _) (by omega) hz1ok).mono ?_
      rintro e wc ⟨rfl, hb⟩
      have hIc := hI.trans (hb.mono hI.size)
      refine hK _ _ hIc ?_
      clear hK K hI hb
      refine wpSched_r rfl rfl ?_ hIc
      intro K hK hI
      go_simp
      refine (sndF .or x y _ _ (HA.out.below hI) (by omega)).mono ?_
      rintro e wd ⟨Ay, cy, rfl, hy, rfl⟩
      refine hK _ _ hI ?_
      clear hK K hI
      have hdd := HD.out.below hIc
      refine wpSched_r rfl rfl ?_ hIc
      intro K hK hI
      go_simp
      refine hK _ _ (hIc.alloc hIc.size _) ?_
      clear hK K hI
      refine wpSched_r rfl rfl ?_ (hIc.alloc hIc.size _)
      intro K hK hI
      go_simp
      refine (arr2F y d wc hy hdd (by omega) (by omega) _ rfl).mono ?_
      rintro e wd ⟨Az2, cz2, rfl, hzs2, hb2⟩
      have hId := hIc.trans (hb2.mono hIc.size)
      refine hK _ _ hId ?_
      clear hK K hI hy hdd hb2
      refine wpSched_r rfl rfl ?_ hId
      intro K hK hI
      go_simp
      refine (txtF (.bin .imp y d) hzs2 (Below.refl _ _) (by omega) hz2ok).mono ?_
      rintro e we ⟨rfl, hb⟩
      have hIe := hI.trans (hb.mono hI.size)
      refine hK _ _ hIe ?_
      clear hK K hI hb
      refine wpSched_r rfl rfl ?_ hIe
      intro K hK hI
      go_simp
      have hM := Sl.txt2 we (.bin .imp x d) (.bin .imp y d) 9 _ rfl
      have hIf := hIe.alloc hIe.size (.cells #[.string (txt (.bin .imp x d)), .string (txt (.bin .imp y d))] 9)
      refine hK _ _ hIf ?_
      clear hK K hI
      generalize World.alloc we _ = wf at *
      refine wpSched_r rfl rfl ?_ hIf
      intro K hK hI
      go_simp
      refine (HI.out wf [.bin .imp x d, .bin .imp y d] _ _ _ (by simp) (HL.out.below hIf) hM).mono ?_
      rintro e wg ⟨A9, c9, rfl, hs, hb⟩
      have hIg := hI.trans (hb.mono hI.size)
      refine hK _ _ hIg ?_
      clear hK K hI hb
      refine wpSched_nil ?_
      try simp only [List.drop_succ_cons, List.drop_zero, List.drop_nil]
      have HE := Lib.hid (bthen HB.out hIg)
      have HS := Lib.hid hs
      clear hIg hs hM hIf hIe hId hIc hIb hI0 hzs hzs2 k0 k1 l1 hc0 hpp hb HI
      go_wp2
      go_ret2
      exact ⟨HE.out.alloc HE.out.size _, .inr ⟨_, _, _, _, rfl, GlR.one HS.out _ _ rfl, by simp, prm_oi HG.out.cc.ok HG.out.cc.cl HG.out.gd HF.out⟩⟩
  | un kk x => simp [Fm.plain] at hapl
end Go.Proofs.YtaigiopoogbbbaaGreat
