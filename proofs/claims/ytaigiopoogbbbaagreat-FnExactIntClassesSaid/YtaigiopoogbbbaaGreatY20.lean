/- Joined of several texts. -/
import Derived.Test.YtaigiopoogbbbaaGreatY18
import Derived.Test.YtaigiopoogbbbaaGreatY19
import Derived.Test.YtaigiopoogbbbaaGreatY06
namespace Go.Proofs.YtaigiopoogbbbaaGreat
/- Contracts of the program: texts put to a side; the formula of a text. -/
open Go.RowKit
set_option linter.unusedVariables false
set_option linter.unusedSimpArgs false
theorem Sl2.twoS {w : World} {A A' : Option Addr} {n c n' c' : Nat} {xs ys : List ByteArray} (h : Sl cS w (.slice A n c) xs) (h' : Sl cS w (.slice A' n' c') ys) (e : TypeId) :
    Sl2 cS (w.alloc (.cells #[.slice A n c, .slice A' n' c'] e)) (.slice (some ⟨w.heap.size, 0, none⟩) 2 2) [xs, ys] := Sl2.two h h' e
theorem impl_put (v u : Value) (L M : List T8) (w : World) (h : Sl cS w v (bs L)) (h' : Sl cS w u (bs M)) (hl : L.length + M.length ≤ 1048576) :
    Calls Tryz.prog 65 #[v, u] w fun e w' => ∃ r, e = .returned r ∧ Ow cS 9 w.heap.size w' r (bs (sbI8 (L ++ M))) ∧ Below w.heap.size w w' := by
  obtain ⟨A, c, rfl⟩ := h.opn
  obtain ⟨B, d, rfl⟩ := h'.opn
  have H0 := Lib.hid (Sl2.twoS h h' 62)
  have HBb := Lib.hid (bs_app L M)
  have HS := Lib.hid (sbI8_sort (L ++ M))
  have hLM : (L ++ M).length ≤ 1048576 := by rw [List.length_append]; omega
  have HL : Hid ([bs L, bs M].flatten.length ≤ 1048576) := Lib.hid (by simp [bs_length]; omega)
  have HE : Hid ([bs L, bs M].flatten = bs (L ++ M)) := Lib.hid (by rw [bs_app]; simp)
  clear h h'
  go_enter Tryz.func65, Tryz.ntmps65
  go_wp2_with fail
  have hb0 := below_alloc' w (.cells #[.slice A (bs L).length c, .slice B (bs M).length d] 62)
  have HB0 := Lib.hid hb0
  clear hb0
  generalize World.alloc w _ = w1 at *
  refine (slices_Concat_strs _ [bs L, bs M] _ H0.out (by simp) HL.out).mono ?_
  rintro e w2 ⟨r, rfl, ho, hb⟩
  rw [HE.out] at ho
  have HB2 := Lib.hid (bthen HB0.out hb)
  have O2 := Lib.hid (ho.mono HB0.out.size)
  clear ho hb H0 HB0
  go_wp2_with fail
  refine (slices_SortS _ (L ++ M) w.heap.size _ (Ow.l8 O2.out) (by omega)).mono ?_
  rintro e w3 ⟨rfl, ho, hb⟩
  have HB3 := Lib.hid (HB2.out.trans hb)
  have O3 := Lib.hid ho
  clear ho hb O2 HB2
  go_wp2_with fail
  refine (slices_CompactS _ _ w.heap.size _ O3.out (by rw [List.length_mergeSort]; omega)).mono ?_
  rintro e w4 ⟨r4, rfl, ho, hb⟩
  rw [List.length_mergeSort, HS.out] at ho
  have HB4 := Lib.hid (HB3.out.trans hb)
  have O4 := Lib.hid (Ow.s8 ho)
  clear ho hb O3 HB3
  go_wp2
  go_ret
  exact ⟨_, rfl, O4.out, HB4.out⟩
theorem impl_treeOf (f : Fm) (w : World) (hok : f.ok = true) (hs : (txt f).size ≤ 1000) :
    Calls Tryz.prog 78 #[.string (txt f)] w fun e w' => ∃ u, e = .returned u ∧ Ow cN 46 w.heap.size w' u (enc f) ∧ Below w.heap.size w w' := by
  have hb := below_alloc' w (.cells #[.string (txt f), .int .i64 0, .bool false] 107)
  have hB := Blk.new w 107 #[.string (txt f), .int .i64 0, .bool false]
  have HF := Lib.hid ((iR_all (txt f) hs (mz (txt f) 0 false)).2 0 false (Nat.le_refl _) w.heap.size _ hB (Nat.zero_le _))
  have HR := Lib.hid (txt_read f hok)
  have HB := Lib.hid hb
  clear hb hB
  go_enter Tryz.func78, Tryz.ntmps78
  go_wp2_with fail
  refine HF.out.mono ?_
  rintro e w1 ⟨u, a, j, c, rfl, hR, ho, hB, hG⟩
  obtain ⟨rfl, rfl, rfl⟩ := hR.one HR.out
  have O := Lib.hid (ho.mono HB.out.size)
  have BB := Lib.hid (below_grown HB.out hG HB.out.size (fun k e => by injection e; omega))
  clear ho hB hG HB HF hR HR
  go_wp2
  go_ret
  exact ⟨_, rfl, O.out, BB.out⟩
/- Contracts of the program: the texts of a formula's parts; a side without a text; is a text in a side? -/
open Go.RowKit
set_option linter.unusedVariables false
set_option linter.unusedSimpArgs false
theorem kidsI (f : Fm) (hok : f.ok = true) : (kids f).length ≤ 2 ∧ ∀ g ∈ kids f, g.ok = true ∧ (enc g).length ≤ (enc f).length := by
  cases f with
  | bin k a b =>
    simp only [Fm.ok, Bool.and_eq_true] at hok
    refine ⟨by simp [kids], fun g hg => ?_⟩
    simp only [kids, List.mem_cons, List.not_mem_nil, or_false] at hg
    simp only [enc, List.length_cons, List.length_append]
    rcases hg with rfl | rfl
    · exact ⟨hok.1, by omega⟩
    · exact ⟨hok.2, by omega⟩
  | un k a =>
    simp only [Fm.ok] at hok
    refine ⟨by simp [kids], fun g hg => ?_⟩
    simp only [kids, List.mem_cons, List.not_mem_nil, or_false] at hg
    subst hg
    simp only [enc, List.length_cons]
    exact ⟨hok, by omega⟩
  | var s => exact ⟨by simp [kids], fun g hg => by simp [kids] at hg⟩
  | fls => exact ⟨by simp [kids], fun g hg => by simp [kids] at hg⟩
set_option maxRecDepth 100000 in
theorem impl_partTexts (f : Fm) (v : Value) (w : World) (h : Sl cN w v (enc f)) (hl : (enc f).length ≤ 40) (hok : f.ok = true) :
    Calls Tryz.prog 79 #[v] w fun e w' => ∃ r, e = .returned r ∧ Ow cS 9 w.heap.size w' r ((kids f).map txt) ∧ Below w.heap.size w w' := by
  obtain ⟨hk2, hko⟩ := kidsI f hok
  have KO := Lib.hid hko
  have H0 := Lib.hid h
  clear h hok hko
  go_enter Tryz.func79, Tryz.ntmps79
  go_wp2_with fail
  refine (impl_parts f v _ H0.out (by omega)).mono ?_
  rintro e w1 ⟨u, rfl, hs, hb⟩
  have EL : Hid (((kids f).map enc).length = (kids f).length) := Lib.hid (List.length_map ..)
  obtain ⟨A1, c1, rfl⟩ := hs.opn
  rw [EL.out] at hs ⊢
  have H1 := Lib.hid hs
  have HB1 := Lib.hid hb
  clear hs hb H0
  have HT := Lib.hid (fun j (hj : j < (kids f).length) => show ((kids f).take (j + 1)).map txt = ((kids f).take j).map txt ++ [txt ((kids f)[j]'hj)] by rw [List.take_succ_eq_append_getElem hj, List.map_append]; rfl)
  have hz := HB1.out.size
  go_wp2
  go_loopw [3, 9] (fun q i wr => ∃ j : Nat, i = .int .i64 (j : Int) ∧ j ≤ (kids f).length ∧ Ow cS 9 w1.heap.size wr q (((kids f).take j).map txt) ∧ Below w1.heap.size w1 wr) (fun _ i _ => (kids f).length - (intOf i).toNat)
  case atStart => exact ⟨0, rfl, Nat.zero_le _, Ow.nil _ _, Below.refl _ _⟩
  case round =>
    obtain ⟨j, rfl, hj, ho, hb1⟩ := hrel
    obtain ⟨A2, c2, rfl⟩ := ho.opn
    have eL : (((kids f).take j).map txt).length = j := by rw [List.length_map, List.length_take]; omega
    rw [eL] at ho ⊢
    have O := Lib.hid ho
    have B1 := Lib.hid hb1
    clear ho
    by_cases hlt : j < (kids f).length
    · obtain ⟨b, o, Ai, ci, rfl, hbl, hc0, hs0⟩ := (H1.out.below hb1).atM (show j < ((kids f).map enc).length by rw [EL.out]; exact hlt)
      have e1 : ((kids f).map enc)[j]'(by rw [EL.out]; exact hlt) = enc ((kids f)[j]'hlt) := by rw [List.getElem_map]
      rw [e1] at hc0 hs0
      obtain ⟨hok1, hle1⟩ := KO.out _ (List.getElem_mem hlt)
      have HX := Lib.hid (impl_text ((kids f)[j]'hlt) _ wr hs0 (by omega) hok1)
      have HTj := Lib.hid (HT.out j hlt)
      clear hb1 e1 hs0 hok1
      generalize (kids f)[j]'hlt = g at *
      go_wp2_with fail
      refine HX.out.mono ?_
      rintro e w2 ⟨rfl, m, rfl⟩
      replace O := Lib.hid (O.out.drewN m)
      replace B1 := Lib.hid (below_drewN B1.out m)
      clear hc0 hbl HX
      generalize World.drewN _ m = w2 at *
      go_wp2_with (at_builtin; refine stopHere ?_)
      refine goHere ?_
      refine ap_one (K := cS) w2 ty_str rfl _ _ rfl (B := w1.heap.size) (v := .slice A2 j c2) (xs := ((kids f).take j).map txt) rfl O.out (txt g) rfl rfl (by rw [eL]; omega) B1.out.size ?_
      intro v3 w3 ho hg hb1 hat
      have HB3 := Lib.hid (B1.out.trans hb1)
      have O3 : Hid (Ow cS 9 w1.heap.size w3 v3 (((kids f).take (j + 1)).map txt)) := Lib.hid (by rw [HTj.out]; exact ho)
      clear ho hg hb1 hat
      go_wp2
      go_roundw
      case rel => exact ⟨j + 1, by go_num, by omega, O3.out, HB3.out⟩
      case measure => simp [intOf]; omega
    · obtain rfl : j = (kids f).length := by omega
      rw [List.take_length] at O
      have O9 := Lib.hid (O.out.mono hz)
      clear hb1 O
      go_wp2
      go_ret
      exact ⟨_, rfl, O9.out, bthen HB1.out B1.out⟩
/- Contracts of the program: the key of a sequent. -/
open Go.RowKit
set_option linter.unusedVariables false
set_option linter.unusedSimpArgs false
/-- texts, each with a mark behind it, behind a text -/
def kf (z : ByteArray) (L : List ByteArray) : ByteArray := L.foldl (fun acc s => acc ++ (s ++ ⟨#[47]⟩)) z
theorem kf_succ (z : ByteArray) (L : List ByteArray) (j : Nat) (h : j < L.length) : kf z (L.take (j + 1)) = kf z (L.take j) ++ (L[j] ++ ⟨#[47]⟩) := by
  unfold kf
  rw [List.take_succ_eq_append_getElem h, List.foldl_append]
  rfl
theorem kf_size : ∀ (L : List ByteArray) (z : ByteArray), (∀ s ∈ L, s.size ≤ 1000) → (kf z L).size ≤ z.size + 1001 * L.length
  | [], z, _ => Nat.le_refl _
  | s :: L, z, h => by
    have h1 := kf_size L (z ++ (s ++ ⟨#[47]⟩)) fun t ht => h t (List.mem_cons_of_mem _ ht)
    have h2 := h s (List.mem_cons_self ..)
    have h3 : (z ++ (s ++ (⟨#[47]⟩ : ByteArray))).size = z.size + (s.size + 1) := by rw [ByteArray.size_append, ByteArray.size_append]; rfl
    show (kf (z ++ (s ++ ⟨#[47]⟩)) L).size ≤ _
    rw [List.length_cons]
    omega
set_option maxRecDepth 100000 in
theorem impl_sequentKey (v u : Value) (L R : List ByteArray) (w : World) (h : Sl cS w v L) (h' : Sl cS w u R) (hl : L.length ≤ 1048576) (hr : R.length ≤ 1048576) (hls : ∀ s ∈ L, s.size ≤ 1000) (hrs : ∀ s ∈ R, s.size ≤ 1000) :
    Calls Tryz.prog 71 #[.agg #[v, u]] w fun e w' => e = .returned (.string (kf (kf ⟨#[]⟩ L ++ ⟨#[59]⟩) R)) ∧ Below w.heap.size w w' := by
  obtain ⟨A, c, rfl⟩ := h.opn
  obtain ⟨B, d, rfl⟩ := h'.opn
  have hb0 := below_alloc' w (.cells #[.slice A L.length c, .slice B R.length d] 84)
  have hk0 := Blk.new w 84 #[.slice A L.length c, .slice B R.length d]
  have H1 := Lib.hid (h.below hb0)
  have H2 := Lib.hid (h'.below hb0)
  have HB := Lib.hid hb0
  have HK := Lib.hid hk0
  have Z1 := Lib.hid (fun j (hj : j < L.length) => And.intro (hls _ (List.getElem_mem hj)) (kf_size (L.take j) ⟨#[]⟩ fun s hs => hls s (List.mem_of_mem_take hs)))
  have Z0 := Lib.hid (kf_size L ⟨#[]⟩ hls)
  have Z2 := Lib.hid (fun z j (hj : j < R.length) => And.intro (hrs _ (List.getElem_mem hj)) (kf_size (R.take j) z fun s hs => hrs s (List.mem_of_mem_take hs)))
  clear hb0 hk0 h h' hls hrs
  go_enter Tryz.func71, Tryz.ntmps71
  go_upto_region 1 with fail
  generalize World.alloc w _ = w1 at *
  have k0 := HK.out.cell
  have l0 := HK.out.lt
  go_wp2
  go_loop [3, 11] (fun q i => ∃ j : Nat, j ≤ L.length ∧ i = .int .i64 j ∧ q = .string (kf ⟨#[]⟩ (L.take j))) (fun _ i => L.length - (intOf i).toNat)
  case atStart => exact ⟨0, Nat.zero_le _, rfl, rfl⟩
  case round =>
    obtain ⟨j, hj, rfl, rfl⟩ := hrel
    by_cases hlt : j < L.length
    · have HS := Lib.hid (kf_succ ⟨#[]⟩ L j hlt)
      obtain ⟨b, o, rfl, hbl, hc0⟩ := H1.out.atS hlt
      obtain ⟨z1, z2⟩ := Z1.out j hlt
      rw [List.length_take] at z2
      have e0 : (⟨#[]⟩ : ByteArray).size = 0 := rfl
      rw [e0] at z2
      generalize L[j] = s at *
      generalize kf ⟨#[]⟩ (L.take j) = z at *
      have s1 : ¬ 9223372036854775807 < s.size + 1 := by omega
      have s2 : ¬ 9223372036854775807 < z.size + (s.size + 1) := by omega
      clear k0 l0
      go_wp2
      go_round
      case rel => exact ⟨j + 1, by omega, by go_num, by rw [HS.out]⟩
      case measure => simp [intOf]; omega
    · obtain rfl : j = L.length := by omega
      rw [List.take_length]
      have z0 := Z0.out
      have e0 : (⟨#[]⟩ : ByteArray).size = 0 := rfl
      rw [e0] at z0
      generalize hz : kf ⟨#[]⟩ L = z at *
      have s0 : ¬ 9223372036854775807 < z.size + 1 := by omega
      have HZ := Lib.hid hz
      clear hz
      go_wp2
      go_loop [3, 25] (fun q i => ∃ j : Nat, j ≤ R.length ∧ i = .int .i64 j ∧ q = .string (kf (z ++ ⟨#[59]⟩) (R.take j))) (fun _ i => R.length - (intOf i).toNat)
      case atStart => exact ⟨0, Nat.zero_le _, rfl, rfl⟩
      case round =>
        obtain ⟨j, hj, rfl, rfl⟩ := hrel
        by_cases hlt : j < R.length
        · have HS := Lib.hid (kf_succ (z ++ ⟨#[59]⟩) R j hlt)
          obtain ⟨b, o, rfl, hbl, hc0⟩ := H2.out.atS hlt
          obtain ⟨z1, z2⟩ := Z2.out (z ++ ⟨#[59]⟩) j hlt
          have e1 : (z ++ (⟨#[59]⟩ : ByteArray)).size = z.size + 1 := by rw [ByteArray.size_append]; rfl
          rw [List.length_take, e1] at z2
          generalize R[j] = s at *
          generalize kf (z ++ ⟨#[59]⟩) (R.take j) = y at *
          have s1 : ¬ 9223372036854775807 < s.size + 1 := by omega
          have s2 : ¬ 9223372036854775807 < y.size + (s.size + 1) := by omega
          clear k0 l0
          go_wp2
          go_round
          case rel => exact ⟨j + 1, by omega, by go_num, by rw [HS.out]⟩
          case measure => simp [intOf]; omega
        · obtain rfl : j = R.length := by omega
          rw [List.take_length]
          go_wp2
          go_ret
          exact ⟨by rw [HZ.out]; rfl, HB.out⟩
end Go.Proofs.YtaigiopoogbbbaaGreat
