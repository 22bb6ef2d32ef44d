/- Joined of several texts. -/
import Derived.Test.YtcikenffeekkeaaGreatDoorY12
import Derived.Test.YtcikenffeekkeaaGreatDoorY16
import Derived.Test.YtcikenffeekkeaaGreatDoorY18
import Derived.Test.YtcikenffeekkeaaGreatDoorY25
import Derived.Test.YtcikenffeekkeaaGreatDoorY13
import Derived.WalkSpells
namespace Go.Proofs.YtcikenffeekkeaaGreatDoor
/- Contracts of the program: matching a scheme. -/
open Go.RowKit
set_option linter.unusedVariables false
set_option linter.unusedSimpArgs false
theorem ty_nds13 : Ty Tryz.prog 29 44 (.slice none 0 0) 1 24 := Ty.mk' Tryz.underlying29 (by kernel_rfl) rfl (by decide)
/-- the images found so far, in block G -/
def IPm (w : World) (G N : Nat) (hs : List Hd) (σ : Img) : Prop :=
  Ow cH 44 G w (.slice (some ⟨G, 0, none⟩) 6 6) hs ∧ hs.length = 6 ∧ ∀ s (h : s < hs.length), (σ s = none → hs[s] = ⟨none, 0, 0⟩) ∧
    ∀ g, σ s = some g → ∃ b o c, hs[s] = ⟨some ⟨b, o, none⟩, (enc g).length, c⟩ ∧ b ≠ G ∧ Sl cN w (.slice (some ⟨b, o, none⟩) (enc g).length c) (enc g) ∧ (enc g).length ≤ N
theorem IPm.below {w w' : World} {G N : Nat} {hs : List Hd} {σ : Img} (h : IPm w G N hs σ) (hb : Below w.heap.size w w') : IPm w' G N hs σ := by
  obtain ⟨h1, h2, h3⟩ := h
  refine ⟨h1.below hb, h2, fun s q => ⟨(h3 s q).1, fun g hg => ?_⟩⟩
  obtain ⟨b, o, c, e1, e2, e3, e4⟩ := (h3 s q).2 g hg
  exact ⟨b, o, c, e1, e2, e3.below hb, e4⟩
theorem IPm.put {w : World} {G N : Nat} {hs : List Hd} {σ : Img} (h : IPm w G N hs σ) {s : Nat} (hs6 : s < 6) {y : Fm} {A : Option Addr} {c : Nat} {B : Nat} (hu : Ow cN 75 B w (.slice A (enc y).length c) (enc y)) (hB : G < B) (hN : (enc y).length ≤ N) :
    IPm (w.setCell ⟨G, s, none⟩ (.slice A (enc y).length c)) G N (hs.set s ⟨A, (enc y).length, c⟩) (σ.put s y) := by
  obtain ⟨h1, h2, h3⟩ := h
  obtain ⟨b0, hA, hb0, hb1⟩ := hu.head (enc_pos y)
  subst hA
  refine ⟨?_, by rw [List.length_set]; exact h2, fun k q => ?_⟩
  · exact h1.set1 (j := s) (x := (⟨some ⟨b0, 0, none⟩, (enc y).length, c⟩ : Hd)) rfl rfl (by rw [h2]; exact hs6)
  · have q' : k < hs.length := by rw [List.length_set] at q; exact q
    by_cases e : k = s
    · subst e
      have e1 : (hs.set k (⟨some ⟨b0, 0, none⟩, (enc y).length, c⟩ : Hd))[k]'(by rw [List.length_set]; omega) = ⟨some ⟨b0, 0, none⟩, (enc y).length, c⟩ := List.getElem_set_self ..
      rw [e1]
      refine ⟨fun hn => (by unfold Img.put at hn; rw [if_pos rfl] at hn; cases hn), fun g hg => ?_⟩
      unfold Img.put at hg
      rw [if_pos rfl] at hg
      injection hg with hg
      subst hg
      refine ⟨b0, 0, c, rfl, by omega, ?_, hN⟩
      exact (hu.setBelow (p := ⟨G, k, none⟩) (by show G < B; exact hB) _).sl
    · have e1 : (hs.set s (⟨some ⟨b0, 0, none⟩, (enc y).length, c⟩ : Hd))[k]'(by rw [List.length_set]; omega) = hs[k]'(by omega) := List.getElem_set_ne (fun e' => e e'.symm) _
      rw [e1]
      have e2 : (σ.put s y) k = σ k := by unfold Img.put; rw [if_neg e]
      rw [e2]
      refine ⟨(h3 k q').1, fun g hg => ?_⟩
      obtain ⟨b, o, c', p1, p2, p3, p4⟩ := (h3 k q').2 g hg
      exact ⟨b, o, c', p1, p2, p3.keptAt (by simp [World.setCell]) (fun p hp hv => by
        have e3 : some b = some p.block := hv
        injection e3 with e3
        apply World.cell?_setCell_other
        intro e4
        have e5 : p.block = G := by rw [← e4]
        exact p2 (e3.trans e5)), p4⟩
theorem IPm.start {w : World} {G N : Nat} (h : Ow cH 44 G w (.slice (some ⟨G, 0, none⟩) 6 6) (List.replicate 6 (⟨none, 0, 0⟩ : Hd))) : IPm w G N (List.replicate 6 ⟨none, 0, 0⟩) fun _ => none :=
  ⟨h, by simp, fun s q => ⟨fun _ => List.getElem_replicate .., fun g hg => by cases hg⟩⟩
theorem IPm.cell {w : World} {G N : Nat} {hs : List Hd} {σ : Img} (h : IPm w G N hs σ) {s : Nat} (hs6 : s < hs.length) : w.cell? ⟨G, s, none⟩ = some hs[s].val ∧ w.frozen? ⟨G, s, none⟩ = false ∧ G < w.heap.size := by
  obtain ⟨h1, h2, h3⟩ := h
  obtain ⟨a, b, c, d⟩ := h1.at1 rfl (j := s) hs6 (u := hs[s].val) rfl
  exact ⟨a, b, by omega⟩
theorem impl_variable13 (v : Int) (w : World) :
    Calls Tryz.prog 124 #[.int .i64 v] w fun e w' => ∃ r, e = .returned r ∧ Ow cN 75 w.heap.size w' r [(0, v)] ∧ Below w.heap.size w w' := by
  have HO : Hid (Ow cN 75 w.heap.size (w.alloc (.cells #[.int .i64 0, .int .i64 v] 75)) (.slice (some ⟨w.heap.size, 0, none⟩) 1 1) [(0, v)]) := Lib.hid (Ow.lit (K := cN) (e := 75) (B := w.heap.size) (cs := #[.int .i64 0, .int .i64 v]) (n := 1) [(0, v)] rfl rfl (Nat.le_refl _))
  have HB := Lib.hid (below_alloc' w (.cells #[.int .i64 0, .int .i64 v] 75))
  go_enter Tryz.func124, Tryz.ntmps124
  go_wp2
  go_ret
  exact ⟨_, rfl, HO.out, HB.out⟩
set_option maxRecDepth 100000 in
set_option maxHeartbeats 2000000 in
theorem impl_match (f g : Fm) (v u : Value) (w : World) (h : Sl cN w v (enc f)) (h' : Sl cN w u (enc g)) (hok : f.ok = true) (hl : (enc f).length ≤ 1000) (hl' : (enc g).length ≤ 1000) :
    Calls Tryz.prog 106 #[v, u] w fun e w' => ∃ r, e = .returned (.tuple #[r, .bool (inst f g)]) ∧ Below w.heap.size w w' := by
  obtain ⟨A, c, rfl⟩ := h.opn
  obtain ⟨B, d, rfl⟩ := h'.opn
  have HIR : Hid (inst f g = (matL [f] [g] fun _ => none).isSome) := Lib.hid (inst_L f g)
  have hM := Mt.start f g hok
  have HX := Lib.hid h
  have HY := Lib.hid h'
  generalize inst f g = res at *
  obtain ⟨R, hR⟩ : ∃ R, (matL [f] [g] fun _ => none) = R := ⟨_, rfl⟩
  rw [hR] at hM HIR
  clear hR h h' hok
  generalize enc f = xs at *
  generalize enc g = ys at *
  have HM0 := Lib.hid hM
  clear hM
  go_enter Tryz.func106, Tryz.ntmps106
  go_wp2_with (at_make; refine stopHere ?_)
  refine goHere ?_
  refine mk_full (K := cH) w ty_nds13 rfl _ _ rfl w.heap.size 6 (⟨none, 0, 0⟩ : Hd) rfl rfl rfl (by omega) (Nat.le_refl _) ?_
  intro w1 ho hg hb hz
  obtain ⟨G, hG⟩ : ∃ G, w.heap.size = G := ⟨_, rfl⟩
  rw [hG] at ho hz ⊢
  have HP0 : Hid (IPm w1 G 1000 (List.replicate 6 ⟨none, 0, 0⟩) fun _ => none) := Lib.hid (IPm.start ho)
  have HB0 := Lib.hid hb
  have HZ0 := Lib.hid hz
  have HGE := Lib.hid hG
  clear ho hg hb hz hG
  go_wp2
  go_loopw [7, 15] (fun q i wr => ∃ (i' j : Nat) (σ : Img) (hs : List Hd), i' ≤ xs.length ∧ i = .int .i64 i' ∧ q = .int .i64 j ∧ Mt R xs ys i' j σ ∧ IPm wr G 1000 hs σ ∧ Below G w wr) (fun _ i _ => xs.length - (intOf i).toNat)
  case atStart => exact ⟨0, 0, _, _, Nat.zero_le _, rfl, rfl, HM0.out, HP0.out, by rw [← HGE.out]; exact HB0.out⟩
  case round =>
    clear HM0 HP0 HB0
    obtain ⟨i, j, σ, hs, hi, rfl, rfl, hM, hP, hb⟩ := hrel
    have HM := Lib.hid hM
    have HP := Lib.hid hP
    have HB := Lib.hid hb
    clear hM hP hb
    by_cases hlt : i < xs.length
    · obtain ⟨hj, hst⟩ := HM.out.step hlt
      have hbw : Below w.heap.size w wr := by rw [HGE.out]; exact HB.out
      obtain ⟨b, o, rfl, hbl, hcx⟩ := (HX.out.below hbw).cell hlt
      have hx0 := hcx 0 (.int .i64 (xs[i]'hlt).1) (by simp [cN])
      have hx1 := hcx 1 (.int .i64 (xs[i]'hlt).2) (by simp [cN])
      obtain ⟨b', o', rfl, hbl', hcy⟩ := (HY.out.below hbw).cell hj
      have hy0 := hcy 0 (.int .i64 (ys[j]'hj).1) (by simp [cN])
      have hy1 := hcy 1 (.int .i64 (ys[j]'hj).2) (by simp [cN])
      simp only [show cN.size = 2 from rfl, Nat.add_zero] at hx0 hx1 hy0 hy1
      have HST := Lib.hid hst
      clear hcx hcy hst hbw
      obtain ⟨⟨x1, x2⟩, hx⟩ : ∃ x, xs[i]'hlt = x := ⟨_, rfl⟩
      obtain ⟨⟨y1, y2⟩, hy⟩ : ∃ y, ys[j]'hj = y := ⟨_, rfl⟩
      rw [hx] at hx0 hx1 HST
      rw [hy] at hy0 hy1 HST
      simp only at hx0 hx1 hy0 hy1
      clear hx hy
      have hkb := Blk.new wr 75 #[.int .i64 x1, .int .i64 x2]
      have hbb := below_alloc' wr (.cells #[.int .i64 x1, .int .i64 x2] 75)
      have HB1 := Lib.hid (HB.out.trans (hbb.mono (by have := HP.out.cell (s := 0) (by rw [HP.out.2.1]; omega); omega)))
      have HP1 := Lib.hid (HP.out.below hbb)
      have hx0' := (hbb.cell (p := ⟨b, o + i * 2, none⟩) hbl).trans hx0
      have hx1' := (hbb.cell (p := ⟨b, o + i * 2 + 1, none⟩) hbl).trans hx1
      have hy0' := (hbb.cell (p := ⟨b', o' + j * 2, none⟩) hbl').trans hy0
      have hy1' := (hbb.cell (p := ⟨b', o' + j * 2 + 1, none⟩) hbl').trans hy1
      have hbln := Nat.lt_of_lt_of_le hbl hbb.size
      have hbln' := Nat.lt_of_lt_of_le hbl' hbb.size
      rcases HST.out with ⟨hk, hne, heq⟩ | ⟨s, y, hs5, hxs, htk, hpe, hjl, hsom, hnon⟩
      · have hk2 : (x1 == 0) = false := by simpa using hk
        by_cases he : (y1, y2) = (x1, x2)
        · injection he with e1 e2
          subst e1 e2
          have HN := Lib.hid (heq rfl)
          clear hk hne heq HST
          go_upto_region 9 with fail
          generalize World.alloc wr _ = w3 at *
          have n0 := hkb.cell 0
          have n1 := hkb.cell 1
          clear hbb hx0 hx1 hy0 hy1
          go_quiet (fail)
          have HB2 := Lib.hid (below_drewN HB1.out 0)
          clear n0 n1 hx0' hx1' hy0' hy1'
          go_wp2
          go_roundw
          case rel => exact ⟨i + 1, j + 1, σ, hs, by omega, by go_num, by go_num, HN.out, HP1.out.below (below_drewN (Below.refl _ _) _), below_drewN HB1.out _⟩
          case measure => simp [intOf]; omega
        · have hR0 := hne he
          have HR0 : Hid (res = false) := Lib.hid (by rw [HIR.out, hR0]; rfl)
          clear hk hne heq HST hR0
          go_upto_region 9 with fail
          generalize World.alloc wr _ = w3 at *
          have n0 := hkb.cell 0
          have n1 := hkb.cell 1
          have hbw := Lib.hid (HGE.out ▸ HB1.out : Below w.heap.size w w3)
          clear hbb hx0 hx1 hy0 hy1
          have hnq := run_neq_node y1 y2 x1 x2
          have hd : (!(y1 == x1 && y2 == x2)) = true := by
            cases hq : (y1 == x1 && y2 == x2) with
            | false => rfl
            | true =>
              simp only [Bool.and_eq_true, beq_iff_eq] at hq
              exact absurd (by rw [hq.1, hq.2]) he
          have hng := run_eqg_node
          clear he
          go_quiet (fail)
          go_wp2
          go_ret2
          exact ⟨_, by rw [HR0.out]; rfl, below_drewN hbw.out _⟩
      · injection hxs with e1 e2
        subst e1 e2
        have hk2 : ((0 : Int) == 0) = true := rfl
        clear HST
        have HPT := Lib.hid (fun W (hW : Sl cN W (.slice (some ⟨b', o', none⟩) ys.length d) ys) => impl_part _ ys j (j + (enc y).length) W hW (by omega) (by have := enc_pos y; omega) hjl hpe)
        rw [Nat.add_sub_cancel_left, htk] at HPT
        have hyl : (enc y).length ≤ 1000 := by omega
        have HYW := Lib.hid (((HY.out.below (HGE.out ▸ HB.out : Below w.heap.size w wr))).below hbb)
        have HSOM := Lib.hid hsom
        have HNON := Lib.hid hnon
        clear hsom hnon hpe htk
        have hrn := fun W a n c => Go.run_neq_slice_nil_any (P := Tryz.prog) W 44 75 a n c 0 0 Tryz.underlying44
        go_upto_region 12 with fail
        generalize World.alloc wr _ = w3 at *
        have n0 := hkb.cell 0
        have n1 := hkb.cell 1
        have nl := hkb.lt
        clear hbb hx0' hx1' hy0' hy1' hx0 hx1 hy0 hy1
        go_wp2_with fail
        refine (HPT.out w3 HYW.out).mono ?_
        rintro e w9 ⟨u9, rfl, hs9, rfl⟩
        obtain ⟨A9, c9, rfl⟩ := hs9.opn
        have HS := Lib.hid hs9
        have h6 : s < hs.length := by rw [HP1.out.2.1]; omega
        obtain ⟨g0, g1, g2⟩ := HP1.out.cell h6
        clear hs9
        cases hsg : σ s with
        | none =>
          have hz := (HP1.out.2.2 s h6).1 hsg
          rw [hz] at g0
          simp only [Hd.val] at g0
          have HN := Lib.hid (HNON.out hsg)
          clear hsg hz
          -- the store of the image
          go_upto_region 15 with fail
          refine wp_region_sched (Below w3.heap.size w3) 5 [0, 1, 2, 3] [0, 1, 2, 3, 4] (by kernel_rfl) (by kernel_rfl) (Below.refl _ _).drew ?_
          repeat
            apply wpSched_q rfl rfl
            case h =>
              intro w' hI K hK
              have n0' := (hI.cell (p := ⟨wr.heap.size, 0, none⟩) nl).trans n0
              have n1' := (hI.cell (p := ⟨wr.heap.size, 1, none⟩) nl).trans n1
              simp only [quietV, stillV]
              go_simp
              exact hK
            go_simp
          refine wpSched_r rfl rfl ?_ (Below.refl _ _).drew
          intro K hK hI
          go_simp
          refine (impl_clone _ (enc y) _ (HS.out.below hI) (by omega)).mono ?_
          rintro e w4 ⟨r4, rfl, ho4, hb4⟩
          obtain ⟨A4, c4, rfl⟩ := ho4.opn
          have hI4 := hI.trans (hb4.mono hI.size)
          refine hK _ _ hI4 ?_
          clear hK K
          have hP4 := HP1.out.below hI4
          have hgl : G < w3.heap.size := (HP1.out.cell (s := 0) (by rw [HP1.out.2.1]; omega)).2.2
          obtain ⟨q1, q2, q3⟩ := hP4.cell (s := s) (by rw [hP4.2.1]; omega)
          have HPn := Lib.hid (hP4.put (s := s) (by omega) (ho4.mono (show w3.heap.size ≤ _ from hI.size)) hgl (by omega))
          have HBn := Lib.hid ((HB1.out.trans (hI4.mono (by omega))).setCell (p := ⟨G, s, none⟩) (Nat.le_refl _) (.slice A4 (enc y).length c4))
          clear hI hI4 hb4 ho4 n0 n1
          refine wpSched_nil ?_
          try simp only [List.drop_succ_cons, List.drop_zero, List.drop_nil]
          go_wp2
          go_roundw
          case rel => exact ⟨i + 1, j + (enc y).length, σ.put s y, _, by omega, by go_num, by go_num, HN.out, HPn.out, HBn.out⟩
          case measure => simp [intOf]; omega
        | some g =>
          obtain ⟨bg, og, cg, hz, hbg, hsg2, hgn⟩ := (HP1.out.2.2 s h6).2 g hsg
          rw [hz] at g0
          simp only [Hd.val] at g0
          have HSA := Lib.hid (impl_same _ _ (enc g) (enc y) w3 hsg2 HS.out (by omega) (by omega))
          obtain ⟨h1, h2⟩ := HSOM.out g hsg
          by_cases hgy : enc g = enc y
          · rw [decide_eq_true hgy] at HSA
            have hput : σ.put s y = σ := by
              have e1 : g = y := enc_eqH hgy
              funext k
              unfold Img.put
              split
              · rename_i e; subst e; rw [hsg, e1]
              · rfl
            have HN : Hid (Mt R xs ys (i + 1) (j + (enc y).length) (σ.put s y)) := Lib.hid (by rw [hput]; exact h1 hgy)
            clear h1 h2 hgy hput hsg hz hsg2
            go_wp2_with fail
            refine HSA.out.mono ?_
            rintro e w5 ⟨rfl, hb5⟩
            have HP5 := Lib.hid (HP1.out.below hb5)
            have HS5 := Lib.hid (HS.out.below hb5)
            have hgl3 : G < w3.heap.size := g2
            have HB5 := Lib.hid (HB1.out.trans (hb5.mono (by omega)))
            replace n0 := (hb5.cell (p := ⟨wr.heap.size, 0, none⟩) nl).trans n0
            replace n1 := (hb5.cell (p := ⟨wr.heap.size, 1, none⟩) nl).trans n1
            replace nl := Nat.lt_of_lt_of_le nl hb5.size
            clear hb5 g0 g1 g2
            -- the store of the image
            go_upto_region 15 with fail
            refine wp_region_sched (Below w5.heap.size w5) 5 [0, 1, 2, 3] [0, 1, 2, 3, 4] (by kernel_rfl) (by kernel_rfl) (Below.refl _ _).drew ?_
            repeat
              apply wpSched_q rfl rfl
              case h =>
                intro w' hI K hK
                have n0' := (hI.cell (p := ⟨wr.heap.size, 0, none⟩) nl).trans n0
                have n1' := (hI.cell (p := ⟨wr.heap.size, 1, none⟩) nl).trans n1
                simp only [quietV, stillV]
                go_simp
                exact hK
              go_simp
            refine wpSched_r rfl rfl ?_ (Below.refl _ _).drew
            intro K hK hI
            go_simp
            refine (impl_clone _ (enc y) _ (HS5.out.below hI) (by omega)).mono ?_
            rintro e w4 ⟨r4, rfl, ho4, hb4⟩
            obtain ⟨A4, c4, rfl⟩ := ho4.opn
            have hI4 := hI.trans (hb4.mono hI.size)
            refine hK _ _ hI4 ?_
            clear hK K
            have hP4 := HP5.out.below hI4
            have hgl : G < w5.heap.size := (HP5.out.cell (s := 0) (by rw [HP5.out.2.1]; omega)).2.2
            obtain ⟨q1, q2, q3⟩ := hP4.cell (s := s) (by rw [hP4.2.1]; omega)
            have HPn := Lib.hid (hP4.put (s := s) (by omega) (ho4.mono (show w5.heap.size ≤ _ from hI.size)) hgl (by omega))
            have HBn := Lib.hid ((HB5.out.trans (hI4.mono (by omega))).setCell (p := ⟨G, s, none⟩) (Nat.le_refl _) (.slice A4 (enc y).length c4))
            clear hI hI4 hb4 ho4 n0 n1
            refine wpSched_nil ?_
            try simp only [List.drop_succ_cons, List.drop_zero, List.drop_nil]
            go_wp2
            go_roundw
            case rel => exact ⟨i + 1, j + (enc y).length, σ.put s y, _, by omega, by go_num, by go_num, HN.out, HPn.out, HBn.out⟩
            case measure => simp [intOf]; omega
          · rw [decide_eq_false hgy] at HSA
            have hR0 := h2 hgy
            have HR0 : Hid (res = false) := Lib.hid (by rw [HIR.out, hR0]; rfl)
            clear h1 h2 hgy hR0 hsg hz hsg2
            go_wp2_with fail
            refine HSA.out.mono ?_
            rintro e w5 ⟨rfl, hb5⟩
            have hgl3 : G < w3.heap.size := g2
            have HB5 := Lib.hid (HB1.out.trans (hb5.mono (by omega)))
            clear hb5 g0 g1 g2 n0 n1
            go_wp2
            go_ret2
            exact ⟨_, by rw [HR0.out]; rfl, by rw [HGE.out]; exact HB5.out⟩
    · obtain rfl : i = xs.length := by omega
      obtain ⟨hRs, -⟩ := HM.out.done rfl
      have HR0 : Hid (res = true) := Lib.hid (by rw [HIR.out, hRs]; rfl)
      have HO6 := Lib.hid HP.out.1
      have hl6 := HP.out.2.1
      have HL6 := Lib.hid hl6
      clear hRs HM HP hl6
      obtain ⟨w6, hw6⟩ : ∃ W, W = wr := ⟨_, rfl⟩
      subst hw6
      have hre := fun W a n c => Lib.run_eql_slice_nil (P := Tryz.prog) W 44 75 a n c 0 0 Tryz.underlying44
      go_wp2
      go_loopw [66] (fun i wr => ∃ (j : Nat) (hs : List Hd), j ≤ 6 ∧ i = .int .i64 j ∧ hs.length = 6 ∧ Ow cH 44 G wr (.slice (some ⟨G, 0, none⟩) 6 6) hs ∧ Below G w wr) (fun i _ => 6 - (intOf i).toNat)
      case atStart => exact ⟨0, hs, Nat.zero_le _, rfl, HL6.out, HO6.out, HB.out⟩
      case round =>
        clear HO6 HL6
        obtain ⟨j, ks, hj, rfl, hk6, hko, hkb⟩ := hrel
        have HKO := Lib.hid hko
        have HKB := Lib.hid hkb
        have HK6 := Lib.hid hk6
        by_cases hlt6 : j < 6
        · obtain ⟨g0, g1, g2, g3⟩ := hko.at1 rfl (j := j) (by omega) (u := (ks[j]'(by omega)).val) rfl
          obtain ⟨⟨a, n, c9⟩, hh⟩ : ∃ x, ks[j]'(by omega) = x := ⟨_, rfl⟩
          rw [hh] at g0
          simp only [Hd.val] at g0
          have hgz : G ≤ wr.heap.size := by omega
          clear hh hko hkb hk6
          cases a with
          | some a =>
            go_wp2
            go_roundw
            case rel => exact ⟨j + 1, ks, by omega, by go_num, HK6.out, HKO.out, HKB.out⟩
            case measure => simp [intOf]; omega
          | none =>
            have HVr := Lib.hid (impl_variable13 (j : Int) wr)
            go_wp2_with fail
            refine HVr.out.mono ?_
            rintro e w7 ⟨r7, rfl, ho7, hb7⟩
            obtain ⟨A7, c7, rfl⟩ := ho7.opn
            have hko7 := HKO.out.below hb7
            obtain ⟨f0, f1, f2, f3⟩ := hko7.at1 rfl (j := j) (by rw [HK6.out]; omega) (u := (ks[j]'(by rw [HK6.out]; omega)).val) rfl
            have HSn := Lib.hid (hko7.set1 (j := j) (x := (⟨A7, 1, c7⟩ : Hd)) rfl rfl (by rw [HK6.out]; omega))
            have HBn := Lib.hid ((HKB.out.trans (hb7.mono hgz)).setCell (p := ⟨G, j, none⟩) (Nat.le_refl _) (.slice A7 1 c7))
            have HLn : Hid ((ks.set j (⟨A7, 1, c7⟩ : Hd)).length = 6) := Lib.hid (by rw [List.length_set]; exact HK6.out)
            have hl1 : [((0 : Int), (j : Int))].length = 1 := rfl
            rw [hl1]
            clear ho7 hb7 g0 hl1
            go_wp2
            go_roundw
            case rel => exact ⟨j + 1, _, by omega, by go_num, HLn.out, HSn.out, HBn.out⟩
            case measure => simp [intOf]; omega
        · obtain rfl : j = 6 := by omega
          clear hko hkb hk6
          go_wp2
          go_ret2
          exact ⟨_, by rw [HR0.out]; rfl, by rw [HGE.out]; exact HKB.out⟩
/- Contracts of the program: schemes and their instances. -/
open Go.RowKit
set_option linter.unusedVariables false
set_option linter.unusedSimpArgs false
theorem schF_ok (k : Nat) : (schF k).ok = true ∧ (enc (schF k)).length ≤ 40 := by
  unfold schF
  split <;> decide
/-- the table of the schemes' texts -/
def TabS (w : World) : Prop := 0 < w.heap.size ∧ ∀ k, k < 19 → w.cell? ⟨0, k, none⟩ = some (.string (txt (schF k)))
theorem TabS.below {w w' : World} (h : TabS w) (hb : Below w.heap.size w w') : TabS w' :=
  ⟨Nat.lt_of_lt_of_le h.1 hb.size, fun k hk => (hb.cell (p := ⟨0, k, none⟩) h.1).trans (h.2 k hk)⟩
theorem impl_scheme (k : Nat) (hk : k < 19) (w : World) (hT : TabS w) :
    Calls Tryz.prog 107 #[.int .i64 k] w fun e w' => ∃ A c, e = .returned (.slice A (enc (schF k)).length c) ∧ Sl cN w' (.slice A (enc (schF k)).length c) (enc (schF k)) ∧ Below w.heap.size w w' := by
  obtain ⟨h1, h2⟩ := schF_ok k
  have HP := Lib.hid (impl_parsedG (schF k) w h1 h2)
  have hc := hT.2 k hk
  have h0 := hT.1
  clear hT h1 h2
  generalize txt (schF k) = t at *
  go_enter Tryz.func107, Tryz.ntmps107
  go_wp2_with fail
  refine HP.out.mono ?_
  rintro e w1 ⟨A, c, rfl, ho, hb⟩
  have HO := Lib.hid ho.sl
  have HB := Lib.hid hb
  clear ho hb hc
  go_wp2
  go_ret
  exact ⟨_, _, rfl, HO.out, HB.out⟩
theorem impl_isInstance (k : Nat) (hk : k < 19) (g : Fm) (v : Value) (w : World) (hT : TabS w) (h : Sl cN w v (enc g)) (hl : (enc g).length ≤ 1000) :
    Calls Tryz.prog 97 #[.int .i64 k, v] w fun e w' => e = .returned (.bool (inst (schF k) g)) ∧ Below w.heap.size w w' := by
  obtain ⟨A, c, rfl⟩ := h.opn
  have HS := Lib.hid (impl_scheme k hk w hT)
  have HM := Lib.hid (fun W u (h1 : Sl cN W u (enc (schF k))) (h2 : Sl cN W (.slice A (enc g).length c) (enc g)) => impl_match (schF k) g u _ W h1 h2 (schF_ok k).1 (by have := (schF_ok k).2; omega) hl)
  have H := Lib.hid h
  clear h hT
  generalize inst (schF k) g = b at *
  go_enter Tryz.func97, Tryz.ntmps97
  go_wp2_with fail
  refine HS.out.mono ?_
  rintro e w1 ⟨A1, c1, rfl, hs, hb⟩
  have HC := Lib.hid (HM.out w1 _ hs (H.out.below hb))
  have HB := Lib.hid hb
  clear hs hb HM
  go_wp2_with fail
  refine HC.out.mono ?_
  rintro e w2 ⟨r, rfl, hb⟩
  have HB2 := Lib.hid (bthen HB.out hb)
  clear hb
  go_wp2
  go_ret
  exact ⟨rfl, HB2.out⟩
end Go.Proofs.YtcikenffeekkeaaGreatDoor
