/- The reference's drawing of Heyting algebras: copies of tables, a place of a table that is written, elements numbered in another way. Written by gen19F.py. -/
import Derived.Test.YtgkogfjifcfkoaaGreatY45
import Derived.Test.YtgkogfjifcfkoaaGreatY30
import Derived.Test.YtgkogfjifcfkoaaGreatY23
namespace Go.Proofs.YtgkogfjifcfkoaaGreat
open Go.RowKit
set_option linter.unusedVariables false
set_option linter.unusedSimpArgs false
/-- one place of a table is written -/
theorem ObS.put {lo hi : Nat} {w : World} {v : Value} {xss : List (List Int)} (h : ObS lo hi w v xss) {x y : Nat} (hx : x < xss.length) (hy : y < (xss[x]).length) :
    ∃ g c g2 c2, v = .slice (some ⟨g, 0, none⟩) xss.length c ∧ g < w.heap.size ∧ w.cell? ⟨g, x, none⟩ = some (.slice (some ⟨g2, 0, none⟩) (xss[x]).length c2) ∧ lo ≤ g2 ∧ g2 < w.heap.size ∧ w.cell? ⟨g2, y, none⟩ = some (.int .i64 ((xss[x])[y])) ∧ w.frozen? ⟨g2, y, none⟩ = false ∧ ∀ z : Int, ObS lo hi (w.setCell ⟨g2, y, none⟩ (.int .i64 z)) v (xss.set x ((xss[x]).set y z)) := by
  obtain ⟨hs, h1, h2, h3, h4, h5⟩ := h
  have hxs : x < hs.length := by omega
  obtain ⟨g, c, rfl, g1, g2, g3, g4⟩ := h1.form (by omega)
  have q := (h4 x hxs hx).1
  have qk := (h4 x hxs hx).2
  obtain ⟨b, c2, e2, b1, b2, b3, b4⟩ := q.form (by omega)
  have hc1 := h1.at1 rfl hxs (u := hs[x].val) rfl
  rw [e2] at q hc1
  have hc2 := q.at1 rfl hy (u := .int .i64 ((xss[x])[y])) rfl
  refine ⟨g, c, b, c2, by rw [h2], g2, hc1.1, b1, b2, hc2.1, hc2.2.1, fun z => ?_⟩
  have hgr := grown_cell w ⟨b, y, none⟩ (.int .i64 z)
  have ob : hs[x].val.ownBlock = some b := by rw [e2]; rfl
  have ne := (qk b ob).2
  refine ⟨hs, h1.kept hgr (.inr ne), by rw [List.length_set]; exact h2, h3, fun i a bb => ?_, h5⟩
  have bb' : i < xss.length := by rw [List.length_set] at bb; exact bb
  refine ⟨?_, (h4 i a bb').2⟩
  rw [List.getElem_set]
  by_cases hi : x = i
  · subst hi
    rw [if_pos rfl, e2]
    exact q.set1 (x := z) rfl rfl hy
  · rw [if_neg hi]
    refine (h4 i a bb').1.kept hgr ?_
    cases hq : hs[i].val.ownBlock with
    | none => exact .inl rfl
    | some k =>
      refine .inr fun e => ?_
      injection e with e
      have e' : k = b := e
      subst e'
      exact h5 i x a hxs (fun h => hi h.symm) k hq ob
theorem ObS.lit (w : World) (c0 : Nat) : ObS w.heap.size (w.alloc (.cells #[] 27)).heap.size (w.alloc (.cells #[] 27)) (.slice (some ⟨w.heap.size, 0, none⟩) 0 0) [] :=
  ⟨[], Ow.lit (K := cH) [] rfl rfl (Nat.le_refl _), rfl, (fun k e => by injection e with e; rw [size_alloc']; have : w.heap.size = k := e; omega), (fun i a => by simp at a), fun i j a => by simp at a⟩
set_option maxRecDepth 100000 in
set_option maxHeartbeats 1000000 in
theorem spec_l01Own2 (v : Value) (xss : List (List Int)) (w : World) (h : Sl2 cI w v xss) (hl : xss.length ≤ 1048576) (hr : ∀ r ∈ xss, r.length ≤ 1048576) :
    Calls Tryz.prog 158 #[v] w fun e w' => ∃ u, e = .returned u ∧ ObS w.heap.size w'.heap.size w' u xss ∧ Below w.heap.size w w' := by
  obtain ⟨A, c, rfl⟩ := h.opn
  have HX := Lib.hid h
  have HR := Lib.hid hr
  have HT := Lib.hid (fun x (hx : x < xss.length) => show xss.take (x + 1) = xss.take x ++ [xss[x]] from List.take_succ_eq_append_getElem hx)
  have HT0 := Lib.hid (List.take_of_length_le (Nat.le_refl xss.length))
  have HTL := Lib.hid (fun x (hx : x ≤ xss.length) => show (xss.take x).length = x by rw [List.length_take]; omega)
  clear h hr
  go_enter Tryz.func158, Tryz.ntmps158
  go_wp2
  go_loopw [3, 4] (fun u i wr => ∃ x : Nat, x ≤ xss.length ∧ i = .int .i64 x ∧ ObS w.heap.size wr.heap.size wr u (xss.take x) ∧ Below w.heap.size w wr) (fun _ i _ => xss.length - (intOf i).toNat)
  case atStart => exact ⟨0, Nat.zero_le _, rfl, ObS.lit w 0, below_alloc' _ _⟩
  case round =>
    obtain ⟨x, hx, rfl, ho, hb⟩ := hrel
    obtain ⟨w2, hw2⟩ : ∃ W, W = wr := ⟨_, rfl⟩
    subst hw2
    obtain ⟨A2, c2, rfl⟩ := ho.opn
    have HLx := Lib.hid (HTL.out x hx)
    rw [HLx.out] at ho ⊢
    have O := Lib.hid ho
    have HB := Lib.hid hb
    have hz := hb.size
    by_cases hlt : x < xss.length
    · obtain ⟨b, o, Ai, ni, ci, rfl, hbl, hc0, hs⟩ := (HX.out.below hb).at_ hlt
      have HS := Lib.hid hs
      have HE := Lib.hid (HT.out x hlt)
      have HRL := Lib.hid (HR.out _ (List.getElem_mem hlt))
      generalize xss[x] = row at *
      clear ho hb hs
      go_wp2_with fail
      refine (spec_l01Own _ row _ HS.out (by have := HRL.out; omega)).mono ?_
      rintro e w3 ⟨u, rfl, ou, hb1⟩
      obtain ⟨A3, c3, rfl⟩ := ou.opn
      have M := Lib.hid (O.out.below hb1)
      have B3 := Lib.hid (bthen HB.out hb1)
      have z3 := hb1.size
      obtain ⟨hs, q1, q2, q3, q4⟩ := M.out.push z3 (ou.mono (show w.heap.size ≤ w2.heap.size from hz)) (fun k e => (ou.block k e).1)
      have hl1 : hs.length = x := by rw [q2]; exact HLx.out
      have Q1 := Lib.hid q1
      have Q3 := Lib.hid q3
      have Q4 := Lib.hid q4
      have HLS := Lib.hid hl1
      clear ou hb1 q1 q2 q3 q4 hl1 hc0
      go_wp2_with (at_builtin; refine stopHere ?_)
      refine goHere ?_
      refine ap_one (K := cH) _ ty_intss rfl _ _ rfl (B := w.heap.size) (xs := hs) rfl Q1.out (⟨A3, row.length, c3⟩ : Hd) rfl rfl (by have := HLS.out; omega) (by omega) ?_
      intro v1 w6 ho hg hbB hat
      have hgg := grown_alloc _ hg
      have TT := Q4.out _ _ ho hgg (by
        rcases hat with e | e
        · exact .inl e
        · exact .inr ⟨_, Nat.le_succ _, e⟩)
      rw [← HE.out] at TT
      have TT1 := Lib.hid TT
      have B6 := Lib.hid (B3.out.trans hbB)
      clear ho hg hbB hat hgg TT
      go_wp2
      exact ⟨⟨x + 1, by omega, by go_num, TT1.out, B6.out⟩, by simp [intOf]; omega⟩
    · obtain rfl : x = xss.length := by omega
      rw [HT0.out] at O
      clear ho hb
      go_wp2
      go_ret
      exact ⟨_, rfl, O.out, HB.out⟩
set_option maxRecDepth 100000 in
set_option maxHeartbeats 8000000 in
theorem spec_l18Mixed (w0 : World) (v : Value) (xs : List (Fin 256)) (w : World) (g B : Nat) (a o i : Value) (ns : List Nat) (S : Src 95 w0 v xs w g) (hgB : g < B) (hBt : Bt B w a o i ns) (hx : Hx ns) :
    Calls Tryz.prog 156 #[.pointer (some ⟨g, 0, none⟩), .agg #[a, o, i, .int .i64 (botI ns), .int .i64 (topI ns)]] w fun e w' => ∃ ms va ca vo co vi ci, e = .returned (.agg #[.slice va ms.length ca, .slice vo ms.length co, .slice vi ms.length ci, .int .i64 (botI ms), .int .i64 (topI ms)]) ∧ ms.length = ns.length ∧ Hx ms ∧ Bt w.heap.size w' (.slice va ms.length ca) (.slice vo ms.length co) (.slice vi ms.length ci) ms ∧ Src 95 w0 v xs w' g ∧ w.grownBy w' (some g) := by
  obtain ⟨va, ca, vo, co, vi, ci, rfl, rfl, rfl⟩ := hBt.opn
  obtain ⟨bt, hbt⟩ : ∃ bt, botI ns = bt := ⟨_, rfl⟩
  obtain ⟨tp, htp⟩ : ∃ tp, topI ns = tp := ⟨_, rfl⟩
  rw [hbt, htp]
  clear hbt htp
  obtain ⟨A1, eA, hTA, hoA⟩ := built_A (Hx_HA hx)
  have h30 := hx.r.1
  have HN30 := Lib.hid h30
  have C1 : Hid (∀ X, Bt B X (.slice va ns.length ca) (.slice vo ns.length co) (.slice vi ns.length ci) ns → Calls Tryz.prog 113 #[.agg #[.slice va ns.length ca, .slice vo ns.length co, .slice vi ns.length ci, .int .i64 bt, .int .i64 tp]] X fun e w' => ∃ u, e = .returned u ∧ Ow cI 2 X.heap.size w' u (li ns) ∧ Below X.heap.size X w') := Lib.hid (fun X hX => by
    have := spec_l18Order (.slice va ns.length ca) (.slice vo ns.length co) (.slice vi ns.length ci) bt tp A1 ns.length X (by have := hX.a.sl2; rwa [eA] at this) hTA h30
    rwa [hoA] at this)
  have C2 : Hid (∀ X, Bt B X (.slice va ns.length ca) (.slice vo ns.length co) (.slice vi ns.length ci) ns → Calls Tryz.prog 72 #[.agg #[.slice va ns.length ca, .slice vo ns.length co, .slice vi ns.length ci, .int .i64 bt, .int .i64 tp]] X fun e w' => e = .returned (.int .i64 (ns.length : Int)) ∧ Below X.heap.size X w') := Lib.hid (fun X hX => by
    have := spec_l18Size (.slice va ns.length ca) (.slice vo ns.length co) (.slice vi ns.length ci) bt tp _ X hX.a.sl2
    rwa [tabI_length] at this)
  have C4 : Hid (∀ X u0 u1 os, Sl cI X u0 (li ns) → Sl cI X u1 (li os) → Prm ns.length os → Calls Tryz.prog 171 #[u0, u1] X fun e w' => ∃ A c, e = .returned (.slice A ns.length c) ∧ Ow cI 2 X.heap.size w' (.slice A ns.length c) (li (rnM ns os)) ∧ Below X.heap.size X w') := Lib.hid (fun X u0 u1 os h0 h1 hp => spec_l05RenumberM ns os u0 u1 X h0 h1 hx.r hp.b hp.l)
  have C5 : Hid (∀ X u os, Prm ns.length os → Sl cI X u (li (rnM ns os)) → ∃ ms : List Nat, ms.length = ns.length ∧ Hx ms ∧ Calls Tryz.prog 112 #[u] X fun e w' => ∃ va ca vo co vi ci, e = .returned (.tuple #[.agg #[.slice va ms.length ca, .slice vo ms.length co, .slice vi ms.length ci, .int .i64 (botI ms), .int .i64 (topI ms)], .bool true]) ∧ Bt X.heap.size w' (.slice va ms.length ca) (.slice vo ms.length co) (.slice vi ms.length ci) ms ∧ Below X.heap.size X w') := Lib.hid (fun X u os hp hu => ⟨rnM ns os, by rw [rnM_length, hp.l], Hx_rnM hx hp, Hx_built hu (Hx_rnM hx hp)⟩)
  have hb0 := below_alloc' w (.cells #[.slice va ns.length ca, .slice vo ns.length co, .slice vi ns.length ci, .int .i64 bt, .int .i64 tp] 26)
  have hk0 := Blk.new w 26 #[.slice va ns.length ca, .slice vo ns.length co, .slice vi ns.length ci, .int .i64 bt, .int .i64 tp]
  have hb1 := below_alloc' (w.alloc (.cells #[.slice va ns.length ca, .slice vo ns.length co, .slice vi ns.length ci, .int .i64 bt, .int .i64 tp] 26)) (.cells #[.slice none 0 0, .slice none 0 0, .slice none 0 0, .int .i64 0, .int .i64 0] 26)
  have HR0 : Hid (Blk ((w.alloc (.cells #[.slice va ns.length ca, .slice vo ns.length co, .slice vi ns.length ci, .int .i64 bt, .int .i64 tp] 26)).alloc (.cells #[.slice none 0 0, .slice none 0 0, .slice none 0 0, .int .i64 0, .int .i64 0] 26)) (w.heap.size + 1) 26 #[.slice none 0 0, .slice none 0 0, .slice none 0 0, .int .i64 0, .int .i64 0]) := Lib.hid (Blk.new' _ _ _ (by simp))
  have D := Lib.hid (((Dg.start S).below hb0).below hb1)
  have BT := Lib.hid ((hBt.below hb0).below hb1)
  have HK := Lib.hid (hk0.below hb1 hk0.lt)
  have HG := Lib.hid hgB
  have HLG := Lib.hid S.lt
  clear hb0 hb1 hk0 S hBt hx hTA eA hoA h30 hgB
  go_enter Tryz.func156, Tryz.ntmps156
  go_upto_region 1 with fail
  generalize World.alloc (w.alloc _) _ = W at *
  have hI : (fun X : World => Blk X w.heap.size 26 #[.slice va ns.length ca, .slice vo ns.length co, .slice vi ns.length ci, .int .i64 bt, .int .i64 tp]) W.drew := HK.out
  refine wp_region_tree (fun X : World => Blk X w.heap.size 26 #[.slice va ns.length ca, .slice vo ns.length co, .slice vi ns.length ci, .int .i64 bt, .int .i64 tp]) 14 (.q 0 (.q 2 (.q 3 (.rr 1 11 (.rr 4 11 (.rr 5 11 (.rr 6 11 (.rr 7 11 (.q 8 (.q 9 (.q 10 (.r 11 (.r 12 (.q 13 .fin)))))) (.r 7 (.q 8 (.q 9 (.q 10 (.r 12 (.q 13 .fin))))))) (.r 6 (.r 7 (.q 8 (.q 9 (.q 10 (.r 12 (.q 13 .fin)))))))) (.r 5 (.r 6 (.r 7 (.q 8 (.q 9 (.q 10 (.r 12 (.q 13 .fin))))))))) (.r 4 (.r 5 (.r 6 (.r 7 (.q 8 (.q 9 (.q 10 (.r 12 (.q 13 .fin)))))))))) (.r 1 (.r 4 (.r 5 (.r 6 (.r 7 (.q 8 (.q 9 (.q 10 (.r 12 (.q 13 .fin)))))))))))))) (by kernel_rfl) (by kernel_rfl) hI ?_
  have hbd := (Below.refl W.heap.size W).drew
  replace D := Lib.hid (D.out.below hbd)
  replace BT := Lib.hid (BT.out.below hbd)
  have R := Lib.hid (HR0.out.below hbd HR0.out.lt)
  replace HK := Lib.hid (HK.out.below hbd HK.out.lt)
  clear HR0 hI hbd
  generalize World.drew W = X0 at *
  repeat
    apply wpT_q rfl
    case h =>
      intro w' hI K hK
      have c0 : w'.cell? ⟨w.heap.size, 0, none⟩ = some (.slice va ns.length ca) := hI.cell 0
      have c1 : w'.cell? ⟨w.heap.size, 1, none⟩ = some (.slice vo ns.length co) := hI.cell 1
      have c2 : w'.cell? ⟨w.heap.size, 2, none⟩ = some (.slice vi ns.length ci) := hI.cell 2
      have c3 : w'.cell? ⟨w.heap.size, 3, none⟩ = some (.int .i64 bt) := hI.cell 3
      have c4 : w'.cell? ⟨w.heap.size, 4, none⟩ = some (.int .i64 tp) := hI.cell 4
      simp only [quietV, stillV]
      go_simp
      exact hK
    go_simp
  refine wpT_rr rfl rfl ?_ ?_ HK.out
  · skip
    intro K hK _
    go_simp
    refine (C1.out X0 BT.out).mono ?_
    rintro e Y1 ⟨u0, rfl, o0, hb⟩
    have O0 := Lib.hid (D.out.made o0)
    clear o0
    replace HK := Lib.hid (HK.out.below hb HK.out.lt)
    replace R := Lib.hid (R.out.below hb R.out.lt)
    replace D := Lib.hid (D.out.below hb)
    replace BT := Lib.hid (BT.out.below hb)
    clear hb
    refine hK _ _ HK.out ?_
    clear hK K
    refine wpT_rr rfl rfl ?_ ?_ HK.out
    · skip
      intro K hK _
      go_simp
      refine (C2.out Y1 BT.out).mono ?_
      rintro e Y2 ⟨rfl, hb⟩
      replace HK := Lib.hid (HK.out.below hb HK.out.lt)
      replace R := Lib.hid (R.out.below hb R.out.lt)
      replace D := Lib.hid (D.out.below hb)
      replace BT := Lib.hid (BT.out.below hb)
      replace O0 := Lib.hid (O0.out.below hb)
      clear hb
      refine hK _ _ HK.out ?_
      clear hK K
      refine wpT_rr rfl rfl ?_ ?_ HK.out
      · skip
        intro K hK _
        go_simp
        refine (spec_l16ShuffleX w0 v xs Y2 g ns.length D.out.S HN30.out).mono ?_
        rintro e Y3 ⟨u1, os, rfl, hp, o1, hS, hg⟩
        have HP := Lib.hid hp
        have O1 := Lib.hid (D.out.made o1)
        replace O0 := Lib.hid (D.out.pass O0.out hg)
        replace HK := Lib.hid (D.out.blk HK.out (Nat.le_refl _) hg)
        replace R := Lib.hid (D.out.blk R.out (Nat.le_succ _) hg)
        replace D := Lib.hid (D.out.call hS hg)
        clear hp o1 hS hg BT
        refine hK _ _ HK.out ?_
        clear hK K
        refine wpT_rr rfl rfl ?_ ?_ HK.out
        · skip
          intro K hK _
          go_simp
          refine (C4.out Y3 _ _ os O0.out.sl O1.out.sl HP.out).mono ?_
          rintro e Y4 ⟨A2, c2, rfl, o2, hb⟩
          have O2 := Lib.hid (D.out.made o2)
          clear o2
          replace HK := Lib.hid (HK.out.below hb HK.out.lt)
          replace R := Lib.hid (R.out.below hb R.out.lt)
          replace D := Lib.hid (D.out.below hb)
          replace O0 := Lib.hid (O0.out.below hb)
          replace O1 := Lib.hid (O1.out.below hb)
          clear hb
          refine hK _ _ HK.out ?_
          clear hK K
          refine wpT_rr rfl rfl ?_ ?_ HK.out
          · skip
            intro K hK _
            go_simp
            obtain ⟨ms, hml, hxm, C5x⟩ := C5.out Y4 _ os HP.out O2.out.sl
            have HML := Lib.hid hml
            have HXM := Lib.hid hxm
            clear hml hxm
            refine C5x.mono ?_
            rintro e Y5 ⟨xa, ya, xo, yo, xi, yi, rfl, bq, hb⟩
            clear C5x O0 O1 O2 HP C1 C2 C4 C5
            have BQ := Lib.hid (bq.mono (show w.heap.size + 2 ≤ _ from R.out.lt))
            replace HK := Lib.hid (HK.out.below hb HK.out.lt)
            replace R := Lib.hid (R.out.below hb R.out.lt)
            replace D := Lib.hid (D.out.below hb)
            clear hb bq
            obtain ⟨bm, hbm⟩ : ∃ bm, botI ms = bm := ⟨_, rfl⟩
            obtain ⟨tm, htm⟩ : ∃ tm, topI ms = tm := ⟨_, rfl⟩
            rw [hbm, htm]
            have HBM := Lib.hid hbm
            have HTM := Lib.hid htm
            clear hbm htm
            obtain ⟨nm, hnm⟩ : ∃ nm, ms.length = nm := ⟨_, rfl⟩
            rw [hnm] at BQ ⊢
            have HNM := Lib.hid hnm
            clear hnm
            refine hK _ _ HK.out ?_
            clear hK K
            repeat
              apply wpT_q rfl
              case h =>
                intro w' hI K hK
                simp only [quietV, stillV]
                go_simp
                exact hK
              go_simp
            refine wpT_r rfl ?_ HK.out
            intro K hK _
            go_simp
            have hb := below_alloc' Y5 (.cells #[.slice none 0 0, .slice none 0 0, .slice none 0 0, .int .i64 0, .int .i64 0] 26)
            have Pb := Lib.hid (Blk.new Y5 26 #[.slice none 0 0, .slice none 0 0, .slice none 0 0, .int .i64 0, .int .i64 0])
            have ZP : Hid (w.heap.size ≤ Y5.heap.size) := Lib.hid D.out.size
            have ZR : Hid (w.heap.size + 1 < Y5.heap.size) := Lib.hid R.out.lt
            have BQ0 := BQ
            replace HK := Lib.hid (HK.out.below hb HK.out.lt)
            replace R := Lib.hid (R.out.below hb R.out.lt)
            replace D := Lib.hid (D.out.below hb)
            replace BQ := Lib.hid (BQ.out.below hb)
            have HBZ := Lib.hid hb
            refine hK _ _ HK.out ?_
            clear hK K hb
            generalize World.alloc Y5 _ = Y6 at *
            refine wpT_r rfl ?_ HK.out
            intro K hK _
            go_simp
            have kr := Pb.out.cell
            have fr := Pb.out.frozen
            have lr := Pb.out.lt
            simp [kr, fr, lr, go_sem]
            have NE : Hid (w.heap.size ≠ Y5.heap.size) := Lib.hid (by have := ZR.out; omega)
            have NE1 : Hid (w.heap.size + 1 ≠ Y5.heap.size) := Lib.hid (by have := ZR.out; omega)
            have HK2 := Lib.hid (Blk.far (Blk.far (Blk.far (Blk.far (Blk.far HK.out (p := ⟨Y5.heap.size, 0, none⟩) NE.out (.slice xa nm ya)) (p := ⟨Y5.heap.size, 1, none⟩) NE.out (.slice xo nm yo)) (p := ⟨Y5.heap.size, 2, none⟩) NE.out (.slice xi nm yi)) (p := ⟨Y5.heap.size, 3, none⟩) NE.out (.int .i64 bm)) (p := ⟨Y5.heap.size, 4, none⟩) NE.out (.int .i64 tm))
            have R2 := Lib.hid (Blk.far (Blk.far (Blk.far (Blk.far (Blk.far R.out (p := ⟨Y5.heap.size, 0, none⟩) NE1.out (.slice xa nm ya)) (p := ⟨Y5.heap.size, 1, none⟩) NE1.out (.slice xo nm yo)) (p := ⟨Y5.heap.size, 2, none⟩) NE1.out (.slice xi nm yi)) (p := ⟨Y5.heap.size, 3, none⟩) NE1.out (.int .i64 bm)) (p := ⟨Y5.heap.size, 4, none⟩) NE1.out (.int .i64 tm))
            have P2 := Lib.hid (Blk.set_ (Blk.set_ (Blk.set_ (Blk.set_ (Blk.set_ Pb.out 0 (.slice xa nm ya)) 1 (.slice xo nm yo)) 2 (.slice xi nm yi)) 3 (.int .i64 bm)) 4 (.int .i64 tm))
            have D2 := Lib.hid (Dg.set (Dg.set (Dg.set (Dg.set (Dg.set D.out (p := ⟨Y5.heap.size, 0, none⟩) ZP.out (.slice xa nm ya)) (p := ⟨Y5.heap.size, 1, none⟩) ZP.out (.slice xo nm yo)) (p := ⟨Y5.heap.size, 2, none⟩) ZP.out (.slice xi nm yi)) (p := ⟨Y5.heap.size, 3, none⟩) ZP.out (.int .i64 bm)) (p := ⟨Y5.heap.size, 4, none⟩) ZP.out (.int .i64 tm))
            have BQ2 := Lib.hid (BQ0.out.below (Below.setCell (Below.setCell (Below.setCell (Below.setCell (Below.setCell HBZ.out (p := ⟨Y5.heap.size, 0, none⟩) (Nat.le_refl _) (.slice xa nm ya)) (p := ⟨Y5.heap.size, 1, none⟩) (Nat.le_refl _) (.slice xo nm yo)) (p := ⟨Y5.heap.size, 2, none⟩) (Nat.le_refl _) (.slice xi nm yi)) (p := ⟨Y5.heap.size, 3, none⟩) (Nat.le_refl _) (.int .i64 bm)) (p := ⟨Y5.heap.size, 4, none⟩) (Nat.le_refl _) (.int .i64 tm)))
            refine hK _ _ HK2.out ?_
            clear hK K kr fr lr
            repeat
              apply wpT_q rfl
              case h =>
                intro w' hI K hK
                simp only [quietV, stillV]
                go_simp
                exact hK
              go_simp
            refine wpT_fin ?_
            try simp only [List.drop_succ_cons, List.drop_zero, List.drop_nil]
            clear HK D R Pb BQ HBZ HK2
            clear BQ0
            have BQ3 := Lib.hid (BQ2.out.mono (Nat.le_refl _))
            generalize hW9 : (World.setCell (World.setCell (World.setCell (World.setCell (World.setCell Y6 ⟨Y5.heap.size, 0, none⟩ (.slice xa nm ya)) ⟨Y5.heap.size, 1, none⟩ (.slice xo nm yo)) ⟨Y5.heap.size, 2, none⟩ (.slice xi nm yi)) ⟨Y5.heap.size, 3, none⟩ (.int .i64 bm)) ⟨Y5.heap.size, 4, none⟩ (.int .i64 tm)) = W9 at *
            have kp := P2.out.cell
            have lp := P2.out.lt
            have kr := R2.out.cell
            have fr := R2.out.frozen
            have lr := R2.out.lt
            have k0 : W9.cell? ⟨Y5.heap.size, 0, none⟩ = some (.slice xa nm ya) := kp 0
            have k1 : W9.cell? ⟨Y5.heap.size, 1, none⟩ = some (.slice xo nm yo) := kp 1
            have k2 : W9.cell? ⟨Y5.heap.size, 2, none⟩ = some (.slice xi nm yi) := kp 2
            have k3 : W9.cell? ⟨Y5.heap.size, 3, none⟩ = some (.int .i64 bm) := kp 3
            have k4 : W9.cell? ⟨Y5.heap.size, 4, none⟩ = some (.int .i64 tm) := kp 4
            clear hW9 kp
            go_wp2
            refine bodyPost_ret (v := .agg #[.slice xa nm ya, .slice xo nm yo, .slice xi nm yi, .int .i64 bm, .int .i64 tm]) (by simp [results, Tryz.results156, go_sem, kr, fr, lr]) rfl ⟨ms, xa, ya, xo, yo, xi, yi, by rw [HNM.out, HBM.out, HTM.out], HML.out, HXM.out, ?_, ?_, ?_⟩
            · rw [HNM.out]
              exact (((((BQ3.out.setBelow (p := ⟨w.heap.size + 1, 0, none⟩) (Nat.lt_succ_self _) _).setBelow (p := ⟨w.heap.size + 1, 1, none⟩) (Nat.lt_succ_self _) _).setBelow (p := ⟨w.heap.size + 1, 2, none⟩) (Nat.lt_succ_self _) _).setBelow (p := ⟨w.heap.size + 1, 3, none⟩) (Nat.lt_succ_self _) _).setBelow (p := ⟨w.heap.size + 1, 4, none⟩) (Nat.lt_succ_self _) _).mono (Nat.le_trans (Nat.le_succ _) (Nat.le_succ _))
            · exact (((((D2.out.set (p := ⟨w.heap.size + 1, 0, none⟩) (Nat.le_succ _) _).set (p := ⟨w.heap.size + 1, 1, none⟩) (Nat.le_succ _) _).set (p := ⟨w.heap.size + 1, 2, none⟩) (Nat.le_succ _) _).set (p := ⟨w.heap.size + 1, 3, none⟩) (Nat.le_succ _) _).set (p := ⟨w.heap.size + 1, 4, none⟩) (Nat.le_succ _) _).S
            · exact (((((D2.out.set (p := ⟨w.heap.size + 1, 0, none⟩) (Nat.le_succ _) _).set (p := ⟨w.heap.size + 1, 1, none⟩) (Nat.le_succ _) _).set (p := ⟨w.heap.size + 1, 2, none⟩) (Nat.le_succ _) _).set (p := ⟨w.heap.size + 1, 3, none⟩) (Nat.le_succ _) _).set (p := ⟨w.heap.size + 1, 4, none⟩) (Nat.le_succ _) _).gr
          · skip
            intro K hK _
            go_simp
            have hb := below_alloc' Y4 (.cells #[.slice none 0 0, .slice none 0 0, .slice none 0 0, .int .i64 0, .int .i64 0] 26)
            have Pb := Lib.hid (Blk.new Y4 26 #[.slice none 0 0, .slice none 0 0, .slice none 0 0, .int .i64 0, .int .i64 0])
            have ZP : Hid (w.heap.size ≤ Y4.heap.size) := Lib.hid D.out.size
            have ZR : Hid (w.heap.size + 1 < Y4.heap.size) := Lib.hid R.out.lt
            replace HK := Lib.hid (HK.out.below hb HK.out.lt)
            replace R := Lib.hid (R.out.below hb R.out.lt)
            replace D := Lib.hid (D.out.below hb)
            replace O0 := Lib.hid (O0.out.below hb)
            replace O1 := Lib.hid (O1.out.below hb)
            replace O2 := Lib.hid (O2.out.below hb)
            have HBZ := Lib.hid hb
            refine hK _ _ HK.out ?_
            clear hK K hb
            generalize World.alloc Y4 _ = Y7 at *
            refine wpT_r rfl ?_ HK.out
            intro K hK _
            go_simp
            obtain ⟨ms, hml, hxm, C5x⟩ := C5.out Y7 _ os HP.out O2.out.sl
            have HML := Lib.hid hml
            have HXM := Lib.hid hxm
            clear hml hxm
            refine C5x.mono ?_
            rintro e Y8 ⟨xa, ya, xo, yo, xi, yi, rfl, bq, hb⟩
            clear C5x O0 O1 O2 HP C1 C2 C4 C5
            have BQ := Lib.hid bq
            have HPL := Lib.hid Pb.out.lt
            have HDZ := Lib.hid (show w.heap.size + 2 ≤ _ from R.out.lt)
            replace HK := Lib.hid (HK.out.below hb HK.out.lt)
            replace R := Lib.hid (R.out.below hb R.out.lt)
            replace D := Lib.hid (D.out.below hb)
            replace Pb := Lib.hid (Pb.out.below hb Pb.out.lt)
            clear hb bq
            obtain ⟨bm, hbm⟩ : ∃ bm, botI ms = bm := ⟨_, rfl⟩
            obtain ⟨tm, htm⟩ : ∃ tm, topI ms = tm := ⟨_, rfl⟩
            rw [hbm, htm]
            have HBM := Lib.hid hbm
            have HTM := Lib.hid htm
            clear hbm htm
            obtain ⟨nm, hnm⟩ : ∃ nm, ms.length = nm := ⟨_, rfl⟩
            rw [hnm] at BQ ⊢
            have HNM := Lib.hid hnm
            clear hnm
            refine hK _ _ HK.out ?_
            clear hK K
            repeat
              apply wpT_q rfl
              case h =>
                intro w' hI K hK
                simp only [quietV, stillV]
                go_simp
                exact hK
              go_simp
            refine wpT_r rfl ?_ HK.out
            intro K hK _
            go_simp
            have kr := Pb.out.cell
            have fr := Pb.out.frozen
            have lr := Pb.out.lt
            simp [kr, fr, lr, go_sem]
            have NE : Hid (w.heap.size ≠ Y4.heap.size) := Lib.hid (by have := ZR.out; omega)
            have NE1 : Hid (w.heap.size + 1 ≠ Y4.heap.size) := Lib.hid (by have := ZR.out; omega)
            have HK2 := Lib.hid (Blk.far (Blk.far (Blk.far (Blk.far (Blk.far HK.out (p := ⟨Y4.heap.size, 0, none⟩) NE.out (.slice xa nm ya)) (p := ⟨Y4.heap.size, 1, none⟩) NE.out (.slice xo nm yo)) (p := ⟨Y4.heap.size, 2, none⟩) NE.out (.slice xi nm yi)) (p := ⟨Y4.heap.size, 3, none⟩) NE.out (.int .i64 bm)) (p := ⟨Y4.heap.size, 4, none⟩) NE.out (.int .i64 tm))
            have R2 := Lib.hid (Blk.far (Blk.far (Blk.far (Blk.far (Blk.far R.out (p := ⟨Y4.heap.size, 0, none⟩) NE1.out (.slice xa nm ya)) (p := ⟨Y4.heap.size, 1, none⟩) NE1.out (.slice xo nm yo)) (p := ⟨Y4.heap.size, 2, none⟩) NE1.out (.slice xi nm yi)) (p := ⟨Y4.heap.size, 3, none⟩) NE1.out (.int .i64 bm)) (p := ⟨Y4.heap.size, 4, none⟩) NE1.out (.int .i64 tm))
            have P2 := Lib.hid (Blk.set_ (Blk.set_ (Blk.set_ (Blk.set_ (Blk.set_ Pb.out 0 (.slice xa nm ya)) 1 (.slice xo nm yo)) 2 (.slice xi nm yi)) 3 (.int .i64 bm)) 4 (.int .i64 tm))
            have D2 := Lib.hid (Dg.set (Dg.set (Dg.set (Dg.set (Dg.set D.out (p := ⟨Y4.heap.size, 0, none⟩) ZP.out (.slice xa nm ya)) (p := ⟨Y4.heap.size, 1, none⟩) ZP.out (.slice xo nm yo)) (p := ⟨Y4.heap.size, 2, none⟩) ZP.out (.slice xi nm yi)) (p := ⟨Y4.heap.size, 3, none⟩) ZP.out (.int .i64 bm)) (p := ⟨Y4.heap.size, 4, none⟩) ZP.out (.int .i64 tm))
            have BQ2 := Lib.hid (((Bt.setBelow (Bt.setBelow (Bt.setBelow (Bt.setBelow (Bt.setBelow BQ.out (p := ⟨Y4.heap.size, 0, none⟩) HPL.out (.slice xa nm ya)) (p := ⟨Y4.heap.size, 1, none⟩) HPL.out (.slice xo nm yo)) (p := ⟨Y4.heap.size, 2, none⟩) HPL.out (.slice xi nm yi)) (p := ⟨Y4.heap.size, 3, none⟩) HPL.out (.int .i64 bm)) (p := ⟨Y4.heap.size, 4, none⟩) HPL.out (.int .i64 tm))).mono HDZ.out)
            refine hK _ _ HK2.out ?_
            clear hK K kr fr lr
            repeat
              apply wpT_q rfl
              case h =>
                intro w' hI K hK
                simp only [quietV, stillV]
                go_simp
                exact hK
              go_simp
            refine wpT_fin ?_
            try simp only [List.drop_succ_cons, List.drop_zero, List.drop_nil]
            clear HK D R Pb BQ HBZ HK2
            have BQ3 := Lib.hid (BQ2.out.mono (Nat.le_refl _))
            generalize hW9 : (World.setCell (World.setCell (World.setCell (World.setCell (World.setCell Y8 ⟨Y4.heap.size, 0, none⟩ (.slice xa nm ya)) ⟨Y4.heap.size, 1, none⟩ (.slice xo nm yo)) ⟨Y4.heap.size, 2, none⟩ (.slice xi nm yi)) ⟨Y4.heap.size, 3, none⟩ (.int .i64 bm)) ⟨Y4.heap.size, 4, none⟩ (.int .i64 tm)) = W9 at *
            have kp := P2.out.cell
            have lp := P2.out.lt
            have kr := R2.out.cell
            have fr := R2.out.frozen
            have lr := R2.out.lt
            have k0 : W9.cell? ⟨Y4.heap.size, 0, none⟩ = some (.slice xa nm ya) := kp 0
            have k1 : W9.cell? ⟨Y4.heap.size, 1, none⟩ = some (.slice xo nm yo) := kp 1
            have k2 : W9.cell? ⟨Y4.heap.size, 2, none⟩ = some (.slice xi nm yi) := kp 2
            have k3 : W9.cell? ⟨Y4.heap.size, 3, none⟩ = some (.int .i64 bm) := kp 3
            have k4 : W9.cell? ⟨Y4.heap.size, 4, none⟩ = some (.int .i64 tm) := kp 4
            clear hW9 kp
            go_wp2
            refine bodyPost_ret (v := .agg #[.slice xa nm ya, .slice xo nm yo, .slice xi nm yi, .int .i64 bm, .int .i64 tm]) (by simp [results, Tryz.results156, go_sem, kr, fr, lr]) rfl ⟨ms, xa, ya, xo, yo, xi, yi, by rw [HNM.out, HBM.out, HTM.out], HML.out, HXM.out, ?_, ?_, ?_⟩
            · rw [HNM.out]
              exact (((((BQ3.out.setBelow (p := ⟨w.heap.size + 1, 0, none⟩) (Nat.lt_succ_self _) _).setBelow (p := ⟨w.heap.size + 1, 1, none⟩) (Nat.lt_succ_self _) _).setBelow (p := ⟨w.heap.size + 1, 2, none⟩) (Nat.lt_succ_self _) _).setBelow (p := ⟨w.heap.size + 1, 3, none⟩) (Nat.lt_succ_self _) _).setBelow (p := ⟨w.heap.size + 1, 4, none⟩) (Nat.lt_succ_self _) _).mono (Nat.le_trans (Nat.le_succ _) (Nat.le_succ _))
            · exact (((((D2.out.set (p := ⟨w.heap.size + 1, 0, none⟩) (Nat.le_succ _) _).set (p := ⟨w.heap.size + 1, 1, none⟩) (Nat.le_succ _) _).set (p := ⟨w.heap.size + 1, 2, none⟩) (Nat.le_succ _) _).set (p := ⟨w.heap.size + 1, 3, none⟩) (Nat.le_succ _) _).set (p := ⟨w.heap.size + 1, 4, none⟩) (Nat.le_succ _) _).S
            · exact (((((D2.out.set (p := ⟨w.heap.size + 1, 0, none⟩) (Nat.le_succ _) _).set (p := ⟨w.heap.size + 1, 1, none⟩) (Nat.le_succ _) _).set (p := ⟨w.heap.size + 1, 2, none⟩) (Nat.le_succ _) _).set (p := ⟨w.heap.size + 1, 3, none⟩) (Nat.le_succ _) _).set (p := ⟨w.heap.size + 1, 4, none⟩) (Nat.le_succ _) _).gr
        · skip
          intro K hK _
          go_simp
          have hb := below_alloc' Y3 (.cells #[.slice none 0 0, .slice none 0 0, .slice none 0 0, .int .i64 0, .int .i64 0] 26)
          have Pb := Lib.hid (Blk.new Y3 26 #[.slice none 0 0, .slice none 0 0, .slice none 0 0, .int .i64 0, .int .i64 0])
          have ZP : Hid (w.heap.size ≤ Y3.heap.size) := Lib.hid D.out.size
          have ZR : Hid (w.heap.size + 1 < Y3.heap.size) := Lib.hid R.out.lt
          replace HK := Lib.hid (HK.out.below hb HK.out.lt)
          replace R := Lib.hid (R.out.below hb R.out.lt)
          replace D := Lib.hid (D.out.below hb)
          replace O0 := Lib.hid (O0.out.below hb)
          replace O1 := Lib.hid (O1.out.below hb)
          have HBZ := Lib.hid hb
          refine hK _ _ HK.out ?_
          clear hK K hb
          generalize World.alloc Y3 _ = Y9 at *
          refine wpT_r rfl ?_ HK.out
          intro K hK _
          go_simp
          refine (C4.out Y9 _ _ os O0.out.sl O1.out.sl HP.out).mono ?_
          rintro e Y10 ⟨A2, c2, rfl, o2, hb⟩
          have O2 := Lib.hid (D.out.made o2)
          clear o2
          replace HK := Lib.hid (HK.out.below hb HK.out.lt)
          replace R := Lib.hid (R.out.below hb R.out.lt)
          replace D := Lib.hid (D.out.below hb)
          replace O0 := Lib.hid (O0.out.below hb)
          replace O1 := Lib.hid (O1.out.below hb)
          replace Pb := Lib.hid (Pb.out.below hb Pb.out.lt)
          clear hb
          refine hK _ _ HK.out ?_
          clear hK K
          refine wpT_r rfl ?_ HK.out
          intro K hK _
          go_simp
          obtain ⟨ms, hml, hxm, C5x⟩ := C5.out Y10 _ os HP.out O2.out.sl
          have HML := Lib.hid hml
          have HXM := Lib.hid hxm
          clear hml hxm
          refine C5x.mono ?_
          rintro e Y11 ⟨xa, ya, xo, yo, xi, yi, rfl, bq, hb⟩
          clear C5x O0 O1 O2 HP C1 C2 C4 C5
          have BQ := Lib.hid bq
          have HPL := Lib.hid Pb.out.lt
          have HDZ := Lib.hid (show w.heap.size + 2 ≤ _ from R.out.lt)
          replace HK := Lib.hid (HK.out.below hb HK.out.lt)
          replace R := Lib.hid (R.out.below hb R.out.lt)
          replace D := Lib.hid (D.out.below hb)
          replace Pb := Lib.hid (Pb.out.below hb Pb.out.lt)
          clear hb bq
          obtain ⟨bm, hbm⟩ : ∃ bm, botI ms = bm := ⟨_, rfl⟩
          obtain ⟨tm, htm⟩ : ∃ tm, topI ms = tm := ⟨_, rfl⟩
          rw [hbm, htm]
          have HBM := Lib.hid hbm
          have HTM := Lib.hid htm
          clear hbm htm
          obtain ⟨nm, hnm⟩ : ∃ nm, ms.length = nm := ⟨_, rfl⟩
          rw [hnm] at BQ ⊢
          have HNM := Lib.hid hnm
          clear hnm
          refine hK _ _ HK.out ?_
          clear hK K
          repeat
            apply wpT_q rfl
            case h =>
              intro w' hI K hK
              simp only [quietV, stillV]
              go_simp
              exact hK
            go_simp
          refine wpT_r rfl ?_ HK.out
          intro K hK _
          go_simp
          have kr := Pb.out.cell
          have fr := Pb.out.frozen
          have lr := Pb.out.lt
          simp [kr, fr, lr, go_sem]
          have NE : Hid (w.heap.size ≠ Y3.heap.size) := Lib.hid (by have := ZR.out; omega)
          have NE1 : Hid (w.heap.size + 1 ≠ Y3.heap.size) := Lib.hid (by have := ZR.out; omega)
          have HK2 := Lib.hid (Blk.far (Blk.far (Blk.far (Blk.far (Blk.far HK.out (p := ⟨Y3.heap.size, 0, none⟩) NE.out (.slice xa nm ya)) (p := ⟨Y3.heap.size, 1, none⟩) NE.out (.slice xo nm yo)) (p := ⟨Y3.heap.size, 2, none⟩) NE.out (.slice xi nm yi)) (p := ⟨Y3.heap.size, 3, none⟩) NE.out (.int .i64 bm)) (p := ⟨Y3.heap.size, 4, none⟩) NE.out (.int .i64 tm))
          have R2 := Lib.hid (Blk.far (Blk.far (Blk.far (Blk.far (Blk.far R.out (p := ⟨Y3.heap.size, 0, none⟩) NE1.out (.slice xa nm ya)) (p := ⟨Y3.heap.size, 1, none⟩) NE1.out (.slice xo nm yo)) (p := ⟨Y3.heap.size, 2, none⟩) NE1.out (.slice xi nm yi)) (p := ⟨Y3.heap.size, 3, none⟩) NE1.out (.int .i64 bm)) (p := ⟨Y3.heap.size, 4, none⟩) NE1.out (.int .i64 tm))
          have P2 := Lib.hid (Blk.set_ (Blk.set_ (Blk.set_ (Blk.set_ (Blk.set_ Pb.out 0 (.slice xa nm ya)) 1 (.slice xo nm yo)) 2 (.slice xi nm yi)) 3 (.int .i64 bm)) 4 (.int .i64 tm))
          have D2 := Lib.hid (Dg.set (Dg.set (Dg.set (Dg.set (Dg.set D.out (p := ⟨Y3.heap.size, 0, none⟩) ZP.out (.slice xa nm ya)) (p := ⟨Y3.heap.size, 1, none⟩) ZP.out (.slice xo nm yo)) (p := ⟨Y3.heap.size, 2, none⟩) ZP.out (.slice xi nm yi)) (p := ⟨Y3.heap.size, 3, none⟩) ZP.out (.int .i64 bm)) (p := ⟨Y3.heap.size, 4, none⟩) ZP.out (.int .i64 tm))
          have BQ2 := Lib.hid (((Bt.setBelow (Bt.setBelow (Bt.setBelow (Bt.setBelow (Bt.setBelow BQ.out (p := ⟨Y3.heap.size, 0, none⟩) HPL.out (.slice xa nm ya)) (p := ⟨Y3.heap.size, 1, none⟩) HPL.out (.slice xo nm yo)) (p := ⟨Y3.heap.size, 2, none⟩) HPL.out (.slice xi nm yi)) (p := ⟨Y3.heap.size, 3, none⟩) HPL.out (.int .i64 bm)) (p := ⟨Y3.heap.size, 4, none⟩) HPL.out (.int .i64 tm))).mono HDZ.out)
          refine hK _ _ HK2.out ?_
          clear hK K kr fr lr
          repeat
            apply wpT_q rfl
            case h =>
              intro w' hI K hK
              simp only [quietV, stillV]
              go_simp
              exact hK
            go_simp
          refine wpT_fin ?_
          try simp only [List.drop_succ_cons, List.drop_zero, List.drop_nil]
          clear HK D R Pb BQ HBZ HK2
          have BQ3 := Lib.hid (BQ2.out.mono (Nat.le_refl _))
          generalize hW9 : (World.setCell (World.setCell (World.setCell (World.setCell (World.setCell Y11 ⟨Y3.heap.size, 0, none⟩ (.slice xa nm ya)) ⟨Y3.heap.size, 1, none⟩ (.slice xo nm yo)) ⟨Y3.heap.size, 2, none⟩ (.slice xi nm yi)) ⟨Y3.heap.size, 3, none⟩ (.int .i64 bm)) ⟨Y3.heap.size, 4, none⟩ (.int .i64 tm)) = W9 at *
          have kp := P2.out.cell
          have lp := P2.out.lt
          have kr := R2.out.cell
          have fr := R2.out.frozen
          have lr := R2.out.lt
          have k0 : W9.cell? ⟨Y3.heap.size, 0, none⟩ = some (.slice xa nm ya) := kp 0
          have k1 : W9.cell? ⟨Y3.heap.size, 1, none⟩ = some (.slice xo nm yo) := kp 1
          have k2 : W9.cell? ⟨Y3.heap.size, 2, none⟩ = some (.slice xi nm yi) := kp 2
          have k3 : W9.cell? ⟨Y3.heap.size, 3, none⟩ = some (.int .i64 bm) := kp 3
          have k4 : W9.cell? ⟨Y3.heap.size, 4, none⟩ = some (.int .i64 tm) := kp 4
          clear hW9 kp
          go_wp2
          refine bodyPost_ret (v := .agg #[.slice xa nm ya, .slice xo nm yo, .slice xi nm yi, .int .i64 bm, .int .i64 tm]) (by simp [results, Tryz.results156, go_sem, kr, fr, lr]) rfl ⟨ms, xa, ya, xo, yo, xi, yi, by rw [HNM.out, HBM.out, HTM.out], HML.out, HXM.out, ?_, ?_, ?_⟩
          · rw [HNM.out]
            exact (((((BQ3.out.setBelow (p := ⟨w.heap.size + 1, 0, none⟩) (Nat.lt_succ_self _) _).setBelow (p := ⟨w.heap.size + 1, 1, none⟩) (Nat.lt_succ_self _) _).setBelow (p := ⟨w.heap.size + 1, 2, none⟩) (Nat.lt_succ_self _) _).setBelow (p := ⟨w.heap.size + 1, 3, none⟩) (Nat.lt_succ_self _) _).setBelow (p := ⟨w.heap.size + 1, 4, none⟩) (Nat.lt_succ_self _) _).mono (Nat.le_trans (Nat.le_succ _) (Nat.le_succ _))
          · exact (((((D2.out.set (p := ⟨w.heap.size + 1, 0, none⟩) (Nat.le_succ _) _).set (p := ⟨w.heap.size + 1, 1, none⟩) (Nat.le_succ _) _).set (p := ⟨w.heap.size + 1, 2, none⟩) (Nat.le_succ _) _).set (p := ⟨w.heap.size + 1, 3, none⟩) (Nat.le_succ _) _).set (p := ⟨w.heap.size + 1, 4, none⟩) (Nat.le_succ _) _).S
          · exact (((((D2.out.set (p := ⟨w.heap.size + 1, 0, none⟩) (Nat.le_succ _) _).set (p := ⟨w.heap.size + 1, 1, none⟩) (Nat.le_succ _) _).set (p := ⟨w.heap.size + 1, 2, none⟩) (Nat.le_succ _) _).set (p := ⟨w.heap.size + 1, 3, none⟩) (Nat.le_succ _) _).set (p := ⟨w.heap.size + 1, 4, none⟩) (Nat.le_succ _) _).gr
      · skip
        intro K hK _
        go_simp
        have hb := below_alloc' Y2 (.cells #[.slice none 0 0, .slice none 0 0, .slice none 0 0, .int .i64 0, .int .i64 0] 26)
        have Pb := Lib.hid (Blk.new Y2 26 #[.slice none 0 0, .slice none 0 0, .slice none 0 0, .int .i64 0, .int .i64 0])
        have ZP : Hid (w.heap.size ≤ Y2.heap.size) := Lib.hid D.out.size
        have ZR : Hid (w.heap.size + 1 < Y2.heap.size) := Lib.hid R.out.lt
        replace HK := Lib.hid (HK.out.below hb HK.out.lt)
        replace R := Lib.hid (R.out.below hb R.out.lt)
        replace D := Lib.hid (D.out.below hb)
        replace BT := Lib.hid (BT.out.below hb)
        replace O0 := Lib.hid (O0.out.below hb)
        have HBZ := Lib.hid hb
        refine hK _ _ HK.out ?_
        clear hK K hb
        generalize World.alloc Y2 _ = Y12 at *
        refine wpT_r rfl ?_ HK.out
        intro K hK _
        go_simp
        refine (spec_l16ShuffleX w0 v xs Y12 g ns.length D.out.S HN30.out).mono ?_
        rintro e Y13 ⟨u1, os, rfl, hp, o1, hS, hg⟩
        have HP := Lib.hid hp
        have O1 := Lib.hid (D.out.made o1)
        replace O0 := Lib.hid (D.out.pass O0.out hg)
        replace HK := Lib.hid (D.out.blk HK.out (Nat.le_refl _) hg)
        replace R := Lib.hid (D.out.blk R.out (Nat.le_succ _) hg)
        replace Pb := Lib.hid (D.out.blk Pb.out ZP.out hg)
        replace D := Lib.hid (D.out.call hS hg)
        clear hp o1 hS hg BT
        refine hK _ _ HK.out ?_
        clear hK K
        refine wpT_r rfl ?_ HK.out
        intro K hK _
        go_simp
        refine (C4.out Y13 _ _ os O0.out.sl O1.out.sl HP.out).mono ?_
        rintro e Y14 ⟨A2, c2, rfl, o2, hb⟩
        have O2 := Lib.hid (D.out.made o2)
        clear o2
        replace HK := Lib.hid (HK.out.below hb HK.out.lt)
        replace R := Lib.hid (R.out.below hb R.out.lt)
        replace D := Lib.hid (D.out.below hb)
        replace O0 := Lib.hid (O0.out.below hb)
        replace O1 := Lib.hid (O1.out.below hb)
        replace Pb := Lib.hid (Pb.out.below hb Pb.out.lt)
        clear hb
        refine hK _ _ HK.out ?_
        clear hK K
        refine wpT_r rfl ?_ HK.out
        intro K hK _
        go_simp
        obtain ⟨ms, hml, hxm, C5x⟩ := C5.out Y14 _ os HP.out O2.out.sl
        have HML := Lib.hid hml
        have HXM := Lib.hid hxm
        clear hml hxm
        refine C5x.mono ?_
        rintro e Y15 ⟨xa, ya, xo, yo, xi, yi, rfl, bq, hb⟩
        clear C5x O0 O1 O2 HP C1 C2 C4 C5
        have BQ := Lib.hid bq
        have HPL := Lib.hid Pb.out.lt
        have HDZ := Lib.hid (show w.heap.size + 2 ≤ _ from R.out.lt)
        replace HK := Lib.hid (HK.out.below hb HK.out.lt)
        replace R := Lib.hid (R.out.below hb R.out.lt)
        replace D := Lib.hid (D.out.below hb)
        replace Pb := Lib.hid (Pb.out.below hb Pb.out.lt)
        clear hb bq
        obtain ⟨bm, hbm⟩ : ∃ bm, botI ms = bm := ⟨_, rfl⟩
        obtain ⟨tm, htm⟩ : ∃ tm, topI ms = tm := ⟨_, rfl⟩
        rw [hbm, htm]
        have HBM := Lib.hid hbm
        have HTM := Lib.hid htm
        clear hbm htm
        obtain ⟨nm, hnm⟩ : ∃ nm, ms.length = nm := ⟨_, rfl⟩
        rw [hnm] at BQ ⊢
        have HNM := Lib.hid hnm
        clear hnm
        refine hK _ _ HK.out ?_
        clear hK K
        repeat
          apply wpT_q rfl
          case h =>
            intro w' hI K hK
            simp only [quietV, stillV]
            go_simp
            exact hK
          go_simp
        refine wpT_r rfl ?_ HK.out
        intro K hK _
        go_simp
        have kr := Pb.out.cell
        have fr := Pb.out.frozen
        have lr := Pb.out.lt
        simp [kr, fr, lr, go_sem]
        have NE : Hid (w.heap.size ≠ Y2.heap.size) := Lib.hid (by have := ZR.out; omega)
        have NE1 : Hid (w.heap.size + 1 ≠ Y2.heap.size) := Lib.hid (by have := ZR.out; omega)
        have HK2 := Lib.hid (Blk.far (Blk.far (Blk.far (Blk.far (Blk.far HK.out (p := ⟨Y2.heap.size, 0, none⟩) NE.out (.slice xa nm ya)) (p := ⟨Y2.heap.size, 1, none⟩) NE.out (.slice xo nm yo)) (p := ⟨Y2.heap.size, 2, none⟩) NE.out (.slice xi nm yi)) (p := ⟨Y2.heap.size, 3, none⟩) NE.out (.int .i64 bm)) (p := ⟨Y2.heap.size, 4, none⟩) NE.out (.int .i64 tm))
        have R2 := Lib.hid (Blk.far (Blk.far (Blk.far (Blk.far (Blk.far R.out (p := ⟨Y2.heap.size, 0, none⟩) NE1.out (.slice xa nm ya)) (p := ⟨Y2.heap.size, 1, none⟩) NE1.out (.slice xo nm yo)) (p := ⟨Y2.heap.size, 2, none⟩) NE1.out (.slice xi nm yi)) (p := ⟨Y2.heap.size, 3, none⟩) NE1.out (.int .i64 bm)) (p := ⟨Y2.heap.size, 4, none⟩) NE1.out (.int .i64 tm))
        have P2 := Lib.hid (Blk.set_ (Blk.set_ (Blk.set_ (Blk.set_ (Blk.set_ Pb.out 0 (.slice xa nm ya)) 1 (.slice xo nm yo)) 2 (.slice xi nm yi)) 3 (.int .i64 bm)) 4 (.int .i64 tm))
        have D2 := Lib.hid (Dg.set (Dg.set (Dg.set (Dg.set (Dg.set D.out (p := ⟨Y2.heap.size, 0, none⟩) ZP.out (.slice xa nm ya)) (p := ⟨Y2.heap.size, 1, none⟩) ZP.out (.slice xo nm yo)) (p := ⟨Y2.heap.size, 2, none⟩) ZP.out (.slice xi nm yi)) (p := ⟨Y2.heap.size, 3, none⟩) ZP.out (.int .i64 bm)) (p := ⟨Y2.heap.size, 4, none⟩) ZP.out (.int .i64 tm))
        have BQ2 := Lib.hid (((Bt.setBelow (Bt.setBelow (Bt.setBelow (Bt.setBelow (Bt.setBelow BQ.out (p := ⟨Y2.heap.size, 0, none⟩) HPL.out (.slice xa nm ya)) (p := ⟨Y2.heap.size, 1, none⟩) HPL.out (.slice xo nm yo)) (p := ⟨Y2.heap.size, 2, none⟩) HPL.out (.slice xi nm yi)) (p := ⟨Y2.heap.size, 3, none⟩) HPL.out (.int .i64 bm)) (p := ⟨Y2.heap.size, 4, none⟩) HPL.out (.int .i64 tm))).mono HDZ.out)
        refine hK _ _ HK2.out ?_
        clear hK K kr fr lr
        repeat
          apply wpT_q rfl
          case h =>
            intro w' hI K hK
            simp only [quietV, stillV]
            go_simp
            exact hK
          go_simp
        refine wpT_fin ?_
        try simp only [List.drop_succ_cons, List.drop_zero, List.drop_nil]
        clear HK D R Pb BQ HBZ HK2
        have BQ3 := Lib.hid (BQ2.out.mono (Nat.le_refl _))
        generalize hW9 : (World.setCell (World.setCell (World.setCell (World.setCell (World.setCell Y15 ⟨Y2.heap.size, 0, none⟩ (.slice xa nm ya)) ⟨Y2.heap.size, 1, none⟩ (.slice xo nm yo)) ⟨Y2.heap.size, 2, none⟩ (.slice xi nm yi)) ⟨Y2.heap.size, 3, none⟩ (.int .i64 bm)) ⟨Y2.heap.size, 4, none⟩ (.int .i64 tm)) = W9 at *
        have kp := P2.out.cell
        have lp := P2.out.lt
        have kr := R2.out.cell
        have fr := R2.out.frozen
        have lr := R2.out.lt
        have k0 : W9.cell? ⟨Y2.heap.size, 0, none⟩ = some (.slice xa nm ya) := kp 0
        have k1 : W9.cell? ⟨Y2.heap.size, 1, none⟩ = some (.slice xo nm yo) := kp 1
        have k2 : W9.cell? ⟨Y2.heap.size, 2, none⟩ = some (.slice xi nm yi) := kp 2
        have k3 : W9.cell? ⟨Y2.heap.size, 3, none⟩ = some (.int .i64 bm) := kp 3
        have k4 : W9.cell? ⟨Y2.heap.size, 4, none⟩ = some (.int .i64 tm) := kp 4
        clear hW9 kp
        go_wp2
        refine bodyPost_ret (v := .agg #[.slice xa nm ya, .slice xo nm yo, .slice xi nm yi, .int .i64 bm, .int .i64 tm]) (by simp [results, Tryz.results156, go_sem, kr, fr, lr]) rfl ⟨ms, xa, ya, xo, yo, xi, yi, by rw [HNM.out, HBM.out, HTM.out], HML.out, HXM.out, ?_, ?_, ?_⟩
        · rw [HNM.out]
          exact (((((BQ3.out.setBelow (p := ⟨w.heap.size + 1, 0, none⟩) (Nat.lt_succ_self _) _).setBelow (p := ⟨w.heap.size + 1, 1, none⟩) (Nat.lt_succ_self _) _).setBelow (p := ⟨w.heap.size + 1, 2, none⟩) (Nat.lt_succ_self _) _).setBelow (p := ⟨w.heap.size + 1, 3, none⟩) (Nat.lt_succ_self _) _).setBelow (p := ⟨w.heap.size + 1, 4, none⟩) (Nat.lt_succ_self _) _).mono (Nat.le_trans (Nat.le_succ _) (Nat.le_succ _))
        · exact (((((D2.out.set (p := ⟨w.heap.size + 1, 0, none⟩) (Nat.le_succ _) _).set (p := ⟨w.heap.size + 1, 1, none⟩) (Nat.le_succ _) _).set (p := ⟨w.heap.size + 1, 2, none⟩) (Nat.le_succ _) _).set (p := ⟨w.heap.size + 1, 3, none⟩) (Nat.le_succ _) _).set (p := ⟨w.heap.size + 1, 4, none⟩) (Nat.le_succ _) _).S
        · exact (((((D2.out.set (p := ⟨w.heap.size + 1, 0, none⟩) (Nat.le_succ _) _).set (p := ⟨w.heap.size + 1, 1, none⟩) (Nat.le_succ _) _).set (p := ⟨w.heap.size + 1, 2, none⟩) (Nat.le_succ _) _).set (p := ⟨w.heap.size + 1, 3, none⟩) (Nat.le_succ _) _).set (p := ⟨w.heap.size + 1, 4, none⟩) (Nat.le_succ _) _).gr
    · skip
      intro K hK _
      go_simp
      have hb := below_alloc' Y1 (.cells #[.slice none 0 0, .slice none 0 0, .slice none 0 0, .int .i64 0, .int .i64 0] 26)
      have Pb := Lib.hid (Blk.new Y1 26 #[.slice none 0 0, .slice none 0 0, .slice none 0 0, .int .i64 0, .int .i64 0])
      have ZP : Hid (w.heap.size ≤ Y1.heap.size) := Lib.hid D.out.size
      have ZR : Hid (w.heap.size + 1 < Y1.heap.size) := Lib.hid R.out.lt
      replace HK := Lib.hid (HK.out.below hb HK.out.lt)
      replace R := Lib.hid (R.out.below hb R.out.lt)
      replace D := Lib.hid (D.out.below hb)
      replace BT := Lib.hid (BT.out.below hb)
      replace O0 := Lib.hid (O0.out.below hb)
      have HBZ := Lib.hid hb
      refine hK _ _ HK.out ?_
      clear hK K hb
      generalize World.alloc Y1 _ = Y16 at *
      refine wpT_r rfl ?_ HK.out
      intro K hK _
      go_simp
      refine (C2.out Y16 BT.out).mono ?_
      rintro e Y17 ⟨rfl, hb⟩
      replace HK := Lib.hid (HK.out.below hb HK.out.lt)
      replace R := Lib.hid (R.out.below hb R.out.lt)
      replace D := Lib.hid (D.out.below hb)
      replace BT := Lib.hid (BT.out.below hb)
      replace O0 := Lib.hid (O0.out.below hb)
      replace Pb := Lib.hid (Pb.out.below hb Pb.out.lt)
      clear hb
      refine hK _ _ HK.out ?_
      clear hK K
      refine wpT_r rfl ?_ HK.out
      intro K hK _
      go_simp
      refine (spec_l16ShuffleX w0 v xs Y17 g ns.length D.out.S HN30.out).mono ?_
      rintro e Y18 ⟨u1, os, rfl, hp, o1, hS, hg⟩
      have HP := Lib.hid hp
      have O1 := Lib.hid (D.out.made o1)
      replace O0 := Lib.hid (D.out.pass O0.out hg)
      replace HK := Lib.hid (D.out.blk HK.out (Nat.le_refl _) hg)
      replace R := Lib.hid (D.out.blk R.out (Nat.le_succ _) hg)
      replace Pb := Lib.hid (D.out.blk Pb.out ZP.out hg)
      replace D := Lib.hid (D.out.call hS hg)
      clear hp o1 hS hg BT
      refine hK _ _ HK.out ?_
      clear hK K
      refine wpT_r rfl ?_ HK.out
      intro K hK _
      go_simp
      refine (C4.out Y18 _ _ os O0.out.sl O1.out.sl HP.out).mono ?_
      rintro e Y19 ⟨A2, c2, rfl, o2, hb⟩
      have O2 := Lib.hid (D.out.made o2)
      clear o2
      replace HK := Lib.hid (HK.out.below hb HK.out.lt)
      replace R := Lib.hid (R.out.below hb R.out.lt)
      replace D := Lib.hid (D.out.below hb)
      replace O0 := Lib.hid (O0.out.below hb)
      replace O1 := Lib.hid (O1.out.below hb)
      replace Pb := Lib.hid (Pb.out.below hb Pb.out.lt)
      clear hb
      refine hK _ _ HK.out ?_
      clear hK K
      refine wpT_r rfl ?_ HK.out
      intro K hK _
      go_simp
      obtain ⟨ms, hml, hxm, C5x⟩ := C5.out Y19 _ os HP.out O2.out.sl
      have HML := Lib.hid hml
      have HXM := Lib.hid hxm
      clear hml hxm
      refine C5x.mono ?_
      rintro e Y20 ⟨xa, ya, xo, yo, xi, yi, rfl, bq, hb⟩
      clear C5x O0 O1 O2 HP C1 C2 C4 C5
      have BQ := Lib.hid bq
      have HPL := Lib.hid Pb.out.lt
      have HDZ := Lib.hid (show w.heap.size + 2 ≤ _ from R.out.lt)
      replace HK := Lib.hid (HK.out.below hb HK.out.lt)
      replace R := Lib.hid (R.out.below hb R.out.lt)
      replace D := Lib.hid (D.out.below hb)
      replace Pb := Lib.hid (Pb.out.below hb Pb.out.lt)
      clear hb bq
      obtain ⟨bm, hbm⟩ : ∃ bm, botI ms = bm := ⟨_, rfl⟩
      obtain ⟨tm, htm⟩ : ∃ tm, topI ms = tm := ⟨_, rfl⟩
      rw [hbm, htm]
      have HBM := Lib.hid hbm
      have HTM := Lib.hid htm
      clear hbm htm
      obtain ⟨nm, hnm⟩ : ∃ nm, ms.length = nm := ⟨_, rfl⟩
      rw [hnm] at BQ ⊢
      have HNM := Lib.hid hnm
      clear hnm
      refine hK _ _ HK.out ?_
      clear hK K
      repeat
        apply wpT_q rfl
        case h =>
          intro w' hI K hK
          simp only [quietV, stillV]
          go_simp
          exact hK
        go_simp
      refine wpT_r rfl ?_ HK.out
      intro K hK _
      go_simp
      have kr := Pb.out.cell
      have fr := Pb.out.frozen
      have lr := Pb.out.lt
      simp [kr, fr, lr, go_sem]
      have NE : Hid (w.heap.size ≠ Y1.heap.size) := Lib.hid (by have := ZR.out; omega)
      have NE1 : Hid (w.heap.size + 1 ≠ Y1.heap.size) := Lib.hid (by have := ZR.out; omega)
      have HK2 := Lib.hid (Blk.far (Blk.far (Blk.far (Blk.far (Blk.far HK.out (p := ⟨Y1.heap.size, 0, none⟩) NE.out (.slice xa nm ya)) (p := ⟨Y1.heap.size, 1, none⟩) NE.out (.slice xo nm yo)) (p := ⟨Y1.heap.size, 2, none⟩) NE.out (.slice xi nm yi)) (p := ⟨Y1.heap.size, 3, none⟩) NE.out (.int .i64 bm)) (p := ⟨Y1.heap.size, 4, none⟩) NE.out (.int .i64 tm))
      have R2 := Lib.hid (Blk.far (Blk.far (Blk.far (Blk.far (Blk.far R.out (p := ⟨Y1.heap.size, 0, none⟩) NE1.out (.slice xa nm ya)) (p := ⟨Y1.heap.size, 1, none⟩) NE1.out (.slice xo nm yo)) (p := ⟨Y1.heap.size, 2, none⟩) NE1.out (.slice xi nm yi)) (p := ⟨Y1.heap.size, 3, none⟩) NE1.out (.int .i64 bm)) (p := ⟨Y1.heap.size, 4, none⟩) NE1.out (.int .i64 tm))
      have P2 := Lib.hid (Blk.set_ (Blk.set_ (Blk.set_ (Blk.set_ (Blk.set_ Pb.out 0 (.slice xa nm ya)) 1 (.slice xo nm yo)) 2 (.slice xi nm yi)) 3 (.int .i64 bm)) 4 (.int .i64 tm))
      have D2 := Lib.hid (Dg.set (Dg.set (Dg.set (Dg.set (Dg.set D.out (p := ⟨Y1.heap.size, 0, none⟩) ZP.out (.slice xa nm ya)) (p := ⟨Y1.heap.size, 1, none⟩) ZP.out (.slice xo nm yo)) (p := ⟨Y1.heap.size, 2, none⟩) ZP.out (.slice xi nm yi)) (p := ⟨Y1.heap.size, 3, none⟩) ZP.out (.int .i64 bm)) (p := ⟨Y1.heap.size, 4, none⟩) ZP.out (.int .i64 tm))
      have BQ2 := Lib.hid (((Bt.setBelow (Bt.setBelow (Bt.setBelow (Bt.setBelow (Bt.setBelow BQ.out (p := ⟨Y1.heap.size, 0, none⟩) HPL.out (.slice xa nm ya)) (p := ⟨Y1.heap.size, 1, none⟩) HPL.out (.slice xo nm yo)) (p := ⟨Y1.heap.size, 2, none⟩) HPL.out (.slice xi nm yi)) (p := ⟨Y1.heap.size, 3, none⟩) HPL.out (.int .i64 bm)) (p := ⟨Y1.heap.size, 4, none⟩) HPL.out (.int .i64 tm))).mono HDZ.out)
      refine hK _ _ HK2.out ?_
      clear hK K kr fr lr
      repeat
        apply wpT_q rfl
        case h =>
          intro w' hI K hK
          simp only [quietV, stillV]
          go_simp
          exact hK
        go_simp
      refine wpT_fin ?_
      try simp only [List.drop_succ_cons, List.drop_zero, List.drop_nil]
      clear HK D R Pb BQ HBZ HK2
      have BQ3 := Lib.hid (BQ2.out.mono (Nat.le_refl _))
      generalize hW9 : (World.setCell (World.setCell (World.setCell (World.setCell (World.setCell Y20 ⟨Y1.heap.size, 0, none⟩ (.slice xa nm ya)) ⟨Y1.heap.size, 1, none⟩ (.slice xo nm yo)) ⟨Y1.heap.size, 2, none⟩ (.slice xi nm yi)) ⟨Y1.heap.size, 3, none⟩ (.int .i64 bm)) ⟨Y1.heap.size, 4, none⟩ (.int .i64 tm)) = W9 at *
      have kp := P2.out.cell
      have lp := P2.out.lt
      have kr := R2.out.cell
      have fr := R2.out.frozen
      have lr := R2.out.lt
      have k0 : W9.cell? ⟨Y1.heap.size, 0, none⟩ = some (.slice xa nm ya) := kp 0
      have k1 : W9.cell? ⟨Y1.heap.size, 1, none⟩ = some (.slice xo nm yo) := kp 1
      have k2 : W9.cell? ⟨Y1.heap.size, 2, none⟩ = some (.slice xi nm yi) := kp 2
      have k3 : W9.cell? ⟨Y1.heap.size, 3, none⟩ = some (.int .i64 bm) := kp 3
      have k4 : W9.cell? ⟨Y1.heap.size, 4, none⟩ = some (.int .i64 tm) := kp 4
      clear hW9 kp
      go_wp2
      refine bodyPost_ret (v := .agg #[.slice xa nm ya, .slice xo nm yo, .slice xi nm yi, .int .i64 bm, .int .i64 tm]) (by simp [results, Tryz.results156, go_sem, kr, fr, lr]) rfl ⟨ms, xa, ya, xo, yo, xi, yi, by rw [HNM.out, HBM.out, HTM.out], HML.out, HXM.out, ?_, ?_, ?_⟩
      · rw [HNM.out]
        exact (((((BQ3.out.setBelow (p := ⟨w.heap.size + 1, 0, none⟩) (Nat.lt_succ_self _) _).setBelow (p := ⟨w.heap.size + 1, 1, none⟩) (Nat.lt_succ_self _) _).setBelow (p := ⟨w.heap.size + 1, 2, none⟩) (Nat.lt_succ_self _) _).setBelow (p := ⟨w.heap.size + 1, 3, none⟩) (Nat.lt_succ_self _) _).setBelow (p := ⟨w.heap.size + 1, 4, none⟩) (Nat.lt_succ_self _) _).mono (Nat.le_trans (Nat.le_succ _) (Nat.le_succ _))
      · exact (((((D2.out.set (p := ⟨w.heap.size + 1, 0, none⟩) (Nat.le_succ _) _).set (p := ⟨w.heap.size + 1, 1, none⟩) (Nat.le_succ _) _).set (p := ⟨w.heap.size + 1, 2, none⟩) (Nat.le_succ _) _).set (p := ⟨w.heap.size + 1, 3, none⟩) (Nat.le_succ _) _).set (p := ⟨w.heap.size + 1, 4, none⟩) (Nat.le_succ _) _).S
      · exact (((((D2.out.set (p := ⟨w.heap.size + 1, 0, none⟩) (Nat.le_succ _) _).set (p := ⟨w.heap.size + 1, 1, none⟩) (Nat.le_succ _) _).set (p := ⟨w.heap.size + 1, 2, none⟩) (Nat.le_succ _) _).set (p := ⟨w.heap.size + 1, 3, none⟩) (Nat.le_succ _) _).set (p := ⟨w.heap.size + 1, 4, none⟩) (Nat.le_succ _) _).gr
  · skip
    intro K hK _
    go_simp
    have hb := below_alloc' X0 (.cells #[.slice none 0 0, .slice none 0 0, .slice none 0 0, .int .i64 0, .int .i64 0] 26)
    have Pb := Lib.hid (Blk.new X0 26 #[.slice none 0 0, .slice none 0 0, .slice none 0 0, .int .i64 0, .int .i64 0])
    have ZP : Hid (w.heap.size ≤ X0.heap.size) := Lib.hid D.out.size
    have ZR : Hid (w.heap.size + 1 < X0.heap.size) := Lib.hid R.out.lt
    replace HK := Lib.hid (HK.out.below hb HK.out.lt)
    replace R := Lib.hid (R.out.below hb R.out.lt)
    replace D := Lib.hid (D.out.below hb)
    replace BT := Lib.hid (BT.out.below hb)
    have HBZ := Lib.hid hb
    refine hK _ _ HK.out ?_
    clear hK K hb
    generalize World.alloc X0 _ = Y21 at *
    refine wpT_r rfl ?_ HK.out
    intro K hK _
    go_simp
    refine (C1.out Y21 BT.out).mono ?_
    rintro e Y22 ⟨u0, rfl, o0, hb⟩
    have O0 := Lib.hid (D.out.made o0)
    clear o0
    replace HK := Lib.hid (HK.out.below hb HK.out.lt)
    replace R := Lib.hid (R.out.below hb R.out.lt)
    replace D := Lib.hid (D.out.below hb)
    replace BT := Lib.hid (BT.out.below hb)
    replace Pb := Lib.hid (Pb.out.below hb Pb.out.lt)
    clear hb
    refine hK _ _ HK.out ?_
    clear hK K
    refine wpT_r rfl ?_ HK.out
    intro K hK _
    go_simp
    refine (C2.out Y22 BT.out).mono ?_
    rintro e Y23 ⟨rfl, hb⟩
    replace HK := Lib.hid (HK.out.below hb HK.out.lt)
    replace R := Lib.hid (R.out.below hb R.out.lt)
    replace D := Lib.hid (D.out.below hb)
    replace BT := Lib.hid (BT.out.below hb)
    replace O0 := Lib.hid (O0.out.below hb)
    replace Pb := Lib.hid (Pb.out.below hb Pb.out.lt)
    clear hb
    refine hK _ _ HK.out ?_
    clear hK K
    refine wpT_r rfl ?_ HK.out
    intro K hK _
    go_simp
    refine (spec_l16ShuffleX w0 v xs Y23 g ns.length D.out.S HN30.out).mono ?_
    rintro e Y24 ⟨u1, os, rfl, hp, o1, hS, hg⟩
    have HP := Lib.hid hp
    have O1 := Lib.hid (D.out.made o1)
    replace O0 := Lib.hid (D.out.pass O0.out hg)
    replace HK := Lib.hid (D.out.blk HK.out (Nat.le_refl _) hg)
    replace R := Lib.hid (D.out.blk R.out (Nat.le_succ _) hg)
    replace Pb := Lib.hid (D.out.blk Pb.out ZP.out hg)
    replace D := Lib.hid (D.out.call hS hg)
    clear hp o1 hS hg BT
    refine hK _ _ HK.out ?_
    clear hK K
    refine wpT_r rfl ?_ HK.out
    intro K hK _
    go_simp
    refine (C4.out Y24 _ _ os O0.out.sl O1.out.sl HP.out).mono ?_
    rintro e Y25 ⟨A2, c2, rfl, o2, hb⟩
    have O2 := Lib.hid (D.out.made o2)
    clear o2
    replace HK := Lib.hid (HK.out.below hb HK.out.lt)
    replace R := Lib.hid (R.out.below hb R.out.lt)
    replace D := Lib.hid (D.out.below hb)
    replace O0 := Lib.hid (O0.out.below hb)
    replace O1 := Lib.hid (O1.out.below hb)
    replace Pb := Lib.hid (Pb.out.below hb Pb.out.lt)
    clear hb
    refine hK _ _ HK.out ?_
    clear hK K
    refine wpT_r rfl ?_ HK.out
    intro K hK _
    go_simp
    obtain ⟨ms, hml, hxm, C5x⟩ := C5.out Y25 _ os HP.out O2.out.sl
    have HML := Lib.hid hml
    have HXM := Lib.hid hxm
    clear hml hxm
    refine C5x.mono ?_
    rintro e Y26 ⟨xa, ya, xo, yo, xi, yi, rfl, bq, hb⟩
    clear C5x O0 O1 O2 HP C1 C2 C4 C5
    have BQ := Lib.hid bq
    have HPL := Lib.hid Pb.out.lt
    have HDZ := Lib.hid (show w.heap.size + 2 ≤ _ from R.out.lt)
    replace HK := Lib.hid (HK.out.below hb HK.out.lt)
    replace R := Lib.hid (R.out.below hb R.out.lt)
    replace D := Lib.hid (D.out.below hb)
    replace Pb := Lib.hid (Pb.out.below hb Pb.out.lt)
    clear hb bq
    obtain ⟨bm, hbm⟩ : ∃ bm, botI ms = bm := ⟨_, rfl⟩
    obtain ⟨tm, htm⟩ : ∃ tm, topI ms = tm := ⟨_, rfl⟩
    rw [hbm, htm]
    have HBM := Lib.hid hbm
    have HTM := Lib.hid htm
    clear hbm htm
    obtain ⟨nm, hnm⟩ : ∃ nm, ms.length = nm := ⟨_, rfl⟩
    rw [hnm] at BQ ⊢
    have HNM := Lib.hid hnm
    clear hnm
    refine hK _ _ HK.out ?_
    clear hK K
    repeat
      apply wpT_q rfl
      case h =>
        intro w' hI K hK
        simp only [quietV, stillV]
        go_simp
        exact hK
      go_simp
    refine wpT_r rfl ?_ HK.out
    intro K hK _
    go_simp
    have kr := Pb.out.cell
    have fr := Pb.out.frozen
    have lr := Pb.out.lt
    simp [kr, fr, lr, go_sem]
    have NE : Hid (w.heap.size ≠ X0.heap.size) := Lib.hid (by have := ZR.out; omega)
    have NE1 : Hid (w.heap.size + 1 ≠ X0.heap.size) := Lib.hid (by have := ZR.out; omega)
    have HK2 := Lib.hid (Blk.far (Blk.far (Blk.far (Blk.far (Blk.far HK.out (p := ⟨X0.heap.size, 0, none⟩) NE.out (.slice xa nm ya)) (p := ⟨X0.heap.size, 1, none⟩) NE.out (.slice xo nm yo)) (p := ⟨X0.heap.size, 2, none⟩) NE.out (.slice xi nm yi)) (p := ⟨X0.heap.size, 3, none⟩) NE.out (.int .i64 bm)) (p := ⟨X0.heap.size, 4, none⟩) NE.out (.int .i64 tm))
    have R2 := Lib.hid (Blk.far (Blk.far (Blk.far (Blk.far (Blk.far R.out (p := ⟨X0.heap.size, 0, none⟩) NE1.out (.slice xa nm ya)) (p := ⟨X0.heap.size, 1, none⟩) NE1.out (.slice xo nm yo)) (p := ⟨X0.heap.size, 2, none⟩) NE1.out (.slice xi nm yi)) (p := ⟨X0.heap.size, 3, none⟩) NE1.out (.int .i64 bm)) (p := ⟨X0.heap.size, 4, none⟩) NE1.out (.int .i64 tm))
    have P2 := Lib.hid (Blk.set_ (Blk.set_ (Blk.set_ (Blk.set_ (Blk.set_ Pb.out 0 (.slice xa nm ya)) 1 (.slice xo nm yo)) 2 (.slice xi nm yi)) 3 (.int .i64 bm)) 4 (.int .i64 tm))
    have D2 := Lib.hid (Dg.set (Dg.set (Dg.set (Dg.set (Dg.set D.out (p := ⟨X0.heap.size, 0, none⟩) ZP.out (.slice xa nm ya)) (p := ⟨X0.heap.size, 1, none⟩) ZP.out (.slice xo nm yo)) (p := ⟨X0.heap.size, 2, none⟩) ZP.out (.slice xi nm yi)) (p := ⟨X0.heap.size, 3, none⟩) ZP.out (.int .i64 bm)) (p := ⟨X0.heap.size, 4, none⟩) ZP.out (.int .i64 tm))
    have BQ2 := Lib.hid (((Bt.setBelow (Bt.setBelow (Bt.setBelow (Bt.setBelow (Bt.setBelow BQ.out (p := ⟨X0.heap.size, 0, none⟩) HPL.out (.slice xa nm ya)) (p := ⟨X0.heap.size, 1, none⟩) HPL.out (.slice xo nm yo)) (p := ⟨X0.heap.size, 2, none⟩) HPL.out (.slice xi nm yi)) (p := ⟨X0.heap.size, 3, none⟩) HPL.out (.int .i64 bm)) (p := ⟨X0.heap.size, 4, none⟩) HPL.out (.int .i64 tm))).mono HDZ.out)
    refine hK _ _ HK2.out ?_
    clear hK K kr fr lr
    repeat
      apply wpT_q rfl
      case h =>
        intro w' hI K hK
        simp only [quietV, stillV]
        go_simp
        exact hK
      go_simp
    refine wpT_fin ?_
    try simp only [List.drop_succ_cons, List.drop_zero, List.drop_nil]
    clear HK D R Pb BQ HBZ HK2
    have BQ3 := Lib.hid (BQ2.out.mono (Nat.le_refl _))
    generalize hW9 : (World.setCell (World.setCell (World.setCell (World.setCell (World.setCell Y26 ⟨X0.heap.size, 0, none⟩ (.slice xa nm ya)) ⟨X0.heap.size, 1, none⟩ (.slice xo nm yo)) ⟨X0.heap.size, 2, none⟩ (.slice xi nm yi)) ⟨X0.heap.size, 3, none⟩ (.int .i64 bm)) ⟨X0.heap.size, 4, none⟩ (.int .i64 tm)) = W9 at *
    have kp := P2.out.cell
    have lp := P2.out.lt
    have kr := R2.out.cell
    have fr := R2.out.frozen
    have lr := R2.out.lt
    have k0 : W9.cell? ⟨X0.heap.size, 0, none⟩ = some (.slice xa nm ya) := kp 0
    have k1 : W9.cell? ⟨X0.heap.size, 1, none⟩ = some (.slice xo nm yo) := kp 1
    have k2 : W9.cell? ⟨X0.heap.size, 2, none⟩ = some (.slice xi nm yi) := kp 2
    have k3 : W9.cell? ⟨X0.heap.size, 3, none⟩ = some (.int .i64 bm) := kp 3
    have k4 : W9.cell? ⟨X0.heap.size, 4, none⟩ = some (.int .i64 tm) := kp 4
    clear hW9 kp
    go_wp2
    refine bodyPost_ret (v := .agg #[.slice xa nm ya, .slice xo nm yo, .slice xi nm yi, .int .i64 bm, .int .i64 tm]) (by simp [results, Tryz.results156, go_sem, kr, fr, lr]) rfl ⟨ms, xa, ya, xo, yo, xi, yi, by rw [HNM.out, HBM.out, HTM.out], HML.out, HXM.out, ?_, ?_, ?_⟩
    · rw [HNM.out]
      exact (((((BQ3.out.setBelow (p := ⟨w.heap.size + 1, 0, none⟩) (Nat.lt_succ_self _) _).setBelow (p := ⟨w.heap.size + 1, 1, none⟩) (Nat.lt_succ_self _) _).setBelow (p := ⟨w.heap.size + 1, 2, none⟩) (Nat.lt_succ_self _) _).setBelow (p := ⟨w.heap.size + 1, 3, none⟩) (Nat.lt_succ_self _) _).setBelow (p := ⟨w.heap.size + 1, 4, none⟩) (Nat.lt_succ_self _) _).mono (Nat.le_trans (Nat.le_succ _) (Nat.le_succ _))
    · exact (((((D2.out.set (p := ⟨w.heap.size + 1, 0, none⟩) (Nat.le_succ _) _).set (p := ⟨w.heap.size + 1, 1, none⟩) (Nat.le_succ _) _).set (p := ⟨w.heap.size + 1, 2, none⟩) (Nat.le_succ _) _).set (p := ⟨w.heap.size + 1, 3, none⟩) (Nat.le_succ _) _).set (p := ⟨w.heap.size + 1, 4, none⟩) (Nat.le_succ _) _).S
    · exact (((((D2.out.set (p := ⟨w.heap.size + 1, 0, none⟩) (Nat.le_succ _) _).set (p := ⟨w.heap.size + 1, 1, none⟩) (Nat.le_succ _) _).set (p := ⟨w.heap.size + 1, 2, none⟩) (Nat.le_succ _) _).set (p := ⟨w.heap.size + 1, 3, none⟩) (Nat.le_succ _) _).set (p := ⟨w.heap.size + 1, 4, none⟩) (Nat.le_succ _) _).gr
end Go.Proofs.YtgkogfjifcfkoaaGreat
