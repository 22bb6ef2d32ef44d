/- Joined of several texts. -/
import Derived.Test.YtcikenffeekkeaaGreatDoorY37
import Derived.Test.YtcikenffeekkeaaGreatDoorY38
import Derived.Test.YtcikenffeekkeaaGreatDoorY32
import Derived.Test.YtcikenffeekkeaaGreatDoorY11
import Derived.Test.YtcikenffeekkeaaGreatDoorY10
import Derived.Test.YtcikenffeekkeaaGreatDoorY16
import Derived.Test.YtcikenffeekkeaaGreatDoorY12
import Derived.Test.YtcikenffeekkeaaGreatDoorY18
import Derived.Test.YtcikenffeekkeaaGreatDoorY25
import Derived.Test.YtcikenffeekkeaaGreatDoorY20
import Derived.Test.YtcikenffeekkeaaGreatDoorY13
import Derived.Test.YtcikenffeekkeaaGreatDoorY22
import Derived.WalkSpells
namespace Go.Proofs.YtcikenffeekkeaaGreatDoor
/- Contracts of the reference: a copy of a line with other indices. Written by genS3C.py. -/
open Go.RowKit
set_option linter.unusedVariables false
set_option linter.unusedSimpArgs false
theorem blks_agg4 {x y z : Int} {k : Nat} {A : Option Addr} {n c : Nat} : k ∈ blks (.agg #[.int .i64 x, .int .i64 y, .int .i64 z, .slice A n c]) ↔ k ∈ blks (.slice A n c) := by
  simp [blks, blksA, blks_int, mem_blk1]
theorem Sl.atG {w : World} {b o n c : Nat} {xs : List Int} (h : Sl cI w (.slice (some ⟨b, o, none⟩) n c) xs) {k : Nat} (hk : k < xs.length) : b < w.heap.size ∧ w.cell? ⟨b, o + k, none⟩ = some (.int .i64 xs[k]) := by
  obtain ⟨b', o', e, hb, hc⟩ := h.atI hk
  injection e with e
  injection e with e1 e2
  subst e1 e2
  exact ⟨hb, hc⟩
set_option maxRecDepth 100000 in
set_option maxHeartbeats 2000000 in
theorem spec_l13Move (l : Ln) (v u : Value) (T : List Int) (w : World) (hv : Sl cN w v l.x) (hu : Sl cI w u T) (hP : ∀ x ∈ prmL l, ∃ i : Nat, x = i ∧ i < T.length) (hl : l.x.length ≤ 1048576) (hlT : T.length ≤ 1048576) :
    Calls Tryz.prog 34 #[.agg #[.int .i64 l.r, .int .i64 l.f, .int .i64 l.s, v], u] w fun e w' => ∃ r, e = .returned (.agg #[.int .i64 l.r, .int .i64 (mvf T l), .int .i64 (mvs T l), r]) ∧ Ow cN 75 w.heap.size w' r l.x ∧ Below w.heap.size w w' := by
  obtain ⟨Ax, cx, rfl⟩ := hv.opn
  obtain ⟨A', c', rfl⟩ := hu.opn
  obtain ⟨r, f, s, xs⟩ := l
  simp only at *
  have hb1 := below_alloc' w (.cells #[.int .i64 r, .int .i64 f, .int .i64 s, .slice Ax xs.length cx] 46)
  have hk1 := Blk.new w 46 #[.int .i64 r, .int .i64 f, .int .i64 s, .slice Ax xs.length cx]
  have hk2 := Blk.new (w.alloc (.cells #[.int .i64 r, .int .i64 f, .int .i64 s, .slice Ax xs.length cx] 46)) 46 #[.int .i64 0, .int .i64 0, .int .i64 0, .slice none 0 0]
  have hb2 := below_alloc' (w.alloc (.cells #[.int .i64 r, .int .i64 f, .int .i64 s, .slice Ax xs.length cx] 46)) (.cells #[.int .i64 0, .int .i64 0, .int .i64 0, .slice none 0 0] 46)
  have hk1' := hk1.below hb2 hk1.lt
  have hbb := hb1.trans (hb2.mono hb1.size)
  have hz : (w.alloc (.cells #[.int .i64 r, .int .i64 f, .int .i64 s, .slice Ax xs.length cx] 46)).heap.size = w.heap.size + 1 := by simp
  rw [hz] at hk2
  have HV := Lib.hid (hv.below hbb)
  have HU := Lib.hid hu
  have HP := Lib.hid hP
  clear hv hu hP hb1 hk1 hb2 hz
  go_enter Tryz.func34, Tryz.ntmps34
  go_upto_region 1 with fail
  obtain ⟨w1, hw1⟩ : ∃ X, X = (w.alloc (.cells #[.int .i64 r, .int .i64 f, .int .i64 s, .slice Ax xs.length cx] 46)).alloc (.cells #[.int .i64 0, .int .i64 0, .int .i64 0, .slice none 0 0] 46) := ⟨_, rfl⟩
  rw [← hw1] at HV hk1' hk2 hbb ⊢
  clear hw1
  obtain ⟨p, hp⟩ : ∃ p, w.heap.size = p := ⟨_, rfl⟩
  have HPW : Hid (w.heap.size = p) := Lib.hid hp
  rw [hp] at hk1' hk2 hbb ⊢
  clear hp
  have HK1 := Lib.hid hk1'
  have HK2 := Lib.hid hk2
  have HBB := Lib.hid hbb
  have c0 : w1.cell? ⟨p, 0, none⟩ = some (.int .i64 r) := hk1'.cell 0
  have c1 : w1.cell? ⟨p, 1, none⟩ = some (.int .i64 f) := hk1'.cell 1
  have c2 : w1.cell? ⟨p, 2, none⟩ = some (.int .i64 s) := hk1'.cell 2
  have c3 : w1.cell? ⟨p, 3, none⟩ = some (.slice Ax xs.length cx) := hk1'.cell 3
  have lp := hk1'.lt
  clear hk1' hk2 hbb
  have HOW := Lib.hid (fun W (hW : Below w1.heap.size w1 W) => spec_l02Own (.slice Ax xs.length cx) xs W (HV.out.below hW) hl)
  refine wp_region_rely (Below w1.heap.size w1) [fun _ v _ => v = .pointer (some ⟨p, 0, none⟩), fun _ v _ => v = .int .i64 r, fun _ v _ => v = .pointer (some ⟨p, 1, none⟩), fun _ v _ => v = .int .i64 f, fun _ v _ => v = .pointer (some ⟨p, 2, none⟩), fun _ v _ => v = .int .i64 s, fun _ v _ => v = .pointer (some ⟨p, 3, none⟩), fun _ v _ => v = .slice Ax xs.length cx,
      fun _ v X => ∃ A c, v = .slice A xs.length c ∧ Ow cN 75 w1.heap.size X (.slice A xs.length c) xs,
      fun _ v X => ∃ A c, v = .agg #[.int .i64 r, .int .i64 f, .int .i64 s, .slice A xs.length c] ∧ Ow cN 75 w1.heap.size X (.slice A xs.length c) xs,
      fun _ v X => ∃ b, v = .pointer (some ⟨b, 0, none⟩) ∧ w1.heap.size ≤ b ∧ Blk X b 46 #[.int .i64 0, .int .i64 0, .int .i64 0, .slice none 0 0]]
      [none, none, none, none, none, none, none, none, some 8, some 8, some 10]
      [(some 6, []), (some 7, [(0, some 6)]), (some 8, []), (some 9, [(2, some 8)]), (some 10, []), (some 11, [(4, some 10)]), (some 12, []), (some 13, [(6, some 12)]), (some 14, [(7, some 13)]), (some 15, [(1, some 7), (3, some 9), (5, some 11), (8, some 14)]), (some 5, [])] 40
      (by kernel_rfl) (by kernel_rfl) rfl ((Below.refl _ _).drew) (fun X Y h hb => h.trans (hb.mono h.size)) ?st ?en
  case st =>
    refine stepsR_cons ?_ (stepsR_cons ?_ (stepsR_cons ?_ (stepsR_cons ?_ (stepsR_cons ?_ (stepsR_cons ?_ (stepsR_cons ?_ (stepsR_cons ?_ (stepsR_cons ?_ (stepsR_cons ?_ (stepsR_cons ?_ stepsR_nil))))))))))
    · intro X hX
      refine stepR_of rfl ?_
      intro K hK
      go_simp
      exact hK _ _ (Below.refl _ _) rfl (fun h => absurd rfl h) rfl
    · intro X hX v0 f0
      obtain ⟨q0, X0, hX0, rfl⟩ := f0
      have c0' := (hX.cell (p := ⟨p, 0, none⟩) lp).trans c0
      refine stepR_of rfl ?_
      intro K hK
      go_simp
      exact hK _ _ (Below.refl _ _) rfl (fun h => absurd rfl h) rfl
    · intro X hX
      refine stepR_of rfl ?_
      intro K hK
      go_simp
      exact hK _ _ (Below.refl _ _) rfl (fun h => absurd rfl h) rfl
    · intro X hX v0 f0
      obtain ⟨q0, X0, hX0, rfl⟩ := f0
      have c1' := (hX.cell (p := ⟨p, 1, none⟩) lp).trans c1
      refine stepR_of rfl ?_
      intro K hK
      go_simp
      exact hK _ _ (Below.refl _ _) rfl (fun h => absurd rfl h) rfl
    · intro X hX
      refine stepR_of rfl ?_
      intro K hK
      go_simp
      exact hK _ _ (Below.refl _ _) rfl (fun h => absurd rfl h) rfl
    · intro X hX v0 f0
      obtain ⟨q0, X0, hX0, rfl⟩ := f0
      have c2' := (hX.cell (p := ⟨p, 2, none⟩) lp).trans c2
      refine stepR_of rfl ?_
      intro K hK
      go_simp
      exact hK _ _ (Below.refl _ _) rfl (fun h => absurd rfl h) rfl
    · intro X hX
      refine stepR_of rfl ?_
      intro K hK
      go_simp
      exact hK _ _ (Below.refl _ _) rfl (fun h => absurd rfl h) rfl
    · intro X hX v0 f0
      obtain ⟨q0, X0, hX0, rfl⟩ := f0
      have c3' := (hX.cell (p := ⟨p, 3, none⟩) lp).trans c3
      refine stepR_of rfl ?_
      intro K hK
      go_simp
      exact hK _ _ (Below.refl _ _) rfl (fun h => absurd rfl h) rfl
    · intro X hX v7 f7
      obtain ⟨q7, X7, hX7, rfl⟩ := f7
      refine stepR_of rfl ?_
      intro K hK
      go_simp
      refine (HOW.out X hX).mono ?_
      rintro e X5 ⟨u1, rfl, ho, hb⟩
      obtain ⟨A, c, rfl⟩ := ho.opn
      exact hK _ _ hb ⟨A, c, rfl, ho.mono hX.size⟩ (fun _ k hk => ⟨(ho.block k (blks_own hk)).2, .inl (ho.block k (blks_own hk)).1⟩) rfl
    · intro X hX v1 f1 v3 f3 v5 f5 v8 f8
      obtain ⟨q1, X1, hX1, rfl⟩ := f1
      obtain ⟨q3, X3, hX3, rfl⟩ := f3
      obtain ⟨q5, X5, hX5, rfl⟩ := f5
      obtain ⟨q8, X8, hX8, A, c, rfl, ho⟩ := f8
      have ho' := ho.below hX8
      refine stepR_of rfl ?_
      intro K hK
      go_simp
      exact hK _ _ (Below.refl _ _) ⟨A, c, rfl, ho'⟩ (fun _ k hk => ⟨(ho'.block k (blks_own (blks_agg4.1 hk))).2, .inr (List.mem_append_left _ (blks_agg4.1 hk))⟩) rfl
    · intro X hX
      refine stepR_of rfl ?_
      intro K hK
      go_simp
      exact hK _ _ (below_alloc' X _) ⟨X.heap.size, rfl, hX.size, Blk.new X _ _⟩ (fun _ k hk => by have := blks_ptr hk; subst this; exact ⟨by simp, .inl (Nat.le_refl _)⟩) rfl
  case en =>
    intro X hX v0 f0 v1 f1 v2 f2 v3 f3 v4 f4 v5 f5 v6 f6 v7 f7 v8 f8 v9 f9 v10 f10 hsep
    obtain ⟨X9, hX9, A, cA, rfl, ho9⟩ := f9
    obtain ⟨X10, hX10, b, rfl, hgb, hk⟩ := f10
    have n1 : (Value.slice A xs.length cA).ownBlock ≠ some b := fun e => hsep.get 9 10 rfl rfl (by decide) (blks_agg4.2 (own_blks e)) (ptr_blks _)
    have kb := hk.below hX10 hk.lt
    have ho := ho9.below hX9
    have HKP := Lib.hid (HK1.out.below hX HK1.out.lt)
    have HKQ := Lib.hid (HK2.out.below hX HK2.out.lt)
    have HOX := Lib.hid ho
    have HBX := Lib.hid (HBB.out.trans (hX.mono (by have := HK2.out.lt; omega)))
    have HQB := Lib.hid kb
    have HN1 := Lib.hid n1
    have HN2 : Hid ((Value.slice A xs.length cA).ownBlock ≠ some (p + 1)) := Lib.hid fun e => by have := (ho.block _ e).1; have := HK2.out.lt; omega
    have hbn : p + 1 < b := by have := HK2.out.lt; omega
    have HPZ : Hid (p ≤ w1.heap.size) := Lib.hid (by have := HK2.out.lt; omega)
    have kc := kb.cell
    have kf := kb.frozen
    have kl := kb.lt
    clear hsep f0 f1 f2 f3 f4 f5 f6 f7 f8 ho9 hk ho n1 hX hX9 hX10 hgb c0 c1 c2 c3 lp HOW HK1 HK2
    go_upto_region 2 with fail
    obtain ⟨w3, hw3⟩ : ∃ W, W = (((X.setCell ⟨b, 0, none⟩ (.int .i64 r)).setCell ⟨b, 1, none⟩ (.int .i64 f)).setCell ⟨b, 2, none⟩ (.int .i64 s)).setCell ⟨b, 3, none⟩ (.slice A xs.length cA) := ⟨_, rfl⟩
    rw [← hw3]
    have ks : KpS (fun k => k = b) X w3 := by
      rw [hw3]
      exact ((((KpS.refl (fun k => k = b) X).set (p := ⟨b, 0, none⟩) rfl _).set (p := ⟨b, 1, none⟩) rfl _).set (p := ⟨b, 2, none⟩) rfl _).set (p := ⟨b, 3, none⟩) rfl _
    have hq3 : Blk w3 b 46 #[.int .i64 r, .int .i64 f, .int .i64 s, .slice A xs.length cA] := by rw [hw3]; exact (((HQB.out.set_ 0 _).set_ 1 _).set_ 2 _).set_ 3 _
    have HB3 := Lib.hid hq3
    have HP3 := Lib.hid (HKP.out.kps ks (by omega))
    have HQ3 := Lib.hid (HKQ.out.kps ks (by omega))
    have HKS : Hid (KpS (fun k => k = p + 1 ∨ k = b) X w3) := Lib.hid (ks.mono fun k e => .inr e)
    have hU3 : Sl cI w3 (.slice A' T.length c') T := HU.out.below (by rw [HPW.out]; exact HBX.out.trans (ks.toBelow (by have := HKQ.out.lt; omega) fun k hk e => by omega))
    have HU3 := Lib.hid hU3
    have HF : Hid (∀ (w9 : World) (x y : Int), KpS (fun k => k = p + 1 ∨ k = b) X w9 → x = mvf T ⟨r, f, s, xs⟩ → y = mvs T ⟨r, f, s, xs⟩ → ∃ u, Ending.returned (.agg #[.int .i64 r, .int .i64 x, .int .i64 y, .slice A xs.length cA]) = .returned (.agg #[.int .i64 r, .int .i64 (mvf T ⟨r, f, s, xs⟩), .int .i64 (mvs T ⟨r, f, s, xs⟩), u]) ∧ Ow cN 75 p w9 u xs ∧ Below p w w9) := Lib.hid fun w9 x y hk e1 e2 =>
      ⟨_, by rw [e1, e2], (HOX.out.kps hk (fun k e e2 => by rcases e2 with rfl | rfl; exact HN2.out e; exact HN1.out e)).mono HPZ.out, HBX.out.trans (hk.toBelow (by have := HKQ.out.lt; omega) fun k hk e => by omega)⟩
    have d0 := HP3.out.cell 0
    have d1 := HP3.out.cell 1
    have d2 := HP3.out.cell 2
    have dl := HP3.out.lt
    clear ks hw3 hq3 hU3 HKP HKQ HQB kc kf kl kb
    by_cases h3 : r = 3
    · subst h3
      obtain ⟨i, hi, hiT⟩ := HP.out f (by unfold prmL; rw [if_pos rfl]; simp)
      obtain ⟨j, hj, hjT⟩ := HP.out s (by unfold prmL; rw [if_pos rfl]; simp)
      subst hi hj
      obtain ⟨bT, oT, rfl, hbT, m0⟩ := HU3.out.atI hiT
      obtain ⟨-, m1⟩ := HU3.out.atG hjT
      have HX : Hid (T[i] = mvf T ⟨3, (i : Int), (j : Int), xs⟩) := Lib.hid (by unfold mvf; rw [if_pos (.inl rfl), Int.toNat_natCast, List.getD_eq_getElem?_getD, List.getElem?_eq_getElem hiT]; rfl)
      have HY : Hid (T[j] = mvs T ⟨3, (i : Int), (j : Int), xs⟩) := Lib.hid (by unfold mvs; rw [if_pos rfl, Int.toNat_natCast, List.getD_eq_getElem?_getD, List.getElem?_eq_getElem hjT]; rfl)
      have hTb : bT < p := by
        have := HU.out.atG hiT
        rw [← HPW.out]; exact this.1
      obtain ⟨x, hx⟩ : ∃ x, T[i] = x := ⟨_, rfl⟩
      obtain ⟨y, hy⟩ : ∃ y, T[j] = y := ⟨_, rfl⟩
      rw [hx] at m0 HX
      rw [hy] at m1 HY
      clear hx hy
      have ks1 := (KpS.refl (fun k => k = b) w3).set (p := ⟨b, 1, none⟩) rfl (.int .i64 x)
      have ks2 := ks1.set (p := ⟨b, 2, none⟩) rfl (.int .i64 y)
      have m1' : (w3.setCell ⟨b, 1, none⟩ (.int .i64 x)).cell? ⟨bT, oT + j, none⟩ = some (.int .i64 y) := (ks1.cell (p := ⟨bT, oT + j, none⟩) hbT (by show ¬ bT = b; omega)).trans m1
      have d2' : (w3.setCell ⟨b, 1, none⟩ (.int .i64 x)).cell? ⟨p, 2, none⟩ = some (.int .i64 (j : Int)) := (ks1.cell (p := ⟨p, 2, none⟩) dl (by show ¬ p = b; omega)).trans d2
      have d0' : (w3.setCell ⟨b, 1, none⟩ (.int .i64 x)).cell? ⟨p, 0, none⟩ = some (.int .i64 3) := (ks1.cell (p := ⟨p, 0, none⟩) dl (by show ¬ p = b; omega)).trans d0
      have b1 := HB3.out.cell 1
      have b1f := HB3.out.frozen 1
      have bl := HB3.out.lt
      have HB4 := Lib.hid (HB3.out.set_ 1 (.int .i64 x))
      have b2 := HB4.out.cell 2
      have b2f := HB4.out.frozen 2
      have bl4 := HB4.out.lt
      have HB5 := Lib.hid (HB4.out.set_ 2 (.int .i64 y))
      have HQ5 := Lib.hid (HQ3.out.kps ks2 (by omega))
      have HK5 := Lib.hid (HKS.out.trans (ks2.mono fun k e => .inr e))
      clear ks1 ks2
      go_upto_region 6 with fail
      obtain ⟨w5, hw5⟩ : ∃ X, X = (w3.setCell ⟨b, 1, none⟩ (.int .i64 x)).setCell ⟨b, 2, none⟩ (.int .i64 y) := ⟨_, rfl⟩
      rw [← hw5] at HB5 HQ5 HK5 ⊢
      clear hw5 m0 m1 m1' d0 d1 d2 d0' d2' dl b1 b1f bl b2 b2f bl4 hbT HB3 HB4 HU3 HP3 HQ3 HKS hTb
      have e0 := HB5.out.cell 0
      have e1 := HB5.out.cell 1
      have e2 := HB5.out.cell 2
      have e3 := HB5.out.cell 3
      have el := HB5.out.lt
      have u0 := HQ5.out.frozen 0
      have u1 := HQ5.out.frozen 1
      have u2 := HQ5.out.frozen 2
      have u3 := HQ5.out.frozen 3
      have g0 := HQ5.out.cell 0
      have g1 := HQ5.out.cell 1
      have g2 := HQ5.out.cell 2
      have g3 := HQ5.out.cell 3
      have ul := HQ5.out.lt
      have HE6 := (((HQ5.out.set_ 0 (.int .i64 3)).set_ 1 (.int .i64 x)).set_ 2 (.int .i64 y)).set_ 3 (.slice A xs.length cA)
      have v0 := HE6.cell 0
      have v1 := HE6.cell 1
      have v2 := HE6.cell 2
      have v3 := HE6.cell 3
      have vl := HE6.lt
      have HK9 := Lib.hid ((((HK5.out.set (p := ⟨p + 1, 0, none⟩) (.inl rfl) (.int .i64 3)).set (p := ⟨p + 1, 1, none⟩) (.inl rfl) (.int .i64 x)).set (p := ⟨p + 1, 2, none⟩) (.inl rfl) (.int .i64 y)).set (p := ⟨p + 1, 3, none⟩) (.inl rfl) (.slice A xs.length cA))
      clear HE6
      go_wp2
      have HFF := HF.out _ x y HK9.out HX.out HY.out
      rw [← HPW.out] at HFF v0 v1 v2 v3 vl ⊢
      exact bodyPost_ret (v := .agg #[.int .i64 3, .int .i64 x, .int .i64 y, .slice A xs.length cA]) (by simp [results, Tryz.results34, go_sem, v0, v1, v2, v3, vl]) rfl HFF
    · by_cases h4 : r = 4
      · subst h4
        obtain ⟨i, hi, hiT⟩ := HP.out f (by unfold prmL; rw [if_neg h3, if_pos rfl]; simp)
        subst hi
        obtain ⟨bT, oT, rfl, hbT, m0⟩ := HU3.out.atI hiT
        have HX : Hid (T[i] = mvf T ⟨4, (i : Int), s, xs⟩) := Lib.hid (by unfold mvf; rw [if_pos (.inr rfl), Int.toNat_natCast, List.getD_eq_getElem?_getD, List.getElem?_eq_getElem hiT]; rfl)
        have HY : Hid (s = mvs T ⟨4, (i : Int), s, xs⟩) := Lib.hid (by unfold mvs; rw [if_neg h3])
        have hTb : bT < p := by
          have := HU.out.atG hiT
          rw [← HPW.out]; exact this.1
        obtain ⟨x, hx⟩ : ∃ x, T[i] = x := ⟨_, rfl⟩
        rw [hx] at m0 HX
        clear hx
        have ks1 := (KpS.refl (fun k => k = b) w3).set (p := ⟨b, 1, none⟩) rfl (.int .i64 x)
        have d0' : (w3.setCell ⟨b, 1, none⟩ (.int .i64 x)).cell? ⟨p, 0, none⟩ = some (.int .i64 4) := (ks1.cell (p := ⟨p, 0, none⟩) dl (by show ¬ p = b; omega)).trans d0
        have b1 := HB3.out.cell 1
        have b1f := HB3.out.frozen 1
        have bl := HB3.out.lt
        have HB5 := Lib.hid (HB3.out.set_ 1 (.int .i64 x))
        have HQ5 := Lib.hid (HQ3.out.kps ks1 (by omega))
        have HK5 := Lib.hid (HKS.out.trans (ks1.mono fun k e => .inr e))
        clear ks1
        go_upto_region 6 with fail
        obtain ⟨w5, hw5⟩ : ∃ X, X = w3.setCell ⟨b, 1, none⟩ (.int .i64 x) := ⟨_, rfl⟩
        rw [← hw5] at HB5 HQ5 HK5 ⊢
        clear hw5 m0 d0 d1 d2 d0' dl b1 b1f bl hbT HB3 HU3 HP3 HQ3 HKS hTb
        have e0 := HB5.out.cell 0
        have e1 := HB5.out.cell 1
        have e2 := HB5.out.cell 2
        have e3 := HB5.out.cell 3
        have el := HB5.out.lt
        have u0 := HQ5.out.frozen 0
        have u1 := HQ5.out.frozen 1
        have u2 := HQ5.out.frozen 2
        have u3 := HQ5.out.frozen 3
        have g0 := HQ5.out.cell 0
        have g1 := HQ5.out.cell 1
        have g2 := HQ5.out.cell 2
        have g3 := HQ5.out.cell 3
        have ul := HQ5.out.lt
        have HE6 := (((HQ5.out.set_ 0 (.int .i64 4)).set_ 1 (.int .i64 x)).set_ 2 (.int .i64 s)).set_ 3 (.slice A xs.length cA)
        have v0 := HE6.cell 0
        have v1 := HE6.cell 1
        have v2 := HE6.cell 2
        have v3 := HE6.cell 3
        have vl := HE6.lt
        have HK9 := Lib.hid ((((HK5.out.set (p := ⟨p + 1, 0, none⟩) (.inl rfl) (.int .i64 4)).set (p := ⟨p + 1, 1, none⟩) (.inl rfl) (.int .i64 x)).set (p := ⟨p + 1, 2, none⟩) (.inl rfl) (.int .i64 s)).set (p := ⟨p + 1, 3, none⟩) (.inl rfl) (.slice A xs.length cA))
        clear HE6
        go_wp2
        have HFF := HF.out _ x s HK9.out HX.out HY.out
        rw [← HPW.out] at HFF v0 v1 v2 v3 vl ⊢
        exact bodyPost_ret (v := .agg #[.int .i64 4, .int .i64 x, .int .i64 s, .slice A xs.length cA]) (by simp [results, Tryz.results34, go_sem, v0, v1, v2, v3, vl]) rfl HFF
      · have HX : Hid (f = mvf T ⟨r, f, s, xs⟩) := Lib.hid (by unfold mvf; rw [if_neg (by rintro (e | e); exact h3 e; exact h4 e)])
        have HY : Hid (s = mvs T ⟨r, f, s, xs⟩) := Lib.hid (by unfold mvs; rw [if_neg h3])
        have q3 : (r == 3) = false := by simpa using h3
        have q4 : (r == 4) = false := by simpa using h4
        have HB5 := HB3
        have HQ5 := HQ3
        have HK5 := HKS
        go_upto_region 6 with fail
        clear d0 d1 d2 dl
        have e0 := HB5.out.cell 0
        have e1 := HB5.out.cell 1
        have e2 := HB5.out.cell 2
        have e3 := HB5.out.cell 3
        have el := HB5.out.lt
        have u0 := HQ5.out.frozen 0
        have u1 := HQ5.out.frozen 1
        have u2 := HQ5.out.frozen 2
        have u3 := HQ5.out.frozen 3
        have g0 := HQ5.out.cell 0
        have g1 := HQ5.out.cell 1
        have g2 := HQ5.out.cell 2
        have g3 := HQ5.out.cell 3
        have ul := HQ5.out.lt
        have HE6 := (((HQ5.out.set_ 0 (.int .i64 r)).set_ 1 (.int .i64 f)).set_ 2 (.int .i64 s)).set_ 3 (.slice A xs.length cA)
        have v0 := HE6.cell 0
        have v1 := HE6.cell 1
        have v2 := HE6.cell 2
        have v3 := HE6.cell 3
        have vl := HE6.lt
        have HK9 := Lib.hid ((((HK5.out.set (p := ⟨p + 1, 0, none⟩) (.inl rfl) (.int .i64 r)).set (p := ⟨p + 1, 1, none⟩) (.inl rfl) (.int .i64 f)).set (p := ⟨p + 1, 2, none⟩) (.inl rfl) (.int .i64 s)).set (p := ⟨p + 1, 3, none⟩) (.inl rfl) (.slice A xs.length cA))
        clear HE6
        go_wp2
        have HFF := HF.out _ f s HK9.out HX.out HY.out
        rw [← HPW.out] at HFF v0 v1 v2 v3 vl ⊢
        exact bodyPost_ret (v := .agg #[.int .i64 r, .int .i64 f, .int .i64 s, .slice A xs.length cA]) (by simp [results, Tryz.results34, go_sem, v0, v1, v2, v3, vl]) rfl HFF
/- The texts of the schemes, byte by byte. -/
open Go.RowKit
set_option linter.unusedVariables false
/-- the bytes of the schemes' texts -/
def schB : List (Array UInt8) := [#[112, 62, 113, 62, 112], #[40, 112, 62, 113, 62, 114, 41, 62, 40, 112, 62, 113, 41, 62, 112, 62, 114], #[112, 38, 113, 62, 112], #[112, 38, 113, 62, 113], #[112, 62, 113, 62, 112, 38, 113], #[112, 62, 112, 124, 113], #[113, 62, 112, 124, 113], #[40, 112, 62, 114, 41, 62, 40, 113, 62, 114, 41, 62, 112, 124, 113, 62, 114], #[70, 62, 112], #[126, 126, 112, 62, 112], #[91, 93, 40, 112, 62, 113, 41, 62, 91, 93, 112, 62, 91, 93, 113], #[60, 62, 112, 62, 126, 91, 93, 126, 112], #[126, 91, 93, 126, 112, 62, 60, 62, 112], #[91, 93, 112, 62, 112], #[91, 93, 112, 62, 91, 93, 91, 93, 112], #[60, 62, 112, 62, 91, 93, 60, 62, 112], #[112, 62, 91, 93, 60, 62, 112], #[91, 93, 112, 62, 60, 62, 112], #[91, 93, 40, 91, 93, 112, 62, 112, 41, 62, 91, 93, 112]]
theorem schB_txt : ∀ k, k < 19 → (schB.map fun b => Value.string ⟨b⟩)[k]? = some (.string (txt (schF k))) := by
  intro k hk
  have h : k = 0 ∨ k = 1 ∨ k = 2 ∨ k = 3 ∨ k = 4 ∨ k = 5 ∨ k = 6 ∨ k = 7 ∨ k = 8 ∨ k = 9 ∨ k = 10 ∨ k = 11 ∨ k = 12 ∨ k = 13 ∨ k = 14 ∨ k = 15 ∨ k = 16 ∨ k = 17 ∨ k = 18 := by omega
  rcases h with rfl | rfl | rfl | rfl | rfl | rfl | rfl | rfl | rfl | rfl | rfl | rfl | rfl | rfl | rfl | rfl | rfl | rfl | rfl <;> rfl
/- Contracts of the reference: the schemes' texts, matching, instances of schemes. -/
open Go.RowKit
set_option linter.unusedVariables false
set_option linter.unusedSimpArgs false
theorem ty_nds3 : Ty Tryz.prog 29 44 (.slice none 0 0) 1 24 := Ty.mk' Tryz.underlying29 (by kernel_rfl) rfl (by decide)
theorem ty_bool3 : Ty Tryz.prog 124 4 (.bool false) 1 1 := Ty.mk' Tryz.underlying124 (by kernel_rfl) rfl (by decide)
set_option maxRecDepth 100000 in
theorem spec_l13Texts (w : World) :
    Calls Tryz.prog 104 #[] w fun e w' => ∃ cs : Array Value, e = .returned (.slice (some ⟨w.heap.size, 0, none⟩) 19 19) ∧ Blk w' w.heap.size 9 cs ∧ (∀ k, k < 19 → cs[k]? = some (.string (txt (schF k)))) ∧ Below w.heap.size w w' := by
  go_enter Tryz.func104, Tryz.ntmps104
  go_wp2
  go_ret
  exact ⟨_, rfl, Blk.new w _ _, fun k hk => by rw [List.getElem?_toArray]; exact schB_txt k hk, below_alloc' w _⟩
theorem spec_l13Scheme (k : Nat) (hk : k < 19) (hok : (schF k).ok = true) (hl : (enc (schF k)).length ≤ 40) (w : World) :
    Calls Tryz.prog 92 #[.int .i64 (k : Int)] w fun e w' => ∃ u, e = .returned u ∧ Sl cN w' u (enc (schF k)) ∧ Below w.heap.size w w' := by
  have HT := Lib.hid (spec_l13Texts w)
  have HG := Lib.hid (fun W => spec_l02GoodG (schF k) W hok hl)
  clear hok hl
  obtain ⟨t, ht⟩ : ∃ t, txt (schF k) = t := ⟨_, rfl⟩
  rw [ht] at HG
  have HTX := Lib.hid ht
  clear ht
  go_enter Tryz.func92, Tryz.ntmps92
  go_wp2_with fail
  refine HT.out.mono ?_
  rintro e w1 ⟨cs, rfl, hbk, hcs, hb⟩
  have c0 : w1.cell? ⟨w.heap.size, k, none⟩ = some (.string t) := (hbk.cell k).trans ((hcs k hk).trans (by rw [HTX.out]))
  have l0 := hbk.lt
  have HB := Lib.hid hb
  have HG1 := Lib.hid (HG.out w1)
  clear hbk hcs hb HT HG
  go_wp2_with fail
  refine HG1.out.mono ?_
  rintro e w2 ⟨A, cc, rfl, ho, hb⟩
  have HO := Lib.hid ho.sl
  have HB2 := Lib.hid (HB.out.trans (hb.mono HB.out.size))
  clear ho hb
  go_wp2
  go_ret
  exact ⟨_, rfl, HO.out, HB2.out⟩
set_option maxRecDepth 100000 in
theorem spec_l03Self (w : World) :
    Calls Tryz.prog 102 #[] w fun e w' => ∃ (G cc : Nat) (hs : List Hd), e = .returned (.slice (some ⟨G, 0, none⟩) 6 cc) ∧ Ow cH 44 w.heap.size w' (.slice (some ⟨G, 0, none⟩) 6 cc) hs ∧ hs.length = 6 ∧ Below w.heap.size w w' := by
  have HO0 : Hid (Ow cH 44 w.heap.size (w.alloc (.cells #[] 44)) (.slice (some ⟨w.heap.size, 0, none⟩) 0 0) []) := Lib.hid (Ow.lit (K := cH) (e := 44) (B := w.heap.size) (cs := #[]) (n := 0) [] rfl rfl (Nat.le_refl _))
  have HB0 := Lib.hid (below_alloc' w (.cells #[] 44))
  go_enter Tryz.func102, Tryz.ntmps102
  go_wp2
  go_loopw [1, 2] (fun o i wr => ∃ (j : Nat) (hs : List Hd), j ≤ 6 ∧ i = .int .i64 j ∧ Ow cH 44 w.heap.size wr o hs ∧ hs.length = j ∧ Below w.heap.size w wr) (fun _ i _ => 6 - (intOf i).toNat)
  case atStart => exact ⟨0, [], by omega, rfl, HO0.out, rfl, HB0.out⟩
  case round =>
    clear HO0 HB0
    obtain ⟨j, hs, hj, rfl, ho, hlen, hb⟩ := hrel
    obtain ⟨Ao, co, rfl⟩ := ho.opn
    have HO := Lib.hid ho
    have HB := Lib.hid hb
    have HL := Lib.hid hlen
    have HZ := Lib.hid hb.size
    by_cases hlt : j < 6
    · have HV := Lib.hid (spec_l02VarR (j : Int) wr)
      clear ho hb hlen
      go_wp2_with fail
      refine HV.out.mono ?_
      rintro e w1 ⟨u, rfl, hu, hb1⟩
      obtain ⟨Au, cu, rfl⟩ := hu.opn
      have HO1 := Lib.hid (HO.out.below hb1)
      have HB1 := Lib.hid (HB.out.trans (hb1.mono HZ.out))
      have HZ1 := Lib.hid (Nat.le_trans HZ.out hb1.size)
      clear hu hb1 HV
      go_wp2_with (at_builtin; refine stopHere ?_)
      refine goHere ?_
      refine ap_one (K := cH) w1 ty_nds3 rfl _ _ rfl (B := w.heap.size) (v := .slice Ao hs.length co) (xs := hs) rfl HO1.out (⟨Au, [((0 : Int), (j : Int))].length, cu⟩ : Hd) rfl rfl (by have := HL.out; omega) HZ1.out ?_
      intro v2 w2 ho2 hg2 hb2 hat2
      have HO2 := Lib.hid ho2
      have HB2 := Lib.hid (HB1.out.trans hb2)
      clear ho2 hg2 hb2 hat2
      go_wp2
      go_roundw
      case rel => exact ⟨j + 1, _, by omega, by go_num, HO2.out, by rw [List.length_append, HL.out]; rfl, HB2.out⟩
      case measure => simp [intOf]; omega
    · obtain rfl : j = 6 := by omega
      obtain ⟨G, hG, hG2, hG3⟩ := ho.head (by omega)
      subst hG
      rw [hlen] at ho ⊢
      have HO6 := Lib.hid ho
      clear ho hb hlen
      go_wp2
      go_ret
      exact ⟨G, _, hs, rfl, HO6.out, HL.out, HB.out⟩
end Go.Proofs.YtcikenffeekkeaaGreatDoor
