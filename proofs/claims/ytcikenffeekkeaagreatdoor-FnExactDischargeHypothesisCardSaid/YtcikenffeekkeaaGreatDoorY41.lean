/- Joined of several texts. -/
import Derived.Test.YtcikenffeekkeaaGreatDoorY32
import Derived.Test.YtcikenffeekkeaaGreatDoorY40
import Derived.Test.YtcikenffeekkeaaGreatDoorY29
namespace Go.Proofs.YtcikenffeekkeaaGreatDoor
/- Plain law of Hilbert proofs: on which hypotheses the lines depend, in the reference's order. No program in sight. -/
open Go.RowKit
set_option linter.unusedVariables false
set_option linter.unusedSimpArgs false
/-- one more, if it is new -/
def ad1 (a : List Int) (y : Int) : List Int := if y ∈ a then a else a ++ [y]
def uni (xs ys : List Int) : List Int := ys.foldl ad1 xs
theorem uni_take (xs ys : List Int) (j : Nat) (h : j < ys.length) : uni xs (ys.take (j + 1)) = ad1 (uni xs (ys.take j)) (ys[j]'h) := by
  unfold uni
  rw [List.take_succ_eq_append_getElem h, List.foldl_append]
  rfl
theorem uni_prop : ∀ (ys xs : List Int), xs.Nodup → (uni xs ys).Nodup ∧ ∀ x, x ∈ uni xs ys ↔ x ∈ xs ∨ x ∈ ys
  | [], xs, h => ⟨h, fun x => by simp [uni]⟩
  | y :: ys, xs, h => by
    have h1 : (ad1 xs y).Nodup ∧ ∀ x, x ∈ ad1 xs y ↔ x ∈ xs ∨ x = y := by
      unfold ad1
      split
      · rename_i hy
        exact ⟨h, fun x => ⟨.inl, fun e => e.elim id fun e => e ▸ hy⟩⟩
      · rename_i hy
        refine ⟨List.nodup_append.2 ⟨h, by simp, fun a ha b hb => ?_⟩, fun x => by simp⟩
        rw [List.mem_singleton.1 hb]
        rintro rfl
        exact hy ha
    obtain ⟨a, b⟩ := uni_prop ys (ad1 xs y) h1.1
    refine ⟨a, fun x => ?_⟩
    show x ∈ uni (ad1 xs y) ys ↔ _
    rw [b, h1.2, List.mem_cons, or_assoc]
theorem uni_len : ∀ (ys xs : List Int), (uni xs ys).length ≤ xs.length + ys.length
  | [], xs => Nat.le_refl _
  | y :: ys, xs => by
    have h := uni_len ys (ad1 xs y)
    have h2 : (ad1 xs y).length ≤ xs.length + 1 := by unfold ad1; split <;> simp
    show (uni (ad1 xs y) ys).length ≤ _
    simp only [List.length_cons]
    omega
/-- on which hypotheses a line depends -/
def dp1 (uss : List (List Int)) (l : Ln) : List Int := if l.r = 2 then [l.f] else if l.r = 3 then uni (uss.getD l.f.toNat []) (uss.getD l.s.toNat []) else if l.r = 4 then uss.getD l.f.toNat [] else []
def dps (ls : List Ln) : List (List Int) := ls.foldl (fun uss l => uss ++ [dp1 uss l]) []
theorem dps_succ (ls : List Ln) (k : Nat) (h : k < ls.length) : dps (ls.take (k + 1)) = dps (ls.take k) ++ [dp1 (dps (ls.take k)) ls[k]] := by
  unfold dps
  rw [List.take_succ_eq_append_getElem h, List.foldl_append]
  rfl
theorem getD_snoc {α : Type} (l : List α) (x d : α) (i : Nat) : (l ++ [x]).getD i d = if i < l.length then l.getD i d else if i = l.length then x else d := by
  rw [List.getD_eq_getElem?_getD]
  by_cases h : i < l.length
  · rw [if_pos h, List.getElem?_append_left h, ← List.getD_eq_getElem?_getD]
  · rw [if_neg h, List.getElem?_append_right (by omega)]
    by_cases e : i = l.length
    · rw [if_pos e, e, Nat.sub_self]; rfl
    · rw [if_neg e, List.getElem?_eq_none (by simp; omega)]; rfl
theorem dps_inv (ls : List Ln) : ∀ k, k ≤ ls.length → (dps (ls.take k)).length = k ∧ ∀ i, ((dps (ls.take k)).getD i []).Nodup ∧ ∀ x, x ∈ (dps (ls.take k)).getD i [] ↔ x ∈ (ussA (ls.take k)).getD i []
  | 0, _ => ⟨rfl, fun i => by rw [List.take_zero]; exact ⟨by simp [dps], fun x => by simp [dps, ussA]⟩⟩
  | k + 1, hk => by
    obtain ⟨h1, h2⟩ := dps_inv ls k (by omega)
    have hlt : k < ls.length := by omega
    have hu := (ussA_inv ls k (by omega)).1
    rw [dps_succ ls k hlt, ussA_succ ls k hlt]
    refine ⟨by rw [List.length_append, h1]; rfl, fun i => ?_⟩
    rw [getD_snoc, getD_snoc, h1, hu]
    by_cases hi : i < k
    · rw [if_pos hi, if_pos hi]
      exact h2 i
    · rw [if_neg hi, if_neg hi]
      by_cases hik : i = k
      · rw [if_pos hik, if_pos hik]
        obtain ⟨-, a2⟩ := usn_asc (usr (ussA (ls.take k)) ls[k])
        refine ⟨?_, fun x => ?_⟩
        · unfold dp1
          split
          · simp
          · split
            · exact (uni_prop _ _ (h2 _).1).1
            · split
              · exact (h2 _).1
              · exact List.nodup_nil
        · rw [a2]
          unfold dp1 usr
          split
          · exact Iff.rfl
          · split
            · rw [(uni_prop _ _ (h2 _).1).2, List.mem_append, (h2 _).2, (h2 _).2]
            · split
              · exact (h2 _).2 x
              · exact Iff.rfl
      · rw [if_neg hik, if_neg hik]
        exact ⟨List.nodup_nil, fun x => Iff.rfl⟩
theorem dps_len (ls : List Ln) (k : Nat) (hk : k ≤ ls.length) (i : Nat) : ((dps (ls.take k)).getD i []).length ≤ k := by
  obtain ⟨h1, h2⟩ := (dps_inv ls k hk).2 i
  have := nodup_subI _ _ h1 (fun x hx => ((ussA_inv ls k hk).2 i).2.1 x ((h2 x).1 hx))
  rw [List.length_map, List.length_take] at this
  omega
theorem dps_em (ls : List Ln) (k : Nat) (hk : k ≤ ls.length) (i : Nat) : ((dps (ls.take k)).getD i []).isEmpty = !((flgs (ls.take k)).getD i false) := by
  obtain ⟨h1, h2⟩ := (dps_inv ls k hk).2 i
  rw [← ((ussA_inv ls k hk).2 i).2.2, Bool.eq_iff_iff, List.isEmpty_iff, List.isEmpty_iff]
  constructor
  · intro h; exact List.eq_nil_iff_forall_not_mem.2 fun x hx => by have := (h2 x).2 hx; rw [h] at this; cases this
  · intro h; exact List.eq_nil_iff_forall_not_mem.2 fun x hx => by have := (h2 x).1 hx; rw [h] at this; cases this
/- Contracts of the reference: instances of schemes, and on which hypotheses lines depend. Written by genS3F.py. -/
open Go.RowKit
set_option linter.unusedVariables false
set_option linter.unusedSimpArgs false
theorem spec_l13Instance (k : Nat) (hk : k < 19) (g : Fm) (v : Value) (w : World) (h : Sl cN w v (enc g)) (hl : (enc g).length ≤ 1000) :
    Calls Tryz.prog 74 #[.int .i64 (k : Int), v] w fun e w' => e = .returned (.bool (inst (schF k) g)) ∧ Below w.heap.size w w' := by
  obtain ⟨A, c, rfl⟩ := h.opn
  obtain ⟨q1, q2⟩ := schF_ok k
  have HS := Lib.hid (spec_l13Scheme k hk q1 q2 w)
  have HM := Lib.hid (fun W u (h1 : Sl cN W u (enc (schF k))) (h2 : Sl cN W (.slice A (enc g).length c) (enc g)) => spec_l03Match (schF k) g u _ W h1 h2 q1 (by omega) hl)
  have H := Lib.hid h
  clear h
  generalize inst (schF k) g = b at *
  go_enter Tryz.func74, Tryz.ntmps74
  go_wp2_with fail
  refine HS.out.mono ?_
  rintro e w1 ⟨u, rfl, hu, hb⟩
  have HM1 := Lib.hid (HM.out w1 u hu (H.out.below hb))
  have HB := Lib.hid hb
  clear hu hb HM HS
  go_wp2_with fail
  refine HM1.out.mono ?_
  rintro e w2 ⟨r, rfl, hb⟩
  have HB2 := Lib.hid (HB.out.trans (hb.mono HB.out.size))
  clear hb HM1
  go_wp2
  go_ret
  exact ⟨rfl, HB2.out⟩
theorem ty_int64ss : Ty Tryz.prog 67 54 (.slice none 0 0) 1 24 := Ty.mk' Tryz.underlying67 (by kernel_rfl) rfl (by decide)
theorem dps_at (ls : List Ln) (k : Nat) (hk : k ≤ ls.length) {i : Nat} (hi : i < k) : ∃ h : i < (dps (ls.take k)).length, (dps (ls.take k))[i] = (dps (ls.take k)).getD i [] := by
  have h1 := (dps_inv ls k hk).1
  exact ⟨by omega, by rw [List.getD_eq_getElem?_getD, List.getElem?_eq_getElem (by omega)]; rfl⟩
set_option maxRecDepth 100000 in
set_option maxHeartbeats 4000000 in
theorem spec_l13Depends (v : Value) (ls : List Ln) (w : World) (h : SlL w v ls) (hl : ls.length ≤ 200) (hp : ∀ k (hk : k < ls.length), ∀ x ∈ prmL ls[k], ∃ i : Nat, x = i ∧ i < k) :
    Calls Tryz.prog 33 #[v] w fun e w' => ∃ u, e = .returned u ∧ UsO w.heap.size w' u (dps ls) ∧ Below w.heap.size w w' := by
  obtain ⟨AL, cL, rfl⟩ := h.opn
  have H := Lib.hid h
  have HPR := Lib.hid hp
  have HO0 : Hid (UsO w.heap.size (w.alloc (.cells #[] 54)) (.slice (some ⟨w.heap.size, 0, none⟩) 0 0) []) := Lib.hid ⟨[], Ow.lit (K := cH) (e := 54) (B := w.heap.size) (cs := #[]) (n := 0) [] rfl rfl (Nat.le_refl _), rfl, fun i p => by simp at p⟩
  have HB0 := Lib.hid (below_alloc' w (.cells #[] 54))
  clear h hp
  go_enter Tryz.func33, Tryz.ntmps33
  go_wp2
  go_loopw [3, 4] (fun o i wr => ∃ k : Nat, k ≤ ls.length ∧ i = .int .i64 k ∧ UsO w.heap.size wr o (dps (ls.take k)) ∧ Below w.heap.size w wr) (fun _ i _ => ls.length - (intOf i).toNat)
  case atStart => exact ⟨0, Nat.zero_le _, rfl, HO0.out, HB0.out⟩
  case round =>
    clear HO0 HB0
    obtain ⟨k, hk, rfl, ho, hb⟩ := hrel
    obtain ⟨Ao, co, rfl⟩ := ho.opn
    have HO := Lib.hid ho
    have HB := Lib.hid hb
    have HZr : Hid (w.heap.size ≤ wr.heap.size) := Lib.hid hb.size
    clear ho hb
    by_cases hlt : k < ls.length
    · obtain ⟨bL, oL, Ax, cx, rfl, hbL, l0, l1, l2, -, -⟩ := (H.out.below HB.out).at_ hlt
      have hpl := HPR.out k hlt
      obtain ⟨l, hle⟩ : ∃ l, ls[k] = l := ⟨_, rfl⟩
      have HLE := Lib.hid hle
      rw [hle] at l0 l1 l2 hpl
      clear hle
      obtain ⟨r, f, s, xs⟩ := l
      simp only at l0 l1 l2
      have hba := below_alloc' wr (.cells #[] 2)
      have l0 := (hba.cell (p := ⟨bL, oL + k * 4, none⟩) hbL).trans l0
      have l1 := (hba.cell (p := ⟨bL, oL + k * 4 + 1, none⟩) hbL).trans l1
      have l2 := (hba.cell (p := ⟨bL, oL + k * 4 + 2, none⟩) hbL).trans l2
      have lL : bL < (wr.alloc (.cells #[] 2)).heap.size := Nat.lt_of_lt_of_le hbL hba.size
      have HBA := Lib.hid hba
      clear hba
      by_cases h2 : r = 2
      · subst h2
        have HDP : Hid (dp1 (dps (ls.take k)) ls[k] = [f]) := Lib.hid (by rw [HLE.out]; unfold dp1; rw [if_pos rfl])
        go_upto_region 8 with fail
        obtain ⟨wa, hwa⟩ : ∃ W, W = wr.alloc (.cells #[] 2) := ⟨_, rfl⟩
        rw [← hwa] at HBA l0 l1 l2 lL ⊢
        clear hwa
        go_upto_region 19 with fail
        clear l0 l1 l2 lL hbL
        have HL5 : Hid (Ow cI 2 wr.heap.size (wa.alloc (.cells #[.int .i64 f] 2)) (.slice (some ⟨wa.heap.size, 0, none⟩) 1 1) [f]) := Lib.hid (Ow.lit (K := cI) (e := 2) (B := wr.heap.size) (cs := #[.int .i64 f]) (n := 1) [f] rfl rfl HBA.out.size)
        have HBl := Lib.hid (HBA.out.trans ((below_alloc' wa (.cells #[.int .i64 f] 2)).mono HBA.out.size))
        obtain ⟨w5, hw5⟩ : ∃ W, W = wa.alloc (.cells #[.int .i64 f] 2) := ⟨_, rfl⟩
        rw [← hw5] at HL5 HBl ⊢
        obtain ⟨A5, hA5⟩ : ∃ A : Option Addr, A = some ⟨wa.heap.size, 0, none⟩ := ⟨_, rfl⟩
        rw [← hA5] at HL5 ⊢
        obtain ⟨n5, hn5⟩ : ∃ n : Nat, n = 1 := ⟨_, rfl⟩
        obtain ⟨c5, hc5⟩ : ∃ n : Nat, n = 1 := ⟨_, rfl⟩
        have HL5 : Hid (Ow cI 2 wr.heap.size w5 (.slice A5 n5 c5) [f]) := Lib.hid (by rw [hn5, hc5]; exact HL5.out)
        subst hn5 hc5
        clear hw5 hA5
        have hE := Lib.hid (UsO.push HO.out HZr.out HBl.out HL5.out)
        obtain ⟨hs, hoH, hlen, hK⟩ := hE.out
        have HOH := Lib.hid hoH
        have HLN := Lib.hid hlen
        have HK := Lib.hid hK
        clear hE hoH hlen hK
        have HDL := Lib.hid (dps_inv ls k (by omega)).1
        go_wp2_with (at_builtin; refine stopHere ?_)
        refine goHere ?_
        refine ap_one (K := cH) w5 ty_int64ss rfl _ _ rfl (B := w.heap.size) (v := .slice Ao (dps (ls.take k)).length co) (xs := hs) (by rw [← HLN.out]; rfl) HOH.out (⟨A5, 1, 1⟩ : Hd) rfl rfl (by rw [HLN.out, HDL.out]; omega) (Nat.le_trans HZr.out HBl.out.size) ?_
        intro v9 w9 ho9 hg9 hb9 hat9
        have HR := Lib.hid (HK.out w9 v9 _ (World.grownBy_alloc w5 _ none) (by simp) ho9 hg9 (by simpa using hat9))
        have HB9 := Lib.hid ((HB.out.trans (HBl.out.mono HZr.out)).trans hb9)
        clear ho9 hg9 hb9 hat9
        go_wp2
        go_roundw
        case rel => exact ⟨k + 1, by omega, by go_num, by rw [dps_succ ls k hlt, HDP.out]; exact HR.out, HB9.out⟩
        case measure => simp [intOf]; omega
      · have q2 : (r == 2) = false := by simpa using h2
        by_cases h3 : r = 3
        · subst h3
          obtain ⟨i1, rfl, hi1⟩ := hpl f (by unfold prmL; rw [if_pos rfl]; simp)
          obtain ⟨i2, rfl, hi2⟩ := hpl s (by unfold prmL; rw [if_pos rfl]; simp)
          have HDP : Hid (dp1 (dps (ls.take k)) ls[k] = uni ((dps (ls.take k)).getD i1 []) ((dps (ls.take k)).getD i2 [])) := Lib.hid (by rw [HLE.out]; unfold dp1; rw [if_neg (by simp), if_pos rfl]; rfl)
          obtain ⟨d1, e1⟩ := dps_at ls k hk hi1
          obtain ⟨d2, e2⟩ := dps_at ls k hk hi2
          obtain ⟨b1, o1, A1, c1, rfl, hb1, u1, hs1⟩ := HO.out.at_ d1
          obtain ⟨b2, o2, A2, c2, eo, hb2, u2, hs2⟩ := HO.out.at_ d2
          injection eo with eo
          injection eo with eo1 eo2
          subst eo1 eo2
          rw [e1] at u1 hs1
          rw [e2] at u2 hs2
          have hn1 := dps_len ls k hk i1
          have hn2 := dps_len ls k hk i2
          generalize (dps (ls.take k)).getD i1 [] = xs1 at *
          generalize (dps (ls.take k)).getD i2 [] = xs2 at *
          clear e1 e2 hb2
          have u1 := (HBA.out.cell (p := ⟨b1, o1 + i1, none⟩) hb1).trans u1
          have u2 := (HBA.out.cell (p := ⟨b1, o1 + i2, none⟩) hb1).trans u2
          have hb1 := Nat.lt_of_lt_of_le hb1 HBA.out.size
          go_upto_region 10 with fail
          obtain ⟨wa, hwa⟩ : ∃ W, W = wr.alloc (.cells #[] 2) := ⟨_, rfl⟩
          rw [← hwa] at HBA l0 l1 l2 lL u1 u2 hb1 ⊢
          clear hwa
          have HOW := Lib.hid (spec_l01Own _ xs1 wa (hs1.below HBA.out) (by omega))
          have HS2 := Lib.hid hs2
          clear hs1 hs2
          go_wp2_with fail
          refine HOW.out.mono ?_
          rintro e w4 ⟨u4, rfl, ho4, hb4⟩
          have l0 := (hb4.cell (p := ⟨bL, oL + k * 4, none⟩) lL).trans l0
          have l2 := (hb4.cell (p := ⟨bL, oL + k * 4 + 2, none⟩) lL).trans l2
          have lL := Nat.lt_of_lt_of_le lL hb4.size
          have u2 := (hb4.cell (p := ⟨b1, o1 + i2, none⟩) hb1).trans u2
          have hb1 := Nat.lt_of_lt_of_le hb1 hb4.size
          have HL4 := Lib.hid (ho4.mono HBA.out.size)
          have HB4 := Lib.hid (HBA.out.trans (hb4.mono HBA.out.size))
          clear ho4 hb4 HOW u1 l1
          go_upto_region 12 with fail
          clear l0 l2 lL u2 hb1
          have HST : Hid (Ow cI 2 wr.heap.size w4 u4 (uni xs1 (xs2.take 0))) := Lib.hid (by rw [List.take_zero]; exact HL4.out)
          have HUL : Hid (∀ j, (uni xs1 (xs2.take j)).length ≤ 400) := Lib.hid fun j => by have := uni_len (xs2.take j) xs1; rw [List.length_take] at this; omega
          go_wp2
          obtain ⟨wo, hwo⟩ : ∃ W, W = wr := ⟨_, rfl⟩
          subst hwo
          go_loopw [5, 7] (fun o i wq => ∃ j : Nat, j ≤ xs2.length ∧ i = .int .i64 j ∧ Ow cI 2 wo.heap.size wq o (uni xs1 (xs2.take j)) ∧ Below wo.heap.size wo wq) (fun _ i _ => xs2.length - (intOf i).toNat)
          case atStart => exact ⟨0, Nat.zero_le _, rfl, HST.out, HB4.out⟩
          case round =>
            clear HST
            obtain ⟨j, hj, rfl, hoq, hbq0⟩ := hrel
            obtain ⟨A6, c6, rfl⟩ := hoq.opn
            have HOQ := Lib.hid hoq
            have HBQ0 := Lib.hid hbq0
            have HZq := Lib.hid hbq0.size
            have HSq := Lib.hid (HS2.out.below hbq0)
            clear hoq hbq0
            by_cases hj2 : j < xs2.length
            · obtain ⟨b3, o3, rfl, hb3, m0⟩ := HSq.out.atI hj2
              obtain ⟨y, hy⟩ : ∃ y, xs2[j] = y := ⟨_, rfl⟩
              have HAD : Hid (uni xs1 (xs2.take (j + 1)) = ad1 (uni xs1 (xs2.take j)) y) := Lib.hid (by rw [uni_take xs1 xs2 j hj2, hy])
              have HQL : Hid ((uni xs1 (xs2.take j)).length ≤ 400) := Lib.hid (HUL.out j)
              rw [hy] at m0
              clear hy
              generalize uni xs1 (xs2.take j) = q at *
              have HHS := Lib.hid (spec_l01Has _ q y wr HOQ.out.sl (by have := HQL.out; omega))
              go_wp2_with fail
              refine HHS.out.mono ?_
              rintro e w7 ⟨rfl, rfl⟩
              by_cases hm : y ∈ q
              · rw [decide_eq_true hm]
                have HE : Hid (ad1 q y = q) := Lib.hid (if_pos hm)
                clear HHS hm
                go_wp2
                go_roundw
                case rel => exact ⟨j + 1, by omega, by go_num, by rw [HAD.out, HE.out]; exact HOQ.out, HBQ0.out⟩
                case measure => simp [intOf]; omega
              · rw [decide_eq_false hm]
                have HE : Hid (ad1 q y = q ++ [y]) := Lib.hid (if_neg hm)
                clear HHS hm
                go_wp2_with (at_builtin; refine stopHere ?_)
                refine goHere ?_
                refine ap_one (K := cI) wr ty_int64 rfl _ _ rfl (B := wo.heap.size) (v := .slice A6 q.length c6) (xs := q) rfl HOQ.out y rfl rfl (by have := HQL.out; omega) HZq.out ?_
                intro v8 w8 ho8 hg8 hb8 hat8
                rw [← HE.out] at ho8
                have HO8 := Lib.hid ho8
                have HB8 := Lib.hid (HBQ0.out.trans hb8)
                clear ho8 hg8 hb8 hat8
                go_wp2
                go_roundw
                case rel => exact ⟨j + 1, by omega, by go_num, by rw [HAD.out]; exact HO8.out, HB8.out⟩
                case measure => simp [intOf]; omega
            · obtain rfl : j = xs2.length := by omega
              rw [List.take_length] at HOQ ⊢
              generalize uni xs1 xs2 = q at *
              have HL5 := HOQ
              have HBl := HBQ0
              clear HUL HS2 HL4 HB4 HSq
              go_upto_region 19 with fail
              have hE := Lib.hid (UsO.push HO.out HZr.out HBl.out HL5.out)
              obtain ⟨hs, hoH, hlen, hK⟩ := hE.out
              have HOH := Lib.hid hoH
              have HLN := Lib.hid hlen
              have HK := Lib.hid hK
              clear hE hoH hlen hK
              have HDL := Lib.hid (dps_inv ls k (by omega)).1
              go_wp2_with (at_builtin; refine stopHere ?_)
              refine goHere ?_
              refine ap_one (K := cH) wr ty_int64ss rfl _ _ rfl (B := w.heap.size) (v := .slice (some ⟨b1, o1, none⟩) (dps (ls.take k)).length co) (xs := hs) (by rw [← HLN.out]; rfl) HOH.out (⟨A6, q.length, c6⟩ : Hd) rfl rfl (by rw [HLN.out, HDL.out]; omega) (Nat.le_trans HZr.out HBl.out.size) ?_
              intro v9 w9 ho9 hg9 hb9 hat9
              have HR := Lib.hid (HK.out w9 v9 _ (World.grownBy_alloc wr _ none) (by simp) ho9 hg9 (by simpa using hat9))
              have HB9 := Lib.hid ((HB.out.trans (HBl.out.mono HZr.out)).trans hb9)
              clear ho9 hg9 hb9 hat9
              go_wp2
              go_roundw
              case rel => exact ⟨k + 1, by omega, by go_num, by rw [dps_succ ls k hlt, HDP.out]; exact HR.out, HB9.out⟩
              case measure => simp [intOf]; omega
        · have q3 : (r == 3) = false := by simpa using h3
          by_cases h4 : r = 4
          · subst h4
            obtain ⟨i1, rfl, hi1⟩ := hpl f (by unfold prmL; rw [if_neg h3, if_pos rfl]; simp)
            have HDP : Hid (dp1 (dps (ls.take k)) ls[k] = (dps (ls.take k)).getD i1 []) := Lib.hid (by rw [HLE.out]; unfold dp1; rw [if_neg (by simp), if_neg (by simp), if_pos rfl]; rfl)
            obtain ⟨d1, e1⟩ := dps_at ls k hk hi1
            obtain ⟨b1, o1, A1, c1, rfl, hb1, u1, hs1⟩ := HO.out.at_ d1
            rw [e1] at u1 hs1
            have hn1 := dps_len ls k hk i1
            generalize (dps (ls.take k)).getD i1 [] = xs1 at *
            clear e1
            have u1 := (HBA.out.cell (p := ⟨b1, o1 + i1, none⟩) hb1).trans u1
            have hb1 := Nat.lt_of_lt_of_le hb1 HBA.out.size
            go_upto_region 18 with fail
            obtain ⟨wa, hwa⟩ : ∃ W, W = wr.alloc (.cells #[] 2) := ⟨_, rfl⟩
            rw [← hwa] at HBA l0 l1 l2 lL u1 hb1 ⊢
            clear hwa
            have HOW := Lib.hid (spec_l01Own _ xs1 wa (hs1.below HBA.out) (by omega))
            clear hs1
            go_wp2_with fail
            refine HOW.out.mono ?_
            rintro e w4 ⟨u4, rfl, ho4, hb4⟩
            obtain ⟨A5, c5, rfl⟩ := ho4.opn
            have HL5 := Lib.hid (ho4.mono HBA.out.size)
            have HBl := Lib.hid (HBA.out.trans (hb4.mono HBA.out.size))
            clear ho4 hb4 HOW u1 l0 l1 l2 lL hb1
            go_upto_region 19 with fail
            have hE := Lib.hid (UsO.push HO.out HZr.out HBl.out HL5.out)
            obtain ⟨hs, hoH, hlen, hK⟩ := hE.out
            have HOH := Lib.hid hoH
            have HLN := Lib.hid hlen
            have HK := Lib.hid hK
            clear hE hoH hlen hK
            have HDL := Lib.hid (dps_inv ls k (by omega)).1
            go_wp2_with (at_builtin; refine stopHere ?_)
            refine goHere ?_
            refine ap_one (K := cH) w4 ty_int64ss rfl _ _ rfl (B := w.heap.size) (v := .slice (some ⟨b1, o1, none⟩) (dps (ls.take k)).length co) (xs := hs) (by rw [← HLN.out]; rfl) HOH.out (⟨A5, xs1.length, c5⟩ : Hd) rfl rfl (by rw [HLN.out, HDL.out]; omega) (Nat.le_trans HZr.out HBl.out.size) ?_
            intro v9 w9 ho9 hg9 hb9 hat9
            have HR := Lib.hid (HK.out w9 v9 _ (World.grownBy_alloc w4 _ none) (by simp) ho9 hg9 (by simpa using hat9))
            have HB9 := Lib.hid ((HB.out.trans (HBl.out.mono HZr.out)).trans hb9)
            clear ho9 hg9 hb9 hat9
            go_wp2
            go_roundw
            case rel => exact ⟨k + 1, by omega, by go_num, by rw [dps_succ ls k hlt, HDP.out]; exact HR.out, HB9.out⟩
            case measure => simp [intOf]; omega
          · have q4 : (r == 4) = false := by simpa using h4
            have HDP : Hid (dp1 (dps (ls.take k)) ls[k] = []) := Lib.hid (by rw [HLE.out]; unfold dp1; rw [if_neg h2, if_neg h3, if_neg h4])
            have HL5 : Hid (Ow cI 2 wr.heap.size (wr.alloc (.cells #[] 2)) (.slice (some ⟨wr.heap.size, 0, none⟩) 0 0) []) := Lib.hid (Ow.lit (K := cI) (e := 2) (B := wr.heap.size) (cs := #[]) (n := 0) [] rfl rfl (Nat.le_refl _))
            go_upto_region 19 with fail
            obtain ⟨wa, hwa⟩ : ∃ W, W = wr.alloc (.cells #[] 2) := ⟨_, rfl⟩
            rw [← hwa] at HBA HL5 ⊢
            have HBl := HBA
            clear hwa l0 l1 l2 lL hbL
            have hE := Lib.hid (UsO.push HO.out HZr.out HBl.out HL5.out)
            obtain ⟨hs, hoH, hlen, hK⟩ := hE.out
            have HOH := Lib.hid hoH
            have HLN := Lib.hid hlen
            have HK := Lib.hid hK
            clear hE hoH hlen hK
            have HDL := Lib.hid (dps_inv ls k (by omega)).1
            go_wp2_with (at_builtin; refine stopHere ?_)
            refine goHere ?_
            refine ap_one (K := cH) wa ty_int64ss rfl _ _ rfl (B := w.heap.size) (v := .slice Ao (dps (ls.take k)).length co) (xs := hs) (by rw [← HLN.out]; rfl) HOH.out (⟨some ⟨wr.heap.size, 0, none⟩, 0, 0⟩ : Hd) rfl rfl (by rw [HLN.out, HDL.out]; omega) (Nat.le_trans HZr.out HBl.out.size) ?_
            intro v9 w9 ho9 hg9 hb9 hat9
            have HR := Lib.hid (HK.out w9 v9 _ (World.grownBy_alloc wa _ none) (by simp) ho9 hg9 (by simpa using hat9))
            have HB9 := Lib.hid ((HB.out.trans (HBl.out.mono HZr.out)).trans hb9)
            clear ho9 hg9 hb9 hat9
            go_wp2
            go_roundw
            case rel => exact ⟨k + 1, by omega, by go_num, by rw [dps_succ ls k hlt, HDP.out]; exact HR.out, HB9.out⟩
            case measure => simp [intOf]; omega
    · obtain rfl : k = ls.length := by omega
      have HDE : Hid (ls.take ls.length = ls) := Lib.hid (List.take_length ..)
      have HO2 : Hid (UsO w.heap.size wr (.slice Ao (dps (ls.take ls.length)).length co) (dps ls)) := Lib.hid (by have := HO.out; rw [HDE.out] at this ⊢; exact this)
      go_wp2
      go_ret
      exact ⟨_, rfl, HO2.out, HB.out⟩
end Go.Proofs.YtcikenffeekkeaaGreatDoor
