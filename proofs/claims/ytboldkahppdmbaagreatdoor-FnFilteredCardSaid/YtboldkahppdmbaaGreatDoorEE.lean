/- Joined of several texts: 14f, 14h, 14i. -/
import Derived.Test.YtboldkahppdmbaaGreatDoor14n
import Derived.Test.YtboldkahppdmbaaGreatDoorQU
namespace Go.Proofs.YtboldkahppdmbaaGreatDoor
open Go.RowKit
set_option linter.unusedVariables false
set_option linter.unusedSimpArgs false
/- Contracts of chapter 14, of the program: a filter's frame. -/
/-- a filter that reads as that of a model and a formula -/
structure Fil (w : World) (F : Nat) (ns us : List Nat) (f : Fm) (A0 A1 A : Option Addr) (c0 c1 cc : Nat) (sf bx dm : Value) : Prop where
  bl : Blk w F 56 #[.int .i64 ns.length, .slice A0 ns.length c0, .slice A1 6 c1, sf, .slice A ns.length cc, bx, dm]
  md : Mdl w (.slice A0 ns.length c0) (.slice A1 6 c1) ns us
  cl : Sl cI w (.slice A ns.length cc) (li (acl ns us f))
  ob : Sl cN w bx (lp (ofk true (mds ns us f (enc f).length)))
  od : Sl cN w dm (lp (ofk false (mds ns us f (enc f).length)))
theorem Fil.below {w w' : World} {F : Nat} {ns us : List Nat} {f : Fm} {A0 A1 A : Option Addr} {c0 c1 cc : Nat} {sf bx dm : Value} (h : Fil w F ns us f A0 A1 A c0 c1 cc sf bx dm) (hb : Below w.heap.size w w') : Fil w' F ns us f A0 A1 A c0 c1 cc sf bx dm :=
  ⟨h.bl.below hb h.bl.lt, h.md.below hb, h.cl.below hb, h.ob.below hb, h.od.below hb⟩
set_option maxHeartbeats 2000000 in
set_option maxRecDepth 100000 in
theorem impl_frame (ns us : List Nat) (f : Fm) (F : Nat) (A0 A1 A : Option Addr) (c0 c1 cc : Nat) (sf bx dm : Value) (k : FuncId) (pre cap : Array Value) (p : Nat → Nat → Bool) (w : World) (h : Fil w F ns us f A0 A1 A c0 c1 cc sf bx dm) (h8 : ns.length ≤ 8)
    (hk : ∀ (args : Array Value) (w : World), (callFunc k args).run Tryz.prog w = .ok (.enter k args) w)
    (hf : ∀ w', Below w.heap.size w w' → ∀ (x y : Nat), x < ns.length → y < ns.length → Calls Tryz.prog k (pre ++ (#[.int .i64 x, .int .i64 y] ++ cap)) w' fun e w'' => e = .returned (.bool (p x y)) ∧ Below w'.heap.size w' w'') :
    Calls Tryz.prog 101 #[.pointer (some ⟨F, 0, none⟩), .func (.func k) pre cap] w
      fun e w' => ∃ B d, e = .returned (.agg #[.int .i64 (acn ns us f : Nat), .slice B (acn ns us f) d]) ∧ Ow cI 2 w.heap.size w' (.slice B (acn ns us f) d) (li (frm ns us f p)) ∧ Below w.heap.size w w' := by
  have HX : Hid (∀ W, Below w.heap.size w W → Blk W F 56 #[.int .i64 ns.length, .slice A0 ns.length c0, .slice A1 6 c1, sf, .slice A ns.length cc, bx, dm] ∧ Sl cI W (.slice A ns.length cc) (li (acl ns us f))) := Lib.hid (fun W hW => ⟨(h.below hW).bl, (h.below hW).cl⟩)
  have HFN := Lib.hid hf
  have hFl := h.bl.lt
  have LA := Lib.hid (show (li (acl ns us f)).length = ns.length by rw [li_length, acl_length])
  have hb1 := below_alloc' w (.cells #[.int .i64 0, .slice none 0 0] 26)
  have hk1 := Blk.new w 26 #[.int .i64 0, .slice none 0 0]
  have HB := Lib.hid hb1
  have HR := Lib.hid hk1
  have hlt := acl_lt ns us f
  have hn8 : acn ns us f ≤ 8 := Nat.le_trans (acn_le ns us f) h8
  have HC8 : Hid (∀ i, (acl ns us f).getD i 0 < 256) := Lib.hid (fun i => by
    rcases Nat.lt_or_ge i (acl ns us f).length with hi | hi
    · have := hlt _ (getD_mem hi); omega
    · rw [List.getD_eq_getElem?_getD, List.getElem?_eq_none hi]; decide)
  have HCN : Hid (∀ j : Nat, j < ns.length → (acl ns us f).getD j 0 < acn ns us f) := Lib.hid (fun j hj => hlt _ (getD_mem (by rw [acl_length]; exact hj)))
  have HMX := Lib.hid (acn_mx ns us f)
  have HCC : Hid (∀ W, Sl cI W (.slice A ns.length cc) (li (acl ns us f)) → Calls Tryz.prog 124 #[.slice A ns.length cc] W fun e w' => e = .returned (.int .i64 (acn ns us f : Nat)) ∧ W = w') := Lib.hid (fun W hW => by
    have := impl_classCount _ (acl ns us f) W hW (by rw [acl_length]; omega) HC8.out
    rwa [HMX.out] at this)
  have HQL := Lib.hid (fun j => qrl_length (acl ns us f) (lnk ns.length ns.length p) (acn ns us f) j)
  have HFR := Lib.hid (show frm ns us f p = qrl (acl ns us f) (lnk ns.length ns.length p) (acn ns us f) ns.length from rfl)
  have HS : Hid (∀ j, qrl (acl ns us f) (lnk ns.length ns.length p) (acn ns us f) (j + 1) = qst (qrl (acl ns us f) (lnk ns.length ns.length p) (acn ns us f) j) ((acl ns us f).getD j 0) (imgTo (pw (acl ns us f)) ((lnk ns.length ns.length p).getD j 0) ns.length)) := Lib.hid (fun j => by rw [qrl, img, pw_length, acl_length])
  have HST : Hid (∀ x y : Nat, x < ns.length → y < ns.length → imgTo (pw (acl ns us f)) ((lnk ns.length ns.length p).getD x 0) (y + 1) = if p x y then imgTo (pw (acl ns us f)) ((lnk ns.length ns.length p).getD x 0) y ||| 2 ^ (acl ns us f).getD y 0 else imgTo (pw (acl ns us f)) ((lnk ns.length ns.length p).getD x 0) y) := Lib.hid (fun x y hx hy => by
    rw [imgTo_pw_step _ (by rw [acl_length]; exact hy), lnk_getD _ hx, msk_testBit, decide_eq_true hy, Bool.true_and])
  have HIB : Hid (∀ m y, imgTo (pw (acl ns us f)) m y < 2 ^ 8) := Lib.hid (fun m y => imgTo_lt (pw_lt (fun c hc => by have := hlt c hc; omega)) m y)
  have HQB : Hid (∀ j, ∀ x ∈ qrl (acl ns us f) (lnk ns.length ns.length p) (acn ns us f) j, x < 2 ^ 8) := Lib.hid (fun j => by
    induction j with
    | zero => intro x hx; rw [qrl] at hx; rw [List.eq_of_mem_replicate hx]; decide
    | succ j ih => exact qst_lt ih _ (imgTo_lt (pw_lt (fun c hc => by have := hlt c hc; omega)) _ _))
  have HQ0 : Hid (List.replicate (acn ns us f) (0 : Int) = li (qrl (acl ns us f) (lnk ns.length ns.length p) (acn ns us f) 0)) := Lib.hid (by rw [qrl]; unfold li; rw [List.map_replicate]; rfl)
  rw [HFR.out]
  clear h hf hb1 hk1 hlt HFR
  generalize acl ns us f = cl at *
  generalize acn ns us f = N at *
  generalize lnk ns.length ns.length p = ls at *
  go_enter Tryz.func101, Tryz.ntmps101
  go_upto_region 1 with fail
  generalize World.alloc w _ = W at *
  have h0 := HX.out _ HB.out
  have HW := Lib.hid h0.2
  have HX1 : Hid (∀ V, Below W.heap.size W V → Blk V F 56 #[.int .i64 ns.length, .slice A0 ns.length c0, .slice A1 6 c1, sf, .slice A ns.length cc, bx, dm] ∧ Sl cI V (.slice A ns.length cc) (li cl)) := Lib.hid (fun V hV => HX.out V (HB.out.trans (hV.mono HB.out.size)))
  have kF := h0.1.cell
  have lF := h0.1.lt
  clear h0
  go_wp2_with fail
  refine (HCC.out _ HW.out).mono ?_
  rintro e w1 ⟨rfl, rfl⟩
  go_wp2_with (at_make; refine stopHere ?_)
  refine goHere ?_
  refine mk_full (K := cI) W ty_int64 rfl _ _ rfl W.heap.size N 0 rfl rfl rfl (by omega) (Nat.le_refl _) ?_
  intro w1 ho hg hb hz
  rw [HQ0.out] at ho
  have HO := Lib.hid ho
  have HB1 := Lib.hid hb
  have h1 := HX1.out _ hb
  have k1 := h1.1.cell
  have l1 := h1.1.lt
  clear ho hb hg hz kF lF h1
  go_wp2
  go_loopw [20] (fun i wr => ∃ x : Nat, x ≤ ns.length ∧ i = .int .i64 x ∧ Ow cI 2 W.heap.size wr (.slice (some ⟨W.heap.size, 0, none⟩) N N) (li (qrl cl ls N x)) ∧ Below W.heap.size W wr) (fun i _ => ns.length - (intOf i).toNat)
  case atStart => exact ⟨0, Nat.zero_le _, rfl, HO.out, HB1.out⟩
  case round =>
    obtain ⟨x, hx, rfl, ho, hb⟩ := hrel
    clear HO HB1 k1 l1
    have HO := Lib.hid ho
    have HBx := Lib.hid hb
    have h2 := HX1.out _ hb
    have k2 := h2.1.cell
    have l2 := h2.1.lt
    clear ho hb h2
    by_cases hxn : x < ns.length
    · go_wp2
      clear k2 l2
      go_loopw [29] (fun i wr => ∃ y : Nat, y ≤ ns.length ∧ i = .int .i64 y ∧ Ow cI 2 W.heap.size wr (.slice (some ⟨W.heap.size, 0, none⟩) N N) (li (qst (qrl cl ls N x) (cl.getD x 0) (imgTo (pw cl) (ls.getD x 0) y))) ∧ Below W.heap.size W wr) (fun i _ => ns.length - (intOf i).toNat)
      case atStart => exact ⟨0, Nat.zero_le _, rfl, by rw [imgTo, qst_zero]; exact HO.out, HBx.out⟩
      case round =>
        obtain ⟨y, hy, rfl, ho, hb⟩ := hrel
        clear HO HBx
        have HO := Lib.hid ho
        have HBy := Lib.hid hb
        clear ho hb
        by_cases hyn : y < ns.length
        · go_wp2_with fail
          refine (HFN.out _ (HB.out.trans (HBy.out.mono HB.out.size)) x y hxn hyn).mono ?_
          rintro e w3 ⟨rfl, hb⟩
          have ho := HO.out.below hb
          have hb3 : Below W.heap.size W w3 := HBy.out.trans (hb.mono HBy.out.size)
          have h3 := HX1.out _ hb3
          have HB3 := Lib.hid hb3
          have HO3 := Lib.hid ho
          have HSt := Lib.hid (HST.out x y hxn hyn)
          clear hb hb3 ho HO HBy
          cases hp : p x y
          · rw [hp, if_neg (by decide)] at HSt
            clear hp h3
            go_wp2
            go_roundw
            case rel => exact ⟨y + 1, by omega, by go_num, by rw [HSt.out]; exact HO3.out, HB3.out⟩
            case measure => simp [intOf]; omega
          · rw [hp, if_pos rfl] at HSt
            have kF := h3.1.cell
            have lF := h3.1.lt
            obtain ⟨b2, o2, hA2, hbl2, hd0⟩ := (show Sl cI w3 (.slice A (li cl).length cc) (li cl) by rw [LA.out]; exact h3.2).atI (k := x) (by rw [LA.out]; exact hxn)
            obtain ⟨b3, o3, hA3, hbl3, hd1⟩ := (show Sl cI w3 (.slice A (li cl).length cc) (li cl) by rw [LA.out]; exact h3.2).atI (k := y) (by rw [LA.out]; exact hyn)
            subst hA2
            injection hA3 with hA3
            injection hA3 with hA3 hA4
            subst hA3
            subst hA4
            rw [li_get] at hd0 hd1
            have hc8 := HCN.out x hxn
            have hd8 := HCN.out y hyn
            have hgc := HQL.out x
            have hrl : (li (qst (qrl cl ls N x) (cl.getD x 0) (imgTo (pw cl) (ls.getD x 0) y))).length = N := by rw [li_length, qst_length]; exact HQL.out x
            have hq := getD_lt (qst_lt (HQB.out x) (cl.getD x 0) (HIB.out (ls.getD x 0) y)) (cl.getD x 0)
            have HQQ : Hid (qst (qrl cl ls N x) (cl.getD x 0) (imgTo (pw cl) (ls.getD x 0) y ||| 2 ^ cl.getD y 0) = qst (qst (qrl cl ls N x) (cl.getD x 0) (imgTo (pw cl) (ls.getD x 0) y)) (cl.getD x 0) (2 ^ cl.getD y 0)) := Lib.hid (qst_qst _ _ _ _ (by rw [hgc]; exact hc8)).symm
            obtain ⟨c, hcc⟩ : ∃ c, cl.getD x 0 = c := ⟨_, rfl⟩
            obtain ⟨d, hdd⟩ : ∃ d, cl.getD y 0 = d := ⟨_, rfl⟩
            rw [hcc] at hd0 hc8 hrl hq HQQ HO3
            rw [hdd] at hd1 hd8 HSt HQQ
            have HCc := Lib.hid hcc
            obtain ⟨t, htt⟩ : ∃ t, imgTo (pw cl) (ls.getD x 0) y = t := ⟨_, rfl⟩
            rw [htt] at HSt HQQ hrl hq HO3
            obtain ⟨r, hrr⟩ : ∃ r, qst (qrl cl ls N x) c t = r := ⟨_, rfl⟩
            rw [hrr] at hrl hq HO3 HQQ
            have HRL := Lib.hid hrl
            clear hcc hdd htt hrr h3 hgc hrl
            obtain ⟨z, hzz⟩ : ∃ z, r.getD c 0 = z := ⟨_, rfl⟩
            have hod := HO3.out.below (Below.refl _ _).drew
            obtain ⟨k1, -, -, -⟩ := HO3.out.at1 rfl (j := c) (by rw [HRL.out]; exact hc8) rfl
            obtain ⟨k4, f4, -, l4⟩ := hod.at1 rfl (j := c) (by rw [HRL.out]; exact hc8) rfl
            rw [li_get, hzz] at k1 k4
            rw [hzz] at hq
            have HQ2 : Hid (qst (qrl cl ls N x) c (imgTo (pw cl) (ls.getD x 0) (y + 1)) = r.set c (z ||| 2 ^ d)) := Lib.hid (by rw [HSt.out, HQQ.out, qst, hzz])
            have hset := Lib.hid (hod.set1 (j := c) (x := ((z ||| 2 ^ d : Nat) : Int)) (u := .int .i64 (z ||| 2 ^ d : Nat)) rfl rfl (by rw [HRL.out]; exact hc8))
            rw [li_set, ← HQ2.out] at hset
            have hbs := Lib.hid (HB3.out.drew.setCell (p := ⟨W.heap.size, c, none⟩) (Nat.le_refl _) (.int .i64 (z ||| 2 ^ d : Nat)))
            have e2 := i64_or_nat z (2 ^ d) (by omega) (two_pow_lt (by omega))
            have e3 := wrap_two_pow'' (n := d) (by omega)
            rw [← cast_two_pow] at e2
            have i1 : (c : Int) < (N : Int) := by omega
            have i2 : (x : Int) < (ns.length : Int) := by omega
            have i3 : (y : Int) < (ns.length : Int) := by omega
            clear hp hzz hod
            go_wp2
            go_still_tail 20, (by kernel_rfl)
            change wpList _ _ _ _ _ (World.drew _)
            clear k1
            generalize World.drew _ = w4 at *
            go_wp2
            go_roundw
            case rel => exact ⟨y + 1, by omega, by go_num, by rw [HCc.out]; exact hset.out, hbs.out⟩
            case measure => simp [intOf]; omega
        · obtain rfl : y = ns.length := by omega
          rw [← HS.out] at HO
          go_wp2
          go_roundw
          case rel => exact ⟨x + 1, by omega, by go_num, HO.out, HBy.out⟩
          case measure => simp [intOf]; omega
    · obtain rfl : x = ns.length := by omega
      have HFO := Lib.hid (impl_frameOf (.slice (some ⟨W.heap.size, 0, none⟩) N N) (li (qrl cl ls N ns.length)) wr HO.out.sl)
      have HL9 := Lib.hid (show (li (qrl cl ls N ns.length)).length = N by rw [li_length]; exact HQL.out _)
      rw [HL9.out] at HFO
      clear k2 l2
      go_wp2_with fail
      refine HFO.out.mono ?_
      rintro e w5 ⟨rfl, hb⟩
      have hr5 := (HR.out.below HBx.out HR.out.lt).below hb (Nat.lt_of_lt_of_le HR.out.lt HBx.out.size)
      have rc := hr5.cell
      have rf := hr5.frozen
      have rl := hr5.lt
      have hWw : w.heap.size < W.heap.size := HR.out.lt
      have Z1 := Lib.hid (HO.out.below hb)
      have Z2 := Lib.hid (bthen HB.out (HBx.out.trans (hb.mono HBx.out.size)))
      have Z3 := Lib.hid hWw
      clear hb hr5
      go_wp2
      refine bodyPost_ret (v := .agg #[.int .i64 N, .slice (some ⟨W.heap.size, 0, none⟩) N N]) (by simp [results, Tryz.results101, go_sem, rc, rf, rl]) rfl ⟨_, _, rfl, ?_, ?_⟩
      · exact ((Z1.out.setBelow hWw _).setBelow hWw _).mono (Nat.le_of_lt Z3.out)
      · exact (Z2.out.setCell (Nat.le_refl _) _).setCell (Nat.le_refl _) _
/- Contracts of chapter 14, of the program: allows, keeps, sees, least, greatest. -/
theorem lp_mem {L : List (Nat × Nat)} {a b : Int} (h : (a, b) ∈ lp L) : ∃ c d : Nat, a = c ∧ b = d ∧ (c, d) ∈ L := by
  unfold lp at h
  rw [List.mem_map] at h
  obtain ⟨e, he, h2⟩ := h
  injection h2 with h2 h3
  exact ⟨e.1, e.2, h2.symm, h3.symm, he⟩
theorem lp_any (L : List (Nat × Nat)) (p : Nat × Nat → Bool) : (lp L).any (fun e => p (e.1.toNat, e.2.toNat)) = L.any p := by
  unfold lp
  rw [List.any_map]
  congr 1
theorem slices_IndexFunc_prs (v : Value) (xs : List Nd) (k : FuncId) (cap : Array Value) (p : Nd → Bool) (w : World) (h : Sl cN w v xs) (hl : xs.length ≤ 1073741824)
    (hk : ∀ (args : Array Value) (w : World), (callFunc k args).run Tryz.prog w = .ok (.enter k args) w)
    (hf : ∀ w', Below w.heap.size w w' → ∀ (a b : Int), (a, b) ∈ xs → Calls Tryz.prog k (#[.agg #[.int .i64 a, .int .i64 b]] ++ cap) w' fun e w'' => e = .returned (.bool (p (a, b))) ∧ Below w'.heap.size w' w'') :
    Calls Tryz.prog 157 #[v, .func (.func k) #[] cap] w fun e w' => ∃ r : Int, e = .returned (.int .i64 r) ∧ (decide (0 ≤ r) = xs.any p) ∧ Below w.heap.size w w' := by
  obtain ⟨A, c, rfl⟩ := h.opn
  have HF := Lib.hid hf; clear hf
  go_enter Tryz.func157, Tryz.ntmps157
  go_wp2
  go_loopw [8] (fun i wr => ∃ j : Nat, j ≤ xs.length ∧ i = .int .i64 j ∧ (xs.take j).any p = false ∧ Below w.heap.size w wr) (fun i _ => xs.length - (intOf i).toNat)
  case atStart => exact ⟨0, Nat.zero_le _, rfl, rfl, Below.refl _ _⟩
  case round =>
    obtain ⟨j, hj, rfl, hh, hb⟩ := hrel
    have Hh := Lib.hid hh; clear hh
    by_cases hlt : j < xs.length
    · obtain ⟨b, o, rfl, hbl, hc0, hc1⟩ := (h.below hb).atN hlt
      go_wp2_with fail
      refine (HF.out wr hb xs[j].1 xs[j].2 (List.getElem_mem hlt)).mono ?_
      rintro e w1 ⟨rfl, hb1⟩
      have HB : Hid (Below w.heap.size w w1) := Lib.hid (hb.trans (hb1.mono hb.size))
      have HT : Hid ((xs.take (j + 1)).any p = p (xs[j].1, xs[j].2)) := by
        show _ = _
        rw [List.take_succ_eq_append_getElem hlt, List.any_append, Hh.out]
        simp
      have HM : xs[j] ∈ xs := List.getElem_mem hlt
      have HA : Hid (p (xs[j].1, xs[j].2) = true → xs.any p = true) := fun h1 => List.any_eq_true.2 ⟨_, HM, h1⟩
      clear hb1 hb HM
      by_cases hp : p (xs[j].1, xs[j].2) = true
      · rw [hp]
        have HP := Lib.hid hp; clear hp
        go_wp2
        go_ret
        exact ⟨j, rfl, by rw [HA.out HP.out]; simp, HB.out⟩
      · rw [Bool.not_eq_true] at hp
        rw [hp]
        have HP := Lib.hid hp; clear hp
        go_wp2
        go_roundw
        case rel => exact ⟨j + 1, by omega, by go_num, by rw [HT.out, HP.out], HB.out⟩
        case measure => simp [intOf]; omega
    · have HE : Hid (xs.any p = false) := by
        have := Hh.out
        rw [List.take_of_length_le (by omega)] at this
        exact this
      have HB := Lib.hid hb; clear hb
      go_wp2
      go_ret
      exact ⟨-1, rfl, by rw [HE.out]; decide, HB.out⟩
theorem slices_ContainsFunc_prs (v : Value) (xs : List Nd) (k : FuncId) (cap : Array Value) (p : Nd → Bool) (w : World) (h : Sl cN w v xs) (hl : xs.length ≤ 1073741824)
    (hk : ∀ (args : Array Value) (w : World), (callFunc k args).run Tryz.prog w = .ok (.enter k args) w)
    (hf : ∀ w', Below w.heap.size w w' → ∀ (a b : Int), (a, b) ∈ xs → Calls Tryz.prog k (#[.agg #[.int .i64 a, .int .i64 b]] ++ cap) w' fun e w'' => e = .returned (.bool (p (a, b))) ∧ Below w'.heap.size w' w'') :
    Calls Tryz.prog 125 #[v, .func (.func k) #[] cap] w fun e w' => e = .returned (.bool (xs.any p)) ∧ Below w.heap.size w w' := by
  have HC := Lib.hid (slices_IndexFunc_prs v xs k cap p w h hl hk hf); clear hf hk
  go_enter Tryz.func125, Tryz.ntmps125
  go_wp2_with fail
  refine HC.out.mono ?_
  rintro e w1 ⟨r, rfl, hr, hb⟩
  have HR := Lib.hid hr; clear hr
  have HB := Lib.hid hb; clear hb
  go_wp2
  go_ret
  exact ⟨by rw [← HR.out]; rfl, HB.out⟩
theorem en_allows_1 : ∀ (args : Array Value) (w : World), (callFunc 126 args).run Tryz.prog w = .ok (.enter 126 args) w := enters Tryz.func126 (by kernel_rfl) (by kernel_rfl)
theorem impl_allows_1 (a b x y Bx By : Nat) (w : World) (hx : w.cell? ⟨Bx, 0, none⟩ = some (.int .i64 x)) (hy : w.cell? ⟨By, 0, none⟩ = some (.int .i64 y)) (lx : Bx < w.heap.size) (ly : By < w.heap.size) (ha : a < 256) (hb : b < 256) (hx8 : x ≤ 8) (hy8 : y ≤ 8) :
    Calls Tryz.prog 126 #[.agg #[.int .i64 a, .int .i64 b], .pointer (some ⟨Bx, 0, none⟩), .pointer (some ⟨By, 0, none⟩)] w fun e w' => e = .returned (.bool (a.testBit x && !b.testBit y)) ∧ Below w.heap.size w w' := by
  have hb0 := below_alloc' w (.cells #[.int .i64 a, .int .i64 b] 90)
  have HK := Lib.hid (Blk.new w 90 #[.int .i64 a, .int .i64 b])
  have HB := Lib.hid hb0
  have hx' := (hb0.cell (p := ⟨Bx, 0, none⟩) lx).trans hx
  have hy' := (hb0.cell (p := ⟨By, 0, none⟩) ly).trans hy
  clear hb0 hx hy
  go_enter Tryz.func126, Tryz.ntmps126
  go_upto_region 1 with fail
  generalize World.alloc w _ = W at *
  have k0 := HK.out.cell
  have l0 := HK.out.lt
  go_wp2_with fail
  refine (impl_has a x _ (by omega) (by omega)).mono ?_
  rintro e w1 ⟨rfl, rfl⟩
  cases h1 : a.testBit x
  · go_wp2
    go_ret
    exact ⟨by rw [h1]; rfl, HB.out⟩
  · go_wp2_with fail
    refine (impl_has b y _ (by omega) (by omega)).mono ?_
    rintro e w1 ⟨rfl, rfl⟩
    cases h2 : b.testBit y
    all_goals
      go_wp2
      go_ret
      exact ⟨by rw [h1, h2]; rfl, HB.out⟩
theorem en_allows_2 : ∀ (args : Array Value) (w : World), (callFunc 127 args).run Tryz.prog w = .ok (.enter 127 args) w := enters Tryz.func127 (by kernel_rfl) (by kernel_rfl)
theorem impl_allows_2 (a b x y Bx By : Nat) (w : World) (hx : w.cell? ⟨Bx, 0, none⟩ = some (.int .i64 x)) (hy : w.cell? ⟨By, 0, none⟩ = some (.int .i64 y)) (lx : Bx < w.heap.size) (ly : By < w.heap.size) (ha : a < 256) (hb : b < 256) (hx8 : x ≤ 8) (hy8 : y ≤ 8) :
    Calls Tryz.prog 127 #[.agg #[.int .i64 a, .int .i64 b], .pointer (some ⟨Bx, 0, none⟩), .pointer (some ⟨By, 0, none⟩)] w fun e w' => e = .returned (.bool (b.testBit x && !a.testBit y)) ∧ Below w.heap.size w w' := by
  have hb0 := below_alloc' w (.cells #[.int .i64 a, .int .i64 b] 90)
  have HK := Lib.hid (Blk.new w 90 #[.int .i64 a, .int .i64 b])
  have HB := Lib.hid hb0
  have hx' := (hb0.cell (p := ⟨Bx, 0, none⟩) lx).trans hx
  have hy' := (hb0.cell (p := ⟨By, 0, none⟩) ly).trans hy
  clear hb0 hx hy
  go_enter Tryz.func127, Tryz.ntmps127
  go_upto_region 1 with fail
  generalize World.alloc w _ = W at *
  have k0 := HK.out.cell
  have l0 := HK.out.lt
  go_wp2_with fail
  refine (impl_has b x _ (by omega) (by omega)).mono ?_
  rintro e w1 ⟨rfl, rfl⟩
  cases h1 : b.testBit x
  · go_wp2
    go_ret
    exact ⟨by rw [h1]; rfl, HB.out⟩
  · go_wp2_with fail
    refine (impl_has a y _ (by omega) (by omega)).mono ?_
    rintro e w1 ⟨rfl, rfl⟩
    cases h2 : a.testBit y
    all_goals
      go_wp2
      go_ret
      exact ⟨by rw [h1, h2]; rfl, HB.out⟩
set_option maxHeartbeats 1000000 in
theorem impl_allows (ns us : List Nat) (f : Fm) (F : Nat) (A0 A1 A : Option Addr) (c0 c1 cc : Nat) (sf bx dm : Value) (x y : Nat) (w : World) (h : Fil w F ns us f A0 A1 A c0 c1 cc sf bx dm) (h1 : MdN ns us) (hl : (enc f).length ≤ 1000) (hx : x ≤ 8) (hy : y ≤ 8) :
    Calls Tryz.prog 103 #[.pointer (some ⟨F, 0, none⟩), .int .i64 x, .int .i64 y] w fun e w' => e = .returned (.bool (alw (mds ns us f (enc f).length) x y)) ∧ Below w.heap.size w w' := by
  have hb0 := below_alloc' w (.cells #[.int .i64 x] 2)
  have hk0 := Blk.new w 2 #[.int .i64 x]
  have hb1 := below_alloc' (w.alloc (.cells #[.int .i64 x] 2)) (.cells #[.int .i64 y] 2)
  have hk1 : Blk _ (w.heap.size + 1) _ _ := Blk.new' (w.alloc (.cells #[.int .i64 x] 2)) 2 #[.int .i64 y] (by simp)
  have HB := Lib.hid (bthen hb0 hb1)
  have HK0 := Lib.hid (hk0.below hb1 hk0.lt)
  have HK1 := Lib.hid hk1
  have HF := Lib.hid h
  have HSB := Lib.hid h.ob.opn
  have HSD := Lib.hid h.od.opn
  have hml := mds_length ns us f (enc f).length
  have hlt : ∀ b, ∀ e ∈ ofk b (mds ns us f (enc f).length), e.1 < 256 ∧ e.2 < 256 := fun b e he => by
    obtain ⟨p, q⟩ := mds_lt ns us h1.b f _ (Nat.le_refl _) _ (ofk_mem he)
    have := two_pow_256 h1.r.1
    exact ⟨by simp only at p; omega, by simp only at q; omega⟩
  have HL := Lib.hid hlt
  have HC1 : Hid (∀ W, Below w.heap.size w W → Blk W w.heap.size 2 #[.int .i64 x] → Blk W (w.heap.size + 1) 2 #[.int .i64 y] → Calls Tryz.prog 125 #[bx, .func (.func 126) #[] #[.pointer (some ⟨w.heap.size, 0, none⟩), .pointer (some ⟨w.heap.size + 1, 0, none⟩)]] W
      fun e w' => e = .returned (.bool ((ofk true (mds ns us f (enc f).length)).any fun e => e.1.testBit x && !e.2.testBit y)) ∧ Below W.heap.size W w') := Lib.hid (fun W hW hb1 hb2 => by
    have := slices_ContainsFunc_prs bx _ 126 #[.pointer (some ⟨w.heap.size, 0, none⟩), .pointer (some ⟨w.heap.size + 1, 0, none⟩)] (fun e => (fun e : Nat × Nat => e.1.testBit x && !e.2.testBit y) (e.1.toNat, e.2.toNat)) W (HF.out.ob.below hW) (by rw [lp_length]; have := ofk_length true (mds ns us f (enc f).length); omega) en_allows_1 (fun w' hw' a b hab => by
      obtain ⟨c, d, rfl, rfl, hm⟩ := lp_mem hab
      obtain ⟨p, q⟩ := HL.out true _ hm
      have e1 := hb1.below hw' hb1.lt
      have e2 := hb2.below hw' hb2.lt
      exact impl_allows_1 c d x y _ _ w' (e1.cell 0) (e2.cell 0) e1.lt e2.lt p q hx hy)
    exact this.mono fun e w' ⟨he, hb⟩ => ⟨he.trans (congrArg (fun b => Ending.returned (.bool b)) (lp_any _ (fun e : Nat × Nat => e.1.testBit x && !e.2.testBit y))), hb⟩)
  have HC2 : Hid (∀ W, Below w.heap.size w W → Blk W w.heap.size 2 #[.int .i64 x] → Blk W (w.heap.size + 1) 2 #[.int .i64 y] → Calls Tryz.prog 125 #[dm, .func (.func 127) #[] #[.pointer (some ⟨w.heap.size + 1, 0, none⟩), .pointer (some ⟨w.heap.size, 0, none⟩)]] W
      fun e w' => e = .returned (.bool ((ofk false (mds ns us f (enc f).length)).any fun e => e.2.testBit y && !e.1.testBit x)) ∧ Below W.heap.size W w') := Lib.hid (fun W hW hb1 hb2 => by
    have := slices_ContainsFunc_prs dm _ 127 #[.pointer (some ⟨w.heap.size + 1, 0, none⟩), .pointer (some ⟨w.heap.size, 0, none⟩)] (fun e => (fun e : Nat × Nat => e.2.testBit y && !e.1.testBit x) (e.1.toNat, e.2.toNat)) W (HF.out.od.below hW) (by rw [lp_length]; have := ofk_length false (mds ns us f (enc f).length); omega) en_allows_2 (fun w' hw' a b hab => by
      obtain ⟨c, d, rfl, rfl, hm⟩ := lp_mem hab
      obtain ⟨p, q⟩ := HL.out false _ hm
      have e1 := hb1.below hw' hb1.lt
      have e2 := hb2.below hw' hb2.lt
      exact impl_allows_2 c d y x _ _ w' (e2.cell 0) (e1.cell 0) e2.lt e1.lt p q hy hx)
    exact this.mono fun e w' ⟨he, hb⟩ => ⟨he.trans (congrArg (fun b => Ending.returned (.bool b)) (lp_any _ (fun e : Nat × Nat => e.2.testBit y && !e.1.testBit x))), hb⟩)
  have HKF := Lib.hid ((h.bl.below hb0 h.bl.lt).below hb1 (Nat.lt_of_lt_of_le h.bl.lt hb0.size))
  have HOUT : Hid (alw (mds ns us f (enc f).length) x y = (!((ofk true (mds ns us f (enc f).length)).any fun e => e.1.testBit x && !e.2.testBit y) && !((ofk false (mds ns us f (enc f).length)).any fun e => e.2.testBit y && !e.1.testBit x))) := Lib.hid rfl
  rw [HOUT.out]
  clear hb0 hb1 hk0 hk1 h hlt HL HF HOUT hml
  generalize (ofk true (mds ns us f (enc f).length)).any _ = r1 at *
  generalize (ofk false (mds ns us f (enc f).length)).any _ = r2 at *
  generalize hLb : (lp (ofk true (mds ns us f (enc f).length))).length = lb at *
  generalize hLd : (lp (ofk false (mds ns us f (enc f).length))).length = ld at *
  clear hLb hLd
  obtain ⟨Ab, cb, rfl⟩ := HSB.out
  obtain ⟨Ad, cd, rfl⟩ := HSD.out
  go_enter Tryz.func103, Tryz.ntmps103
  go_upto_region 1 with fail
  generalize World.alloc (w.alloc _) _ = W at *
  have kF := HKF.out.cell
  have lF := HKF.out.lt
  go_wp2_with fail
  refine (HC1.out _ HB.out HK0.out HK1.out).mono ?_
  rintro e w1 ⟨rfl, hb⟩
  have HB1 := Lib.hid (bthen HB.out hb)
  have HK2 := Lib.hid (HK0.out.below hb HK0.out.lt)
  have HK3 := Lib.hid (HK1.out.below hb HK1.out.lt)
  have hkf := HKF.out.below hb lF
  have kF1 := hkf.cell
  have lF1 := hkf.lt
  clear hb hkf kF lF
  cases r1
  · go_wp2_with fail
    refine (HC2.out _ HB1.out HK2.out HK3.out).mono ?_
    rintro e w2 ⟨rfl, hb⟩
    have HB2 := Lib.hid (bthen HB1.out hb)
    clear hb kF1 lF1
    go_wp2
    go_ret
    exact ⟨rfl, HB2.out⟩
  · go_wp2
    go_ret
    exact ⟨rfl, HB1.out⟩
/- Contracts of chapter 14, of the program: sees, least, greatest. -/
/-- what the program's greatest filtration holds -/
def gre (ns us : List Nat) (f : Fm) : List Nat := frm ns us f (alw (mds ns us f (enc f).length))
theorem gre_grt (ns us : List Nat) (f : Fm) : gre ns us f = grt ns us f (may (mds ns us f (enc f).length) false) := by
  unfold gre
  rw [show alw (mds ns us f (enc f).length) = may (mds ns us f (enc f).length) false from funext fun w => funext fun v => alw_may _ w v]
  exact frm_grt ns us f _ fun w w' v v' h1 h2 => may_key ns us f false h1 h2
theorem frm_length (ns us : List Nat) (f : Fm) (p : Nat → Nat → Bool) : (frm ns us f p).length = acn ns us f := qrl_length _ _ _ _
theorem lst_length (ns us : List Nat) (f : Fm) : (lst ns us f).length = acn ns us f := qrl_length _ _ _ _
theorem gre_length (ns us : List Nat) (f : Fm) : (gre ns us f).length = acn ns us f := qrl_length _ _ _ _
theorem frm_lt (ns us : List Nat) (f : Fm) (p : Nat → Nat → Bool) : ∀ x ∈ frm ns us f p, x < 2 ^ acn ns us f := qrl_lt _ (acl_lt ns us f) _
theorem lst_lt (ns us : List Nat) (f : Fm) : ∀ x ∈ lst ns us f, x < 2 ^ acn ns us f := qrl_lt _ (acl_lt ns us f) _
theorem gre_lt (ns us : List Nat) (f : Fm) : ∀ x ∈ gre ns us f, x < 2 ^ acn ns us f := qrl_lt _ (acl_lt ns us f) _
theorem en_sees : ∀ (args : Array Value) (w : World), (callFunc 102 args).run Tryz.prog w = .ok (.enter 102 args) w := enters Tryz.func102 (by kernel_rfl) (by kernel_rfl)
theorem en_allows : ∀ (args : Array Value) (w : World), (callFunc 103 args).run Tryz.prog w = .ok (.enter 103 args) w := enters Tryz.func103 (by kernel_rfl) (by kernel_rfl)
theorem impl_sees (ns : List Nat) (A0 : Option Addr) (c0 : Nat) (x y : Nat) (w : World) (h : Sl cI w (.slice A0 ns.length c0) (li ns)) (hr : RelN ns) (hx : x < ns.length) (hy : y ≤ 8) :
    Calls Tryz.prog 102 #[.agg #[.int .i64 ns.length, .slice A0 ns.length c0], .int .i64 x, .int .i64 y] w fun e w' => e = .returned (.bool ((ns.getD x 0).testBit y)) ∧ Below w.heap.size w w' := by
  have hb0 := below_alloc' w (.cells #[.int .i64 ns.length, .slice A0 ns.length c0] 26)
  have HK := Lib.hid (Blk.new w 26 #[.int .i64 ns.length, .slice A0 ns.length c0])
  have HB := Lib.hid hb0
  have LN := Lib.hid (li_length ns)
  have h0 := h.below hb0
  have hm := Nat.lt_of_lt_of_le (getD_lt hr.2 x) (two_pow_256 hr.1)
  obtain ⟨b, o, rfl, hbl, hc0⟩ := (show Sl cI _ (.slice A0 (li ns).length c0) (li ns) by rw [LN.out]; exact h0).atI (k := x) (by rw [LN.out]; exact hx)
  rw [li_get] at hc0
  clear h h0 hb0
  obtain ⟨m, hmm⟩ : ∃ m, ns.getD x 0 = m := ⟨_, rfl⟩
  rw [hmm] at hc0 hm ⊢
  clear hmm
  go_enter Tryz.func102, Tryz.ntmps102
  go_upto_region 1 with fail
  generalize World.alloc w _ = W at *
  have k0 := HK.out.cell
  have l0 := HK.out.lt
  have i1 : (x : Int) < (ns.length : Int) := by omega
  go_wp2_with fail
  refine (impl_has m y _ (by omega) (by omega)).mono ?_
  rintro e w1 ⟨rfl, rfl⟩
  go_wp2
  go_ret
  exact ⟨rfl, HB.out⟩
set_option maxRecDepth 100000 in
theorem impl_least (ns us : List Nat) (f : Fm) (F : Nat) (A0 A1 A : Option Addr) (c0 c1 cc : Nat) (sf bx dm : Value) (w : World) (h : Fil w F ns us f A0 A1 A c0 c1 cc sf bx dm) (hr : RelN ns) :
    Calls Tryz.prog 61 #[.pointer (some ⟨F, 0, none⟩)] w fun e w' => ∃ B d, e = .returned (.agg #[.int .i64 (acn ns us f : Nat), .slice B (acn ns us f) d]) ∧ Ow cI 2 w.heap.size w' (.slice B (acn ns us f) d) (li (lst ns us f)) ∧ Below w.heap.size w w' := by
  have hb1 := below_alloc' w (.cells #[.int .i64 0, .slice none 0 0] 26)
  have HR := Lib.hid (Blk.new w 26 #[.int .i64 0, .slice none 0 0])
  have HB := Lib.hid hb1
  have hF := h.below hb1
  have HC := Lib.hid (impl_frame ns us f F A0 A1 A c0 c1 cc sf bx dm 102 #[.agg #[.int .i64 ns.length, .slice A0 ns.length c0]] #[] (fun x y => (ns.getD x 0).testBit y) _ hF hr.1 en_sees (fun w' hw' x y hx hy => impl_sees ns A0 c0 x y w' (hF.md.a.below hw') hr hx (by have := hr.1; omega)))
  rw [lst_frm ns us hr.2] at HC
  have kF := hF.bl.cell
  have lF := hF.bl.lt
  clear h hF hb1
  generalize acn ns us f = N at *
  generalize li (lst ns us f) = xs at *
  go_enter Tryz.func61, Tryz.ntmps61
  go_upto_region 1 with fail
  generalize World.alloc w _ = W at *
  go_wp2_with fail
  refine HC.out.mono ?_
  rintro e w1 ⟨B, d, rfl, ho, hb⟩
  have hr5 := HR.out.below hb HR.out.lt
  have rc := hr5.cell
  have rf := hr5.frozen
  have rl := hr5.lt
  have hWw : w.heap.size < W.heap.size := HR.out.lt
  have Z1 := Lib.hid ho
  have Z2 := Lib.hid (bthen HB.out hb)
  have Z3 := Lib.hid hWw
  clear hb hr5 ho kF lF
  go_wp2
  refine bodyPost_ret (v := .agg #[.int .i64 N, .slice B N d]) (by simp [results, Tryz.results61, go_sem, rc, rf, rl]) rfl ⟨_, _, rfl, ?_, ?_⟩
  · exact ((Z1.out.setBelow hWw _).setBelow hWw _).mono (Nat.le_of_lt Z3.out)
  · exact (Z2.out.setCell (Nat.le_refl _) _).setCell (Nat.le_refl _) _
set_option maxRecDepth 100000 in
theorem impl_greatest (ns us : List Nat) (f : Fm) (F : Nat) (A0 A1 A : Option Addr) (c0 c1 cc : Nat) (sf bx dm : Value) (w : World) (h : Fil w F ns us f A0 A1 A c0 c1 cc sf bx dm) (h1 : MdN ns us) (hl : (enc f).length ≤ 1000) :
    Calls Tryz.prog 62 #[.pointer (some ⟨F, 0, none⟩)] w fun e w' => ∃ B d, e = .returned (.agg #[.int .i64 (acn ns us f : Nat), .slice B (acn ns us f) d]) ∧ Ow cI 2 w.heap.size w' (.slice B (acn ns us f) d) (li (gre ns us f)) ∧ Below w.heap.size w w' := by
  have hb1 := below_alloc' w (.cells #[.int .i64 0, .slice none 0 0] 26)
  have HR := Lib.hid (Blk.new w 26 #[.int .i64 0, .slice none 0 0])
  have HB := Lib.hid hb1
  have hF := h.below hb1
  have h8 := h1.r.1
  have HC := Lib.hid (impl_frame ns us f F A0 A1 A c0 c1 cc sf bx dm 103 #[.pointer (some ⟨F, 0, none⟩)] #[] (alw (mds ns us f (enc f).length)) _ hF h8 en_allows (fun w' hw' x y hx hy => impl_allows ns us f F A0 A1 A c0 c1 cc sf bx dm x y w' (hF.below hw') h1 hl (by omega) (by omega)))
  rw [show frm ns us f (alw (mds ns us f (enc f).length)) = gre ns us f from rfl] at HC
  clear h hF hb1
  generalize acn ns us f = N at *
  generalize li (gre ns us f) = xs at *
  go_enter Tryz.func62, Tryz.ntmps62
  go_upto_region 1 with fail
  generalize World.alloc w _ = W at *
  go_wp2_with fail
  refine HC.out.mono ?_
  rintro e w1 ⟨B, d, rfl, ho, hb⟩
  have hr5 := HR.out.below hb HR.out.lt
  have rc := hr5.cell
  have rf := hr5.frozen
  have rl := hr5.lt
  have hWw : w.heap.size < W.heap.size := HR.out.lt
  have Z1 := Lib.hid ho
  have Z2 := Lib.hid (bthen HB.out hb)
  have Z3 := Lib.hid hWw
  clear hb hr5 ho
  go_wp2
  refine bodyPost_ret (v := .agg #[.int .i64 N, .slice B N d]) (by simp [results, Tryz.results62, go_sem, rc, rf, rl]) rfl ⟨_, _, rfl, ?_, ?_⟩
  · exact ((Z1.out.setBelow hWw _).setBelow hWw _).mono (Nat.le_of_lt Z3.out)
  · exact (Z2.out.setCell (Nat.le_refl _) _).setCell (Nat.le_refl _) _
end Go.Proofs.YtboldkahppdmbaaGreatDoor
