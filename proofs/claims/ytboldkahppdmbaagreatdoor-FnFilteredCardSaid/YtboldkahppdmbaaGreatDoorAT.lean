/- Joined of several texts: 14t, 14v. -/
import Derived.Test.YtboldkahppdmbaaGreatDoorED
import Derived.Test.YtboldkahppdmbaaGreatDoorSB
import Derived.Test.YtboldkahppdmbaaGreatDoorSch
import Derived.Test.YtboldkahppdmbaaGreatDoor14u
import Derived.Test.YtboldkahppdmbaaGreatDoorEE
namespace Go.Proofs.YtboldkahppdmbaaGreatDoor
open Go.RowKit
set_option linter.unusedVariables false
set_option linter.unusedSimpArgs false
/- Contracts of chapter 14, of the reference: l14Greatest. Written by gen14t.py. -/
theorem lnk_suc (n k : Nat) (p : Nat → Nat → Bool) : li (lnk (n + 1) k p) = li (lnk n k p) ++ [((msk (p n) k : Nat) : Int)] := by
  unfold lnk li
  rw [List.range_succ, List.map_append, List.map_append]
  rfl
/-- the relation between the worlds i and j of a list that l14Greatest asks for -/
def gp (q : Nat → Nat → Bool) (both : Bool) (fs : List Nat) (i j : Nat) : Bool := q (fs.getD i 0) (fs.getD j 0) && (!both || q (fs.getD j 0) (fs.getD i 0))
set_option maxHeartbeats 2000000 in
set_option maxRecDepth 100000 in
theorem spec_l14Greatest (ns us fs : List Nat) (f : Fm) (n n2 : Nat) (A0 A1 A2 A3 : Option Addr) (c0 c1 c2 c3 : Nat) (Ab Ai Ao : Option Addr) (nb cb ni ci no co : Nat) (more both : Bool) (w : World)
    (h : SpR w ns us f A0 A1 c0 c1 (.slice A2 n2 c2) (.slice A3 n c3) (.slice Ab nb cb) (.slice Ai ni ci) (.slice Ao no co)) (h1 : MdN ns us) (hl : (enc f).length ≤ 1000) (hfs : afw ns us f = fs) (hfl : fs.length = n) (hn8 : n ≤ 8) (hf8 : ∀ i, fs.getD i 0 ≤ 8) :
    Calls Tryz.prog 50 #[.agg #[.int .i64 ns.length, .slice A0 ns.length c0, .slice A1 6 c1, .slice A2 n2 c2, .slice A3 n c3, .slice Ab nb cb, .slice Ai ni ci, .slice Ao no co], .bool more, .bool both] w
      fun e w' => ∃ u, e = .returned u ∧ Ow cI 2 w.heap.size w' u (li (lnk n n (gp (may (mds ns us f (enc f).length) more) both fs))) ∧ Below w.heap.size w w' := by
  have hb0 := below_alloc' w (.cells #[.int .i64 ns.length, .slice A0 ns.length c0, .slice A1 6 c1, .slice A2 n2 c2, .slice A3 n c3, .slice Ab nb cb, .slice Ai ni ci, .slice Ao no co] 59)
  have hk0 := Blk.new w 59 #[.int .i64 ns.length, .slice A0 ns.length c0, .slice A1 6 c1, .slice A2 n2 c2, .slice A3 n c3, .slice Ab nb cb, .slice Ai ni ci, .slice Ao no co]
  have HB := Lib.hid hb0
  have HK0 := Lib.hid hk0
  have HSP := Lib.hid h
  have HFS := Lib.hid (show Sl cI w (.slice A3 n c3) (li fs) by rw [← hfs]; exact h.fs)
  have HFL := Lib.hid (show (li fs).length = n by rw [li_length, hfl])
  have HF8 := Lib.hid hf8
  have HMY := Lib.hid (fun (W : World) (hW : Below w.heap.size w W) (x y : Nat) (hx : x ≤ 8) (hy : y ≤ 8) => spec_l14May ns us f A0 A1 c0 c1 _ _ _ _ _ x y more W (h.below hW) h1 hl hx hy)
  clear hb0 hk0 h h1 hfs hf8
  obtain ⟨q, hq⟩ : ∃ q, q = may (mds ns us f (enc f).length) more := ⟨_, rfl⟩
  rw [← hq]
  have EQ := Lib.hid hq
  rw [← hq] at HMY
  clear hq
  obtain ⟨p, hp⟩ : ∃ p, p = gp q both fs := ⟨_, rfl⟩
  rw [← hp]
  have EP := Lib.hid hp
  clear hp
  go_enter Tryz.func50, Tryz.ntmps50
  go_upto_region 1 with fail
  generalize World.alloc w _ = W at *
  go_wp2
  go_loopw [7, 8] (fun v i wr => ∃ j : Nat, j ≤ n ∧ i = .int .i64 j ∧ Ow cI 2 W.heap.size wr v (li (lnk j n p)) ∧ Below W.heap.size W wr) (fun _ i _ => n - (intOf i).toNat)
  case atStart => exact ⟨0, Nat.zero_le _, rfl, Ow.lit [] rfl rfl (Nat.le_refl _), (Below.refl _ _).alloc (Nat.le_refl _) _⟩
  case round =>
    obtain ⟨i, hi, rfl, ho, hb⟩ := hrel
    obtain ⟨Ap, cp, rfl⟩ := ho.opn
    have hLx : (li (lnk i n p)).length = i := by rw [li_length, lnk_length]
    rw [hLx] at ho ⊢
    clear hLx
    have hk2 := HK0.out.below hb HK0.out.lt
    have k2 := hk2.cell
    have l2 := hk2.lt
    have HO := Lib.hid ho
    have HBx := Lib.hid hb
    clear ho hb hk2
    by_cases hin : i < n
    · go_wp2
      clear k2 l2
      go_loopw [9, 10] (fun t iv wq => ∃ j : Nat, j ≤ n ∧ iv = .int .i64 j ∧ t = .int .i64 (msk (p i) j : Nat) ∧ Ow cI 2 W.heap.size wq (.slice Ap i cp) (li (lnk i n p)) ∧ Below W.heap.size W wq) (fun _ iv _ => n - (intOf iv).toNat)
      case atStart => exact ⟨0, Nat.zero_le _, rfl, rfl, HO.out, HBx.out⟩
      case round =>
        obtain ⟨j, hj, rfl, rfl, ho, hb⟩ := hrel
        clear HO HBx
        have HO := Lib.hid ho
        have HBy := Lib.hid hb
        have hk0 := HK0.out.below hb HK0.out.lt
        have k0 := hk0.cell
        have lp := hk0.lt
        clear ho hb hk0
        by_cases hjn : j < n
        · obtain ⟨bf, off, hA3, lf, g0⟩ := (show Sl cI wr (.slice A3 (li fs).length c3) (li fs) by rw [HFL.out]; exact HFS.out.below (bthen HB.out HBy.out)).atI (k := i) (by rw [HFL.out]; exact hin)
          obtain ⟨bf', off', hA3', lf', g1⟩ := (show Sl cI wr (.slice A3 (li fs).length c3) (li fs) by rw [HFL.out]; exact HFS.out.below (bthen HB.out HBy.out)).atI (k := j) (by rw [HFL.out]; exact hjn)
          subst hA3
          injection hA3' with hA3'
          injection hA3' with hA3' hA4'
          subst hA3'
          subst hA4'
          rw [li_get] at g0 g1
          have hfi := HF8.out i
          have hfj := HF8.out j
          have HP : Hid (p i j = (q (fs.getD i 0) (fs.getD j 0) && (!both || q (fs.getD j 0) (fs.getD i 0)))) := Lib.hid (by rw [EP.out]; rfl)
          obtain ⟨fi, hfi2⟩ : ∃ x, fs.getD i 0 = x := ⟨_, rfl⟩
          obtain ⟨fj, hfj2⟩ : ∃ x, fs.getD j 0 = x := ⟨_, rfl⟩
          rw [hfi2] at g0 hfi HP
          rw [hfj2] at g1 hfj HP
          have HF1 := Lib.hid (fun W' (hW : Below wr.heap.size wr W') => HMY.out W' (bthen HB.out (HBy.out.trans (hW.mono HBy.out.size))) fi fj hfi hfj)
          have HF2 := Lib.hid (fun W' (hW : Below wr.heap.size wr W') => HMY.out W' (bthen HB.out (HBy.out.trans (hW.mono HBy.out.size))) fj fi hfj hfi)
          have HS : Hid (msk (p i) (j + 1) = msk (p i) j ||| if p i j = true then 2 ^ j else 0) := Lib.hid rfl
          have hq := msk_bound (p i) hj hn8
          rw [HP.out] at HS
          clear hfi2 hfj2 HP lf'
          generalize q fi fj = e1 at *
          generalize q fj fi = e2 at *
          generalize msk (p i) j = q at *
          have d0 : wr.cell? ⟨w.heap.size, 0, none⟩ = some (.int .i64 (ns.length : Int)) := k0 0
          have d1 : wr.cell? ⟨w.heap.size, 1, none⟩ = some (.slice A0 ns.length c0) := k0 1
          have d2 : wr.cell? ⟨w.heap.size, 2, none⟩ = some (.slice A1 6 c1) := k0 2
          have d3 : wr.cell? ⟨w.heap.size, 3, none⟩ = some (.slice A2 n2 c2) := k0 3
          have d4 : wr.cell? ⟨w.heap.size, 4, none⟩ = some (.slice (some ⟨bf, off, none⟩) n c3) := k0 4
          have d5 : wr.cell? ⟨w.heap.size, 5, none⟩ = some (.slice Ab nb cb) := k0 5
          have d6 : wr.cell? ⟨w.heap.size, 6, none⟩ = some (.slice Ai ni ci) := k0 6
          have d7 : wr.cell? ⟨w.heap.size, 7, none⟩ = some (.slice Ao no co) := k0 7
          clear k0
          have i1 : (i : Int) < (n : Int) := by omega
          have i2 : (j : Int) < (n : Int) := by omega
          go_upto_region 9 with fail
          cases both
          · cases e1
            ·
              refine wp_region_sched (Below wr.heap.size wr) 32 [0, 1, 2, 3, 4, 5, 6, 7, 8, 9, 10, 11, 13, 14, 15, 16, 17, 18, 19, 20, 21, 22, 23, 24, 25, 26, 27, 28, 30, 31] (List.range 32) (by kernel_rfl) (by kernel_rfl) (Below.refl _ _).drew ?_
              simp only [show List.range 32 = [0, 1, 2, 3, 4, 5, 6, 7, 8, 9, 10, 11, 12, 13, 14, 15, 16, 17, 18, 19, 20, 21, 22, 23, 24, 25, 26, 27, 28, 29, 30, 31] from rfl]
              repeat
                apply wpSched_q rfl rfl
                case h =>
                  intro w' hI K hK
                  have d0' := (hI.cell (p := ⟨w.heap.size, 0, none⟩) lp).trans d0
                  have d1' := (hI.cell (p := ⟨w.heap.size, 1, none⟩) lp).trans d1
                  have d2' := (hI.cell (p := ⟨w.heap.size, 2, none⟩) lp).trans d2
                  have d3' := (hI.cell (p := ⟨w.heap.size, 3, none⟩) lp).trans d3
                  have d4' := (hI.cell (p := ⟨w.heap.size, 4, none⟩) lp).trans d4
                  have d5' := (hI.cell (p := ⟨w.heap.size, 5, none⟩) lp).trans d5
                  have d6' := (hI.cell (p := ⟨w.heap.size, 6, none⟩) lp).trans d6
                  have d7' := (hI.cell (p := ⟨w.heap.size, 7, none⟩) lp).trans d7
                  have g0' := (hI.cell (p := ⟨bf, off + i, none⟩) lf).trans g0
                  have g1' := (hI.cell (p := ⟨bf, off + j, none⟩) lf).trans g1
                  simp only [quietV, stillV]
                  go_simp
                  exact hK
                go_simp
              refine wpSched_r rfl rfl ?_ (Below.refl _ _).drew
              intro K hK _
              go_simp
              refine (HF1.out _ (Below.refl _ _).drew).mono ?_
              rintro e w2 ⟨rfl, hb⟩
              have hb3 : Below wr.heap.size wr w2 := (Below.refl _ _).drew.trans hb
              refine hK _ _ hb3 ?_
              clear hK K hb
              repeat
                apply wpSched_q rfl rfl
                case h =>
                  intro w' hI K hK
                  have d0' := (hI.cell (p := ⟨w.heap.size, 0, none⟩) lp).trans d0
                  have d1' := (hI.cell (p := ⟨w.heap.size, 1, none⟩) lp).trans d1
                  have d2' := (hI.cell (p := ⟨w.heap.size, 2, none⟩) lp).trans d2
                  have d3' := (hI.cell (p := ⟨w.heap.size, 3, none⟩) lp).trans d3
                  have d4' := (hI.cell (p := ⟨w.heap.size, 4, none⟩) lp).trans d4
                  have d5' := (hI.cell (p := ⟨w.heap.size, 5, none⟩) lp).trans d5
                  have d6' := (hI.cell (p := ⟨w.heap.size, 6, none⟩) lp).trans d6
                  have d7' := (hI.cell (p := ⟨w.heap.size, 7, none⟩) lp).trans d7
                  have g0' := (hI.cell (p := ⟨bf, off + i, none⟩) lf).trans g0
                  have g1' := (hI.cell (p := ⟨bf, off + j, none⟩) lf).trans g1
                  simp only [quietV, stillV]
                  go_simp
                  exact hK
                go_simp
              refine wpSched_r rfl rfl ?_ hb3
              intro K hK hI
              go_simp
              refine hK _ _ hI ?_
              clear hK K
              repeat
                apply wpSched_q rfl rfl
                case h =>
                  intro w' hI K hK
                  have d0' := (hI.cell (p := ⟨w.heap.size, 0, none⟩) lp).trans d0
                  have d1' := (hI.cell (p := ⟨w.heap.size, 1, none⟩) lp).trans d1
                  have d2' := (hI.cell (p := ⟨w.heap.size, 2, none⟩) lp).trans d2
                  have d3' := (hI.cell (p := ⟨w.heap.size, 3, none⟩) lp).trans d3
                  have d4' := (hI.cell (p := ⟨w.heap.size, 4, none⟩) lp).trans d4
                  have d5' := (hI.cell (p := ⟨w.heap.size, 5, none⟩) lp).trans d5
                  have d6' := (hI.cell (p := ⟨w.heap.size, 6, none⟩) lp).trans d6
                  have d7' := (hI.cell (p := ⟨w.heap.size, 7, none⟩) lp).trans d7
                  have g0' := (hI.cell (p := ⟨bf, off + i, none⟩) lf).trans g0
                  have g1' := (hI.cell (p := ⟨bf, off + j, none⟩) lf).trans g1
                  simp only [quietV, stillV]
                  go_simp
                  exact hK
                go_simp
              refine wpSched_nil ?_
              try simp only [List.drop_succ_cons, List.drop_zero, List.drop_nil]
              have HO3 := Lib.hid (HO.out.below hb3)
              have HB3 := Lib.hid (HBy.out.trans (hb3.mono HBy.out.size))
              clear d0 d1 d2 d3 d4 d5 d6 d7 g0 g1 hb3
              rw [if_neg (by first | decide | (simp; done)), Nat.or_zero] at HS
              go_wp2
              go_roundw
              case rel => exact ⟨j + 1, by omega, by go_num, by rw [HS.out], HO3.out, HB3.out⟩
              case measure => simp [intOf]; omega
            ·
              refine wp_region_sched (Below wr.heap.size wr) 32 [0, 1, 2, 3, 4, 5, 6, 7, 8, 9, 10, 11, 13, 14, 15, 16, 17, 18, 19, 20, 21, 22, 23, 24, 25, 26, 27, 28, 30, 31] (List.range 32) (by kernel_rfl) (by kernel_rfl) (Below.refl _ _).drew ?_
              simp only [show List.range 32 = [0, 1, 2, 3, 4, 5, 6, 7, 8, 9, 10, 11, 12, 13, 14, 15, 16, 17, 18, 19, 20, 21, 22, 23, 24, 25, 26, 27, 28, 29, 30, 31] from rfl]
              repeat
                apply wpSched_q rfl rfl
                case h =>
                  intro w' hI K hK
                  have d0' := (hI.cell (p := ⟨w.heap.size, 0, none⟩) lp).trans d0
                  have d1' := (hI.cell (p := ⟨w.heap.size, 1, none⟩) lp).trans d1
                  have d2' := (hI.cell (p := ⟨w.heap.size, 2, none⟩) lp).trans d2
                  have d3' := (hI.cell (p := ⟨w.heap.size, 3, none⟩) lp).trans d3
                  have d4' := (hI.cell (p := ⟨w.heap.size, 4, none⟩) lp).trans d4
                  have d5' := (hI.cell (p := ⟨w.heap.size, 5, none⟩) lp).trans d5
                  have d6' := (hI.cell (p := ⟨w.heap.size, 6, none⟩) lp).trans d6
                  have d7' := (hI.cell (p := ⟨w.heap.size, 7, none⟩) lp).trans d7
                  have g0' := (hI.cell (p := ⟨bf, off + i, none⟩) lf).trans g0
                  have g1' := (hI.cell (p := ⟨bf, off + j, none⟩) lf).trans g1
                  simp only [quietV, stillV]
                  go_simp
                  exact hK
                go_simp
              refine wpSched_r rfl rfl ?_ (Below.refl _ _).drew
              intro K hK _
              go_simp
              refine (HF1.out _ (Below.refl _ _).drew).mono ?_
              rintro e w2 ⟨rfl, hb⟩
              have hb3 : Below wr.heap.size wr w2 := (Below.refl _ _).drew.trans hb
              refine hK _ _ hb3 ?_
              clear hK K hb
              repeat
                apply wpSched_q rfl rfl
                case h =>
                  intro w' hI K hK
                  have d0' := (hI.cell (p := ⟨w.heap.size, 0, none⟩) lp).trans d0
                  have d1' := (hI.cell (p := ⟨w.heap.size, 1, none⟩) lp).trans d1
                  have d2' := (hI.cell (p := ⟨w.heap.size, 2, none⟩) lp).trans d2
                  have d3' := (hI.cell (p := ⟨w.heap.size, 3, none⟩) lp).trans d3
                  have d4' := (hI.cell (p := ⟨w.heap.size, 4, none⟩) lp).trans d4
                  have d5' := (hI.cell (p := ⟨w.heap.size, 5, none⟩) lp).trans d5
                  have d6' := (hI.cell (p := ⟨w.heap.size, 6, none⟩) lp).trans d6
                  have d7' := (hI.cell (p := ⟨w.heap.size, 7, none⟩) lp).trans d7
                  have g0' := (hI.cell (p := ⟨bf, off + i, none⟩) lf).trans g0
                  have g1' := (hI.cell (p := ⟨bf, off + j, none⟩) lf).trans g1
                  simp only [quietV, stillV]
                  go_simp
                  exact hK
                go_simp
              refine wpSched_r rfl rfl ?_ hb3
              intro K hK hI
              go_simp
              refine hK _ _ hI ?_
              clear hK K
              repeat
                apply wpSched_q rfl rfl
                case h =>
                  intro w' hI K hK
                  have d0' := (hI.cell (p := ⟨w.heap.size, 0, none⟩) lp).trans d0
                  have d1' := (hI.cell (p := ⟨w.heap.size, 1, none⟩) lp).trans d1
                  have d2' := (hI.cell (p := ⟨w.heap.size, 2, none⟩) lp).trans d2
                  have d3' := (hI.cell (p := ⟨w.heap.size, 3, none⟩) lp).trans d3
                  have d4' := (hI.cell (p := ⟨w.heap.size, 4, none⟩) lp).trans d4
                  have d5' := (hI.cell (p := ⟨w.heap.size, 5, none⟩) lp).trans d5
                  have d6' := (hI.cell (p := ⟨w.heap.size, 6, none⟩) lp).trans d6
                  have d7' := (hI.cell (p := ⟨w.heap.size, 7, none⟩) lp).trans d7
                  have g0' := (hI.cell (p := ⟨bf, off + i, none⟩) lf).trans g0
                  have g1' := (hI.cell (p := ⟨bf, off + j, none⟩) lf).trans g1
                  simp only [quietV, stillV]
                  go_simp
                  exact hK
                go_simp
              refine wpSched_nil ?_
              try simp only [List.drop_succ_cons, List.drop_zero, List.drop_nil]
              have HO3 := Lib.hid (HO.out.below hb3)
              have HB3 := Lib.hid (HBy.out.trans (hb3.mono HBy.out.size))
              clear d0 d1 d2 d3 d4 d5 d6 d7 g0 g1 hb3
              rw [if_pos (by first | rfl | (simp; done) | decide)] at HS
              have e2 := i64_or_nat q (2 ^ j) (by omega) (two_pow_lt (by omega))
              rw [← cast_two_pow] at e2
              go_wp2_with fail
              refine (spec_l01One _ _ (by omega) (by omega)).mono ?_
              rintro e w9 ⟨rfl, rfl⟩
              rw [Int.toNat_natCast]
              go_wp2
              go_roundw
              case rel => exact ⟨j + 1, by omega, by go_num, by rw [HS.out], HO3.out, HB3.out⟩
              case measure => simp [intOf]; omega
          · cases e1
            ·
              refine wp_region_sched (Below wr.heap.size wr) 32 [0, 1, 2, 3, 4, 5, 6, 7, 8, 9, 10, 11, 13, 14, 15, 16, 17, 18, 19, 20, 21, 22, 23, 24, 25, 26, 27, 28, 30, 31] (List.range 32) (by kernel_rfl) (by kernel_rfl) (Below.refl _ _).drew ?_
              simp only [show List.range 32 = [0, 1, 2, 3, 4, 5, 6, 7, 8, 9, 10, 11, 12, 13, 14, 15, 16, 17, 18, 19, 20, 21, 22, 23, 24, 25, 26, 27, 28, 29, 30, 31] from rfl]
              repeat
                apply wpSched_q rfl rfl
                case h =>
                  intro w' hI K hK
                  have d0' := (hI.cell (p := ⟨w.heap.size, 0, none⟩) lp).trans d0
                  have d1' := (hI.cell (p := ⟨w.heap.size, 1, none⟩) lp).trans d1
                  have d2' := (hI.cell (p := ⟨w.heap.size, 2, none⟩) lp).trans d2
                  have d3' := (hI.cell (p := ⟨w.heap.size, 3, none⟩) lp).trans d3
                  have d4' := (hI.cell (p := ⟨w.heap.size, 4, none⟩) lp).trans d4
                  have d5' := (hI.cell (p := ⟨w.heap.size, 5, none⟩) lp).trans d5
                  have d6' := (hI.cell (p := ⟨w.heap.size, 6, none⟩) lp).trans d6
                  have d7' := (hI.cell (p := ⟨w.heap.size, 7, none⟩) lp).trans d7
                  have g0' := (hI.cell (p := ⟨bf, off + i, none⟩) lf).trans g0
                  have g1' := (hI.cell (p := ⟨bf, off + j, none⟩) lf).trans g1
                  simp only [quietV, stillV]
                  go_simp
                  exact hK
                go_simp
              refine wpSched_r rfl rfl ?_ (Below.refl _ _).drew
              intro K hK _
              go_simp
              refine (HF1.out _ (Below.refl _ _).drew).mono ?_
              rintro e w2 ⟨rfl, hb⟩
              have hb3 : Below wr.heap.size wr w2 := (Below.refl _ _).drew.trans hb
              refine hK _ _ hb3 ?_
              clear hK K hb
              repeat
                apply wpSched_q rfl rfl
                case h =>
                  intro w' hI K hK
                  have d0' := (hI.cell (p := ⟨w.heap.size, 0, none⟩) lp).trans d0
                  have d1' := (hI.cell (p := ⟨w.heap.size, 1, none⟩) lp).trans d1
                  have d2' := (hI.cell (p := ⟨w.heap.size, 2, none⟩) lp).trans d2
                  have d3' := (hI.cell (p := ⟨w.heap.size, 3, none⟩) lp).trans d3
                  have d4' := (hI.cell (p := ⟨w.heap.size, 4, none⟩) lp).trans d4
                  have d5' := (hI.cell (p := ⟨w.heap.size, 5, none⟩) lp).trans d5
                  have d6' := (hI.cell (p := ⟨w.heap.size, 6, none⟩) lp).trans d6
                  have d7' := (hI.cell (p := ⟨w.heap.size, 7, none⟩) lp).trans d7
                  have g0' := (hI.cell (p := ⟨bf, off + i, none⟩) lf).trans g0
                  have g1' := (hI.cell (p := ⟨bf, off + j, none⟩) lf).trans g1
                  simp only [quietV, stillV]
                  go_simp
                  exact hK
                go_simp
              refine wpSched_r rfl rfl ?_ hb3
              intro K hK hI
              go_simp
              refine hK _ _ hI ?_
              clear hK K
              repeat
                apply wpSched_q rfl rfl
                case h =>
                  intro w' hI K hK
                  have d0' := (hI.cell (p := ⟨w.heap.size, 0, none⟩) lp).trans d0
                  have d1' := (hI.cell (p := ⟨w.heap.size, 1, none⟩) lp).trans d1
                  have d2' := (hI.cell (p := ⟨w.heap.size, 2, none⟩) lp).trans d2
                  have d3' := (hI.cell (p := ⟨w.heap.size, 3, none⟩) lp).trans d3
                  have d4' := (hI.cell (p := ⟨w.heap.size, 4, none⟩) lp).trans d4
                  have d5' := (hI.cell (p := ⟨w.heap.size, 5, none⟩) lp).trans d5
                  have d6' := (hI.cell (p := ⟨w.heap.size, 6, none⟩) lp).trans d6
                  have d7' := (hI.cell (p := ⟨w.heap.size, 7, none⟩) lp).trans d7
                  have g0' := (hI.cell (p := ⟨bf, off + i, none⟩) lf).trans g0
                  have g1' := (hI.cell (p := ⟨bf, off + j, none⟩) lf).trans g1
                  simp only [quietV, stillV]
                  go_simp
                  exact hK
                go_simp
              refine wpSched_nil ?_
              try simp only [List.drop_succ_cons, List.drop_zero, List.drop_nil]
              have HO3 := Lib.hid (HO.out.below hb3)
              have HB3 := Lib.hid (HBy.out.trans (hb3.mono HBy.out.size))
              clear d0 d1 d2 d3 d4 d5 d6 d7 g0 g1 hb3
              rw [if_neg (by first | decide | (simp; done)), Nat.or_zero] at HS
              go_wp2
              go_roundw
              case rel => exact ⟨j + 1, by omega, by go_num, by rw [HS.out], HO3.out, HB3.out⟩
              case measure => simp [intOf]; omega
            · cases e2
              ·
                refine wp_region_sched (Below wr.heap.size wr) 32 [0, 1, 2, 3, 4, 5, 6, 7, 8, 9, 10, 11, 13, 14, 15, 16, 17, 18, 19, 20, 21, 22, 23, 24, 25, 26, 27, 28, 30, 31] (List.range 32) (by kernel_rfl) (by kernel_rfl) (Below.refl _ _).drew ?_
                simp only [show List.range 32 = [0, 1, 2, 3, 4, 5, 6, 7, 8, 9, 10, 11, 12, 13, 14, 15, 16, 17, 18, 19, 20, 21, 22, 23, 24, 25, 26, 27, 28, 29, 30, 31] from rfl]
                repeat
                  apply wpSched_q rfl rfl
                  case h =>
                    intro w' hI K hK
                    have d0' := (hI.cell (p := ⟨w.heap.size, 0, none⟩) lp).trans d0
                    have d1' := (hI.cell (p := ⟨w.heap.size, 1, none⟩) lp).trans d1
                    have d2' := (hI.cell (p := ⟨w.heap.size, 2, none⟩) lp).trans d2
                    have d3' := (hI.cell (p := ⟨w.heap.size, 3, none⟩) lp).trans d3
                    have d4' := (hI.cell (p := ⟨w.heap.size, 4, none⟩) lp).trans d4
                    have d5' := (hI.cell (p := ⟨w.heap.size, 5, none⟩) lp).trans d5
                    have d6' := (hI.cell (p := ⟨w.heap.size, 6, none⟩) lp).trans d6
                    have d7' := (hI.cell (p := ⟨w.heap.size, 7, none⟩) lp).trans d7
                    have g0' := (hI.cell (p := ⟨bf, off + i, none⟩) lf).trans g0
                    have g1' := (hI.cell (p := ⟨bf, off + j, none⟩) lf).trans g1
                    simp only [quietV, stillV]
                    go_simp
                    exact hK
                  go_simp
                refine wpSched_r rfl rfl ?_ (Below.refl _ _).drew
                intro K hK _
                go_simp
                refine (HF1.out _ (Below.refl _ _).drew).mono ?_
                rintro e w2 ⟨rfl, hb⟩
                have hb3 : Below wr.heap.size wr w2 := (Below.refl _ _).drew.trans hb
                refine hK _ _ hb3 ?_
                clear hK K hb
                repeat
                  apply wpSched_q rfl rfl
                  case h =>
                    intro w' hI K hK
                    have d0' := (hI.cell (p := ⟨w.heap.size, 0, none⟩) lp).trans d0
                    have d1' := (hI.cell (p := ⟨w.heap.size, 1, none⟩) lp).trans d1
                    have d2' := (hI.cell (p := ⟨w.heap.size, 2, none⟩) lp).trans d2
                    have d3' := (hI.cell (p := ⟨w.heap.size, 3, none⟩) lp).trans d3
                    have d4' := (hI.cell (p := ⟨w.heap.size, 4, none⟩) lp).trans d4
                    have d5' := (hI.cell (p := ⟨w.heap.size, 5, none⟩) lp).trans d5
                    have d6' := (hI.cell (p := ⟨w.heap.size, 6, none⟩) lp).trans d6
                    have d7' := (hI.cell (p := ⟨w.heap.size, 7, none⟩) lp).trans d7
                    have g0' := (hI.cell (p := ⟨bf, off + i, none⟩) lf).trans g0
                    have g1' := (hI.cell (p := ⟨bf, off + j, none⟩) lf).trans g1
                    simp only [quietV, stillV]
                    go_simp
                    exact hK
                  go_simp
                refine wpSched_r rfl rfl ?_ hb3
                intro K hK _
                go_simp
                refine (HF2.out _ hb3).mono ?_
                rintro e w4 ⟨rfl, hb⟩
                have hb5 : Below wr.heap.size wr w4 := hb3.trans (hb.mono hb3.size)
                refine hK _ _ hb5 ?_
                clear hK K hb
                repeat
                  apply wpSched_q rfl rfl
                  case h =>
                    intro w' hI K hK
                    have d0' := (hI.cell (p := ⟨w.heap.size, 0, none⟩) lp).trans d0
                    have d1' := (hI.cell (p := ⟨w.heap.size, 1, none⟩) lp).trans d1
                    have d2' := (hI.cell (p := ⟨w.heap.size, 2, none⟩) lp).trans d2
                    have d3' := (hI.cell (p := ⟨w.heap.size, 3, none⟩) lp).trans d3
                    have d4' := (hI.cell (p := ⟨w.heap.size, 4, none⟩) lp).trans d4
                    have d5' := (hI.cell (p := ⟨w.heap.size, 5, none⟩) lp).trans d5
                    have d6' := (hI.cell (p := ⟨w.heap.size, 6, none⟩) lp).trans d6
                    have d7' := (hI.cell (p := ⟨w.heap.size, 7, none⟩) lp).trans d7
                    have g0' := (hI.cell (p := ⟨bf, off + i, none⟩) lf).trans g0
                    have g1' := (hI.cell (p := ⟨bf, off + j, none⟩) lf).trans g1
                    simp only [quietV, stillV]
                    go_simp
                    exact hK
                  go_simp
                refine wpSched_nil ?_
                try simp only [List.drop_succ_cons, List.drop_zero, List.drop_nil]
                have HO3 := Lib.hid (HO.out.below hb5)
                have HB3 := Lib.hid (HBy.out.trans (hb5.mono HBy.out.size))
                clear d0 d1 d2 d3 d4 d5 d6 d7 g0 g1 hb5 hb3
                rw [if_neg (by first | decide | (simp; done)), Nat.or_zero] at HS
                go_wp2
                go_roundw
                case rel => exact ⟨j + 1, by omega, by go_num, by rw [HS.out], HO3.out, HB3.out⟩
                case measure => simp [intOf]; omega
              ·
                refine wp_region_sched (Below wr.heap.size wr) 32 [0, 1, 2, 3, 4, 5, 6, 7, 8, 9, 10, 11, 13, 14, 15, 16, 17, 18, 19, 20, 21, 22, 23, 24, 25, 26, 27, 28, 30, 31] (List.range 32) (by kernel_rfl) (by kernel_rfl) (Below.refl _ _).drew ?_
                simp only [show List.range 32 = [0, 1, 2, 3, 4, 5, 6, 7, 8, 9, 10, 11, 12, 13, 14, 15, 16, 17, 18, 19, 20, 21, 22, 23, 24, 25, 26, 27, 28, 29, 30, 31] from rfl]
                repeat
                  apply wpSched_q rfl rfl
                  case h =>
                    intro w' hI K hK
                    have d0' := (hI.cell (p := ⟨w.heap.size, 0, none⟩) lp).trans d0
                    have d1' := (hI.cell (p := ⟨w.heap.size, 1, none⟩) lp).trans d1
                    have d2' := (hI.cell (p := ⟨w.heap.size, 2, none⟩) lp).trans d2
                    have d3' := (hI.cell (p := ⟨w.heap.size, 3, none⟩) lp).trans d3
                    have d4' := (hI.cell (p := ⟨w.heap.size, 4, none⟩) lp).trans d4
                    have d5' := (hI.cell (p := ⟨w.heap.size, 5, none⟩) lp).trans d5
                    have d6' := (hI.cell (p := ⟨w.heap.size, 6, none⟩) lp).trans d6
                    have d7' := (hI.cell (p := ⟨w.heap.size, 7, none⟩) lp).trans d7
                    have g0' := (hI.cell (p := ⟨bf, off + i, none⟩) lf).trans g0
                    have g1' := (hI.cell (p := ⟨bf, off + j, none⟩) lf).trans g1
                    simp only [quietV, stillV]
                    go_simp
                    exact hK
                  go_simp
                refine wpSched_r rfl rfl ?_ (Below.refl _ _).drew
                intro K hK _
                go_simp
                refine (HF1.out _ (Below.refl _ _).drew).mono ?_
                rintro e w2 ⟨rfl, hb⟩
                have hb3 : Below wr.heap.size wr w2 := (Below.refl _ _).drew.trans hb
                refine hK _ _ hb3 ?_
                clear hK K hb
                repeat
                  apply wpSched_q rfl rfl
                  case h =>
                    intro w' hI K hK
                    have d0' := (hI.cell (p := ⟨w.heap.size, 0, none⟩) lp).trans d0
                    have d1' := (hI.cell (p := ⟨w.heap.size, 1, none⟩) lp).trans d1
                    have d2' := (hI.cell (p := ⟨w.heap.size, 2, none⟩) lp).trans d2
                    have d3' := (hI.cell (p := ⟨w.heap.size, 3, none⟩) lp).trans d3
                    have d4' := (hI.cell (p := ⟨w.heap.size, 4, none⟩) lp).trans d4
                    have d5' := (hI.cell (p := ⟨w.heap.size, 5, none⟩) lp).trans d5
                    have d6' := (hI.cell (p := ⟨w.heap.size, 6, none⟩) lp).trans d6
                    have d7' := (hI.cell (p := ⟨w.heap.size, 7, none⟩) lp).trans d7
                    have g0' := (hI.cell (p := ⟨bf, off + i, none⟩) lf).trans g0
                    have g1' := (hI.cell (p := ⟨bf, off + j, none⟩) lf).trans g1
                    simp only [quietV, stillV]
                    go_simp
                    exact hK
                  go_simp
                refine wpSched_r rfl rfl ?_ hb3
                intro K hK _
                go_simp
                refine (HF2.out _ hb3).mono ?_
                rintro e w4 ⟨rfl, hb⟩
                have hb5 : Below wr.heap.size wr w4 := hb3.trans (hb.mono hb3.size)
                refine hK _ _ hb5 ?_
                clear hK K hb
                repeat
                  apply wpSched_q rfl rfl
                  case h =>
                    intro w' hI K hK
                    have d0' := (hI.cell (p := ⟨w.heap.size, 0, none⟩) lp).trans d0
                    have d1' := (hI.cell (p := ⟨w.heap.size, 1, none⟩) lp).trans d1
                    have d2' := (hI.cell (p := ⟨w.heap.size, 2, none⟩) lp).trans d2
                    have d3' := (hI.cell (p := ⟨w.heap.size, 3, none⟩) lp).trans d3
                    have d4' := (hI.cell (p := ⟨w.heap.size, 4, none⟩) lp).trans d4
                    have d5' := (hI.cell (p := ⟨w.heap.size, 5, none⟩) lp).trans d5
                    have d6' := (hI.cell (p := ⟨w.heap.size, 6, none⟩) lp).trans d6
                    have d7' := (hI.cell (p := ⟨w.heap.size, 7, none⟩) lp).trans d7
                    have g0' := (hI.cell (p := ⟨bf, off + i, none⟩) lf).trans g0
                    have g1' := (hI.cell (p := ⟨bf, off + j, none⟩) lf).trans g1
                    simp only [quietV, stillV]
                    go_simp
                    exact hK
                  go_simp
                refine wpSched_nil ?_
                try simp only [List.drop_succ_cons, List.drop_zero, List.drop_nil]
                have HO3 := Lib.hid (HO.out.below hb5)
                have HB3 := Lib.hid (HBy.out.trans (hb5.mono HBy.out.size))
                clear d0 d1 d2 d3 d4 d5 d6 d7 g0 g1 hb5 hb3
                rw [if_pos (by first | rfl | (simp; done) | decide)] at HS
                have e2 := i64_or_nat q (2 ^ j) (by omega) (two_pow_lt (by omega))
                rw [← cast_two_pow] at e2
                go_wp2_with fail
                refine (spec_l01One _ _ (by omega) (by omega)).mono ?_
                rintro e w9 ⟨rfl, rfl⟩
                rw [Int.toNat_natCast]
                go_wp2
                go_roundw
                case rel => exact ⟨j + 1, by omega, by go_num, by rw [HS.out], HO3.out, HB3.out⟩
                case measure => simp [intOf]; omega
        · obtain rfl : j = n := by omega
          have hsz := HBy.out.size
          have HL := Lib.hid (show (li (lnk i j p)).length = i by rw [li_length, lnk_length])
          have HE := Lib.hid (lnk_suc i j p)
          generalize msk (p i) j = q at *
          generalize li (lnk i j p) = xs at *
          go_upto_region 11 with fail
          clear k0 lp
          go_wp2_with (at_builtin; refine stopHere ?_)
          refine goHere ?_
          refine ap_one (K := cI) _ ty_int64 rfl _ _ rfl (xs := xs) rfl HO.out (q : Int) rfl rfl (by rw [HL.out]; omega) hsz ?_
          intro v1 w1 ho1 hg1 hb1 hat1
          have O1 := Lib.hid ho1
          have HB1 := Lib.hid (HBy.out.trans hb1)
          clear ho1 hg1 hb1 hat1
          go_wp2
          go_roundw
          case rel => exact ⟨i + 1, by omega, by go_num, by rw [HE.out]; exact O1.out, HB1.out⟩
          case measure => simp [intOf]; omega
    · obtain rfl : i = n := by omega
      have hsz := HBx.out.size
      have hsz0 := HB.out.size
      go_wp2
      go_ret
      exact ⟨_, rfl, HO.out.mono hsz0, bthen HB.out HBx.out⟩
/- Contracts of chapter 14: the classes, the least and the greatest filtration. Written by gen14v.py. -/
theorem afw_le8 (ns us : List Nat) (f : Fm) (h : ns.length ≤ 8) (i : Nat) : (afw ns us f).getD i 0 ≤ 8 := by
  rcases Nat.lt_or_ge i (afw ns us f).length with hi | hi
  · have := ((dvd_fw (ky ns us f (enc f).length) ns.length).2.1 i (by rw [afw_length] at hi; exact hi)).1
    have h2 : (afw ns us f).getD i 0 < ns.length := this
    omega
  · rw [List.getD_eq_getElem?_getD, List.getElem?_eq_none hi]; simp
theorem gre_gp (ns us : List Nat) (f : Fm) : lnk (acn ns us f) (acn ns us f) (gp (may (mds ns us f (enc f).length) false) false (afw ns us f)) = gre ns us f := by
  rw [gre_grt]
  unfold grt
  refine lnk_congr fun x _ y _ => ?_
  simp [gp]
set_option maxRecDepth 100000 in
theorem impl_AlikeClasses_ok (ns us : List Nat) (f : Fm) (A0 A1 : Option Addr) (c0 c1 : Nat) (v : Value) (w : World) (hm : Mdl w (.slice A0 ns.length c0) (.slice A1 6 c1) ns us) (h1 : MdN ns us) (h : Sl cN w v (enc f)) (hok : f.ok = true) (hl : (enc f).length ≤ 40) (hmk : mdOk ns.length (li ns) (li us) = true) (hfk : isF (enc f) = true) :
    Calls Tryz.prog 8 #[.agg #[.int .i64 ns.length, .slice A0 ns.length c0, .slice A1 6 c1], v] w fun e w' => ∃ u, e = .returned (.tuple #[u, .int .i64 0]) ∧ Ow cI 2 w.heap.size w' u (li (acl ns us f)) ∧ Below w.heap.size w w' := by
  have hb0 := below_alloc' w (.cells #[.int .i64 ns.length, .slice A0 ns.length c0, .slice A1 6 c1] 28)
  have hk0 := Blk.new w 28 #[.int .i64 ns.length, .slice A0 ns.length c0, .slice A1 6 c1]
  have HB := Lib.hid hb0
  have HK0 := Lib.hid hk0
  have HM := Lib.hid hm
  have HF := Lib.hid h
  have H1 := Lib.hid h1
  have E1 := Lib.hid (li_length ns)
  have E2 := Lib.hid (show (li us).length = 6 by rw [li_length, h1.l])
  have HX : Hid (fcode ns.length (li ns) (li us) (enc f) = 0) := Lib.hid (by unfold fcode; rw [hmk, hfk]; rfl)
  have HC := Lib.hid (fun W (hW : Below w.heap.size w W) => HX.out ▸ impl_modelCode ns.length _ _ v (li ns) (li us) (enc f) W (hm.a.below hW) (hm.u.below hW) (h.below hW) (by rw [E1.out]; have := h1.r.1; omega) (by rw [E2.out]; omega) (by omega))
  have HN := Lib.hid (fun W (hW : Below w.heap.size w W) => impl_newFilter ns us f A0 A1 c0 c1 v W (hm.below hW) h1 (h.below hW) hok hl)
  have HL := Lib.hid hl
  clear hb0 hk0 hm h hmk hfk h1 hl
  go_enter Tryz.func8, Tryz.ntmps8
  go_upto_region 1 with fail
  generalize World.alloc w _ = W at *
  have k0 := HK0.out.cell
  have l0 := HK0.out.lt
  go_wp2_with fail
  refine (HC.out _ HB.out).mono ?_
  rintro e w1 ⟨rfl, hb⟩
  have HB1 := Lib.hid (bthen HB.out hb)
  have HK2 := Lib.hid (HK0.out.below hb l0)
  clear hb k0 l0
  have k0 := HK2.out.cell
  have l0 := HK2.out.lt
  go_wp2_with fail
  refine (HN.out _ HB1.out).mono ?_
  rintro e w2 ⟨F, A, cc, bx, dm, rfl, hF, hbl, ho, hbx, hdm, hb⟩
  have HB2 := Lib.hid (bthen HB1.out hb)
  have O1 := Lib.hid ho
  have kF := hbl.cell
  have lF := hbl.lt
  have LE := Lib.hid HB1.out.size
  clear ho hb hbl hbx hdm k0
  go_wp2
  go_ret2
  exact ⟨_, rfl, O1.out.mono LE.out, HB2.out⟩
set_option maxRecDepth 100000 in
theorem impl_AlikeClasses_bad (n : Int) (va vu vf : Value) (xs vs : List Int) (zs : List Nd) (w : World) (ha : Sl cI w va xs) (hu : Sl cI w vu vs) (hf : Sl cN w vf zs) (hl : xs.length ≤ 1048576) (hl' : vs.length ≤ 1048576) (hl2 : zs.length ≤ 1048576) (hc : mdOk n xs vs = false ∨ (mdOk n xs vs = true ∧ isF zs = false)) :
    Calls Tryz.prog 8 #[.agg #[.int .i64 n, va, vu], vf] w fun e w' => e = .returned (.tuple #[.slice none 0 0, .int .i64 1]) ∧ Below w.heap.size w w' := by
  obtain ⟨A0, c0, rfl⟩ := ha.opn
  obtain ⟨A1, c1, rfl⟩ := hu.opn
  have hb0 := below_alloc' w (.cells #[.int .i64 n, .slice A0 xs.length c0, .slice A1 vs.length c1] 28)
  have hk0 := Blk.new w 28 #[.int .i64 n, .slice A0 xs.length c0, .slice A1 vs.length c1]
  have HB := Lib.hid hb0
  have HK0 := Lib.hid hk0
  have HX : Hid (fcode n xs vs zs = 1) := Lib.hid (by unfold fcode; rcases hc with hc | ⟨hc, hz⟩ <;> simp [hc, *])
  have HC := Lib.hid (fun W (hW : Below w.heap.size w W) => HX.out ▸ impl_modelCode n _ _ vf xs vs zs W (ha.below hW) (hu.below hW) (hf.below hW) hl hl' hl2)
  clear ha hu hf hb0 hk0 hc
  go_enter Tryz.func8, Tryz.ntmps8
  go_upto_region 1 with fail
  generalize World.alloc w _ = W at *
  have k0 := HK0.out.cell
  have l0 := HK0.out.lt
  go_wp2_with fail
  refine (HC.out _ HB.out).mono ?_
  rintro e w1 ⟨rfl, hb⟩
  have HB1 := Lib.hid (bthen HB.out hb)
  clear hb k0
  go_wp2
  go_ret2
  exact ⟨rfl, HB1.out⟩
set_option maxRecDepth 100000 in
theorem spec_AlikeClasses_ok (ns us : List Nat) (f : Fm) (A0 A1 : Option Addr) (c0 c1 : Nat) (v : Value) (w : World) (hm : Mdl w (.slice A0 ns.length c0) (.slice A1 6 c1) ns us) (h1 : MdN ns us) (h : Sl cN w v (enc f)) (hok : f.ok = true) (hl : (enc f).length ≤ 40) (hmk : mdOk ns.length (li ns) (li us) = true) (hfk : isF (enc f) = true) :
    Calls Tryz.prog 9 #[.agg #[.int .i64 ns.length, .slice A0 ns.length c0, .slice A1 6 c1], v] w fun e w' => ∃ u, e = .returned (.tuple #[u, .int .i64 0]) ∧ Ow cI 2 w.heap.size w' u (li (acl ns us f)) ∧ Below w.heap.size w w' := by
  have hb0 := below_alloc' w (.cells #[.int .i64 ns.length, .slice A0 ns.length c0, .slice A1 6 c1] 28)
  have hk0 := Blk.new w 28 #[.int .i64 ns.length, .slice A0 ns.length c0, .slice A1 6 c1]
  have HB := Lib.hid hb0
  have HK0 := Lib.hid hk0
  have HM := Lib.hid hm
  have HF := Lib.hid h
  have H1 := Lib.hid h1
  have E1 := Lib.hid (li_length ns)
  have E2 := Lib.hid (show (li us).length = 6 by rw [li_length, h1.l])
  have HC := Lib.hid (fun W (hW : Below w.heap.size w W) => spec_l14Code_ok ns us f A0 A1 c0 c1 v W (hm.below hW) h1 (h.below hW) hok hl hmk hfk)
  have HL := Lib.hid hl
  clear hb0 hk0 hm h hmk hfk h1 hl
  go_enter Tryz.func9, Tryz.ntmps9
  go_upto_region 1 with fail
  generalize World.alloc w _ = W at *
  have k0 := HK0.out.cell
  have l0 := HK0.out.lt
  go_wp2_with fail
  refine (HC.out _ HB.out).mono ?_
  rintro e w1 ⟨s, rfl, ⟨A2, c2, A3, c3, Ab, nb, cb, Ai, ni, ci, Ao, no, co, rfl, ho, hsp⟩, hb⟩
  have HB1 := Lib.hid (bthen HB.out hb)
  have O1 := Lib.hid ho
  have HSP := Lib.hid hsp
  have LE := Lib.hid HB.out.size
  clear ho hsp hb k0 l0
  go_wp2
  go_ret2
  have hba := below_alloc' w1 (.cells #[.int .i64 ns.length, .slice A0 ns.length c0, .slice A1 6 c1, .slice A2 ns.length c2, .slice A3 (acn ns us f) c3, .slice Ab nb cb, .slice Ai ni ci, .slice Ao no co] 59)
  exact ⟨_, rfl, (O1.out.mono LE.out).below hba, bthen HB1.out hba⟩
set_option maxRecDepth 100000 in
theorem spec_AlikeClasses_bad (n : Int) (va vu vf : Value) (xs vs : List Int) (zs : List Nd) (w : World) (ha : Sl cI w va xs) (hu : Sl cI w vu vs) (hf : Sl cN w vf zs) (hl : xs.length ≤ 1048576) (hl' : vs.length ≤ 1048576) (hl2 : zs.length ≤ 1048576) (hc : mdOk n xs vs = false ∨ (mdOk n xs vs = true ∧ isF zs = false)) :
    Calls Tryz.prog 9 #[.agg #[.int .i64 n, va, vu], vf] w fun e w' => e = .returned (.tuple #[.slice none 0 0, .int .i64 1]) ∧ Below w.heap.size w w' := by
  obtain ⟨A0, c0, rfl⟩ := ha.opn
  obtain ⟨A1, c1, rfl⟩ := hu.opn
  have hb0 := below_alloc' w (.cells #[.int .i64 n, .slice A0 xs.length c0, .slice A1 vs.length c1] 28)
  have hk0 := Blk.new w 28 #[.int .i64 n, .slice A0 xs.length c0, .slice A1 vs.length c1]
  have HB := Lib.hid hb0
  have HK0 := Lib.hid hk0
  have HC := Lib.hid (fun W (hW : Below w.heap.size w W) => spec_l14Code_bad n _ _ vf xs vs zs W (ha.below hW) (hu.below hW) (hf.below hW) hl hl' hl2 hc)
  clear ha hu hf hb0 hk0 hc
  go_enter Tryz.func9, Tryz.ntmps9
  go_upto_region 1 with fail
  generalize World.alloc w _ = W at *
  have k0 := HK0.out.cell
  have l0 := HK0.out.lt
  go_wp2_with fail
  refine (HC.out _ HB.out).mono ?_
  rintro e w1 ⟨rfl, hb⟩
  have HB1 := Lib.hid (bthen HB.out hb)
  clear hb k0
  go_wp2
  go_ret2
  exact ⟨rfl, HB1.out.alloc (by have := HB1.out.size; omega) _⟩
end Go.Proofs.YtboldkahppdmbaaGreatDoor
