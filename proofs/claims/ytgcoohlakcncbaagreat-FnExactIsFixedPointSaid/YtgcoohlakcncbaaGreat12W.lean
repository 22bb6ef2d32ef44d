/- Contracts of chapter 12, of the reference: a type stays if it has its witnesses. -/
import Derived.Test.YtgcoohlakcncbaaGreat12V
namespace Go.Proofs.YtgcoohlakcncbaaGreat
open Go.RowKit
set_option linter.unusedVariables false
set_option linter.unusedSimpArgs false
theorem spec_l12Type_GL (p : Nat) (t : Int) (w : World) (hp : p < w.heap.size) (h0 : w.cell? ⟨p, 0, none⟩ = some (.string ⟨#[71, 76]⟩)) :
    Calls Tryz.prog 242 #[.pointer (some ⟨p, 0, none⟩), .int .i64 t] w fun e w' => e = .returned (.bool true) ∧ w' = w := by
  go_enter Tryz.func242, Tryz.ntmps242
  go_wp2
  go_ret
  exact ⟨rfl, rfl⟩
/-- a part has its witness in a type among some -/
def svb (P : List Fm) (ts : List Nat) (t i : Nat) : Bool := !(ism P i) || dmd P t i || ts.any fun u => wiT P i t u
theorem SurL_eq (P : List Fm) (ts : List Nat) (t : Nat) : SurL P ts t = (List.range P.length).all (svb P ts t) := rfl
theorem range_all_succS (q : Nat → Bool) (k : Nat) : (List.range (k + 1)).all q = ((List.range k).all q && q k) := by rw [List.range_succ, List.all_append]; simp
theorem any_takeS {α : Type} (q : α → Bool) (l : List α) (k : Nat) (h : k < l.length) : (l.take (k + 1)).any q = ((l.take k).any q || q l[k]) := by rw [List.take_succ_eq_append_getElem h, List.any_append]; simp
set_option maxRecDepth 100000 in
set_option maxHeartbeats 1000000 in
theorem spec_l12Stays (P : List Fm) (N p t : Nat) (ts : List Nat) (hP : P.length ≤ 8) (hN : N = 2 ^ P.length) (ht : t < N) (hts : ∀ u ∈ ts, u < N) (hl : ts.length ≤ 256) (hel : ∀ i, i < P.length → isel (P.getD i .fls) = true) (v : Value) (w : World) (hT : SpR P N p w) (h : Sl cI w v (li ts)) :
    Calls Tryz.prog 243 #[.pointer (some ⟨p, 0, none⟩), .int .i64 (t : Int), v] w fun e w' => e = .returned (.bool (SurL P ts t)) ∧ Below w.heap.size w w' := by
  obtain ⟨A, c, rfl⟩ := h.opn
  rw [SurL_eq]
  have HL := Lib.hid (li_length ts)
  rw [HL.out] at h ⊢
  have HA := Lib.hid (fun i W (hi : i < P.length) (hW : SpR P N p W) => spec_l12Asks P N p t i hP hN ht hi (hel i hi) W hW)
  have HS := Lib.hid (fun u i W (hu : u < N) (hi : i < P.length) (hm : ism P i = true) (hW : SpR P N p W) => spec_l12Shows P N p t u i hP hN ht hu hi hel hm W hW)
  have HTS := Lib.hid (fun k (hk : k < ts.length) => hts ts[k] (List.getElem_mem hk))
  have HT := Lib.hid hT
  have H := Lib.hid h
  have HLI := Lib.hid (fun k (hk : k < (li ts).length) => show (li ts)[k] = ((ts[k]'(by rw [li_length] at hk; exact hk) : Nat) : Int) from by simp [li])
  have HNO : Hid (∀ j, j < P.length → svb P ts t j = false → (List.range P.length).all (svb P ts t) = false) := Lib.hid fun j hj hh => by
    rw [← Bool.not_eq_true, List.all_eq_true]
    intro hx
    rw [hx j (List.mem_range.2 hj)] at hh
    cases hh
  obtain ⟨A1', A2', A4', c1', c2', c4', h0', q0', q1', -, -, -, -, -⟩ := hT
  clear hel hts h
  go_enter Tryz.func243, Tryz.ntmps243
  go_wp2
  clear h0' q0' q1' A1' A2' A4' c1' c2' c4'
  go_loopw [7, 8, 9] (fun i x8 x9 wr => ∃ j : Nat, j ≤ P.length ∧ i = .int .i64 j ∧ (List.range j).all (svb P ts t) = true ∧ Below w.heap.size w wr) (fun i _ _ _ => P.length - (intOf i).toNat)
  case atStart => exact ⟨0, Nat.zero_le _, rfl, rfl, Below.refl _ _⟩
  case round =>
    obtain ⟨j, hj, rfl, hps, hb⟩ := hrel
    obtain ⟨w4, hw4⟩ : ∃ W, W = wr := ⟨_, rfl⟩
    subst hw4
    have HPS := Lib.hid hps
    have HB := Lib.hid hb
    have HT4 := Lib.hid (HT.out.below hb)
    have H4 := Lib.hid (H.out.below hb)
    clear hps hb
    obtain ⟨A1, A2, A4, c1, c2, c4, h0, q0, q1, -, -, -, -, -⟩ := HT4.out
    by_cases hlt : j < P.length
    · have i1 : (j : Int) < (P.length : Int) := by omega
      have HSU := Lib.hid (range_all_succS (svb P ts t) j)
      have HAj := Lib.hid (HA.out j w4 hlt HT4.out)
      have HNj := Lib.hid (HNO.out j hlt)
      go_wp2_with fail
      refine HAj.out.mono ?_
      rintro e w5 ⟨rfl, rfl⟩
      cases hak : (ism P j && !dmd P t j)
      · have hs : svb P ts t j = true := by unfold svb; cases h1 : ism P j <;> cases h2 : dmd P t j <;> simp_all
        rw [HPS.out, hs, Bool.true_and] at HSU
        clear hs hak
        go_wp2
        go_roundw
        case rel => exact ⟨j + 1, by omega, by go_num, HSU.out, HB.out⟩
        case measure => simp [intOf]; omega
      · have hm : ism P j = true := by cases h1 : ism P j; rw [h1] at hak; cases hak; rfl
        have hs : svb P ts t j = ts.any fun u => wiT P j t u := by unfold svb; cases h1 : ism P j <;> cases h2 : dmd P t j <;> simp_all
        have HSJ := Lib.hid hs
        have HSj := Lib.hid (fun u W (hu : u < N) (hW : SpR P N p W) => HS.out u j W hu hlt hm hW)
        clear hs hm hak HAj
        go_wp2
        go_loopw [8, 9] (fun sv i9 wr => ∃ (k : Nat) (s : Bool), k ≤ ts.length ∧ i9 = .int .i64 k ∧ sv = .bool s ∧ s = (ts.take k).any (fun u => wiT P j t u) ∧ Below w5.heap.size w5 wr) (fun _ i _ => ts.length - (intOf i).toNat)
        case atStart => exact ⟨0, false, Nat.zero_le _, rfl, rfl, rfl, Below.refl _ _⟩
        case round =>
          obtain ⟨k, s, hk, rfl, rfl, hs, hb⟩ := hrel
          obtain ⟨w6, hw6⟩ : ∃ W, W = wr := ⟨_, rfl⟩
          subst hw6
          have HSS := Lib.hid hs
          have HB6 := Lib.hid hb
          have HT6 := Lib.hid (HT4.out.below hb)
          have H6 := Lib.hid (H4.out.below hb)
          have h06 : p < w6.heap.size := Nat.lt_of_lt_of_le h0 hb.size
          have q06 := (hb.cell (p := ⟨p, 0, none⟩) h0).trans q0
          have q16 := (hb.cell (p := ⟨p, 1, none⟩) h0).trans q1
          clear hs hb
          cases s
          · by_cases hkl : k < ts.length
            · have hkl2 : k < (li ts).length := by rw [HL.out]; exact hkl
              obtain ⟨b, o, rfl, hbl, hc⟩ := H6.out.atI hkl2
              rw [HLI.out k hkl2] at hc
              have i2 : (k : Int) < (ts.length : Int) := by omega
              have HX := Lib.hid (HSj.out ts[k] w6 (HTS.out k hkl) HT6.out)
              have HAT := Lib.hid (any_takeS (fun u => wiT P j t u) ts k hkl)
              rw [← HSS.out, Bool.false_or] at HAT
              generalize ts[k] = uk at *
              go_wp2_with fail
              refine HX.out.mono ?_
              rintro e w7 ⟨rfl, hb⟩
              have HB7 := Lib.hid (bthen HB6.out hb)
              clear hb
              go_wp2
              go_roundw
              case rel => exact ⟨k + 1, _, by omega, by go_num, rfl, HAT.out.symm, HB7.out⟩
              case measure => simp [intOf]; omega
            · obtain rfl : k = ts.length := by omega
              have hs : svb P ts t j = false := by rw [HSJ.out]; have := HSS.out; rw [List.take_length] at this; exact this.symm
              have HE := Lib.hid (HNj.out hs)
              clear hs
              go_wp2
              go_ret
              exact ⟨by rw [HE.out]; rfl, bthen HB.out HB6.out⟩
          · have hs : svb P ts t j = true := by
              rw [HSJ.out]
              have := HSS.out.symm
              rw [List.any_eq_true] at this ⊢
              obtain ⟨x, hx, h2⟩ := this
              exact ⟨x, List.mem_of_mem_take hx, h2⟩
            rw [HPS.out, hs, Bool.true_and] at HSU
            clear hs
            have HB7 := Lib.hid (bthen HB.out HB6.out)
            by_cases hkl : k < ts.length
            all_goals
              go_wp2
              go_roundw
              case rel => exact ⟨j + 1, by omega, by go_num, HSU.out, HB7.out⟩
              case measure => simp [intOf]; omega
    · obtain rfl : j = P.length := by omega
      go_wp2
      go_ret
      exact ⟨by rw [HPS.out]; rfl, HB.out⟩
end Go.Proofs.YtgcoohlakcncbaaGreat
