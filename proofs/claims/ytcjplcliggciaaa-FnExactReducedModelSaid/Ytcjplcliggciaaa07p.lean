/- Contracts of chapter 7, of the program: divided. -/
import Derived.Test.Ytcjplcliggciaaa07o
import Derived.Test.YtcjplcliggciaaaSA
namespace Go.Proofs.Ytcjplcliggciaaa
open Go.RowKit
set_option linter.unusedVariables false
set_option linter.unusedSimpArgs false
set_option maxRecDepth 100000 in
theorem impl_divided (v : Value) (ks : List Nat) (w : World) (h : Sl cI w v (li ks)) (hk : ∀ i, ks.getD i 0 < 256) (hl : ks.length ≤ 200) :
    Calls Try.prog 215 #[v] w fun e w' => ∃ u, e = .returned u ∧ Ow cI 2 w.heap.size w' u (li (dvd (fun y => ks.getD y 0) ks.length).1) ∧ Below w.heap.size w w' := by
  obtain ⟨A, c, rfl⟩ := h.opn
  have hmm := @run_makeMap Try.prog
  go_enter Try.func215, Try.ntmps215
  go_upto_region 2 with fail
  have HM : Hid (Mp ((w.alloc (.map #[] 0)).alloc (.cells #[.map (some w.heap.size), .slice none 0 0] 206)) w.heap.size (fst (fun y => ks.getD y 0) 0) 0) := Lib.hid ((Mp.made w).grown (World.grownBy_alloc _ _ none) (by simp))
  have HP : Hid (Blk ((w.alloc (.map #[] 0)).alloc (.cells #[.map (some w.heap.size), .slice none 0 0] 206)) (w.heap.size + 1) 206 #[.map (some w.heap.size), .slice none 0 0]) := Lib.hid (Blk.new' (w.alloc (.map #[] 0)) _ _ (by simp))
  have HB : Hid (Below w.heap.size w ((w.alloc (.map #[] 0)).alloc (.cells #[.map (some w.heap.size), .slice none 0 0] 206))) := Lib.hid (((Below.refl _ _).alloc (Nat.le_refl _) _).alloc (by simp) _)
  have HZ : Hid (((w.alloc (.map #[] 0)).alloc (.cells #[.map (some w.heap.size), .slice none 0 0] 206)).heap.size = w.heap.size + 2) := Lib.hid (by simp)
  have HL := Lib.hid (li_length ks)
  have HK := Lib.hid hk
  have HS := Lib.hid h
  rw [HL.out] at HS ⊢
  have HQ := Lib.hid hmm
  clear hmm hk h
  generalize World.alloc (w.alloc (.map #[] 0)) _ = W at *
  go_wp2
  go_loopw [10] (fun i wr => ∃ j : Nat, j ≤ ks.length ∧ i = .int .i64 j ∧ Below w.heap.size w wr ∧ w.heap.size + 2 ≤ wr.heap.size ∧ Mp wr w.heap.size (fst (fun y => ks.getD y 0) j) (dvd (fun y => ks.getD y 0) j).2 ∧
      ∃ v', Blk wr (w.heap.size + 1) 206 #[.map (some w.heap.size), v'] ∧ Ow cI 2 (w.heap.size + 2) wr v' (li (dvd (fun y => ks.getD y 0) j).1)) (fun i _ => ks.length - (intOf i).toNat)
  case atStart => exact ⟨0, Nat.zero_le _, rfl, HB.out, by rw [HZ.out]; exact Nat.le_refl _, HM.out, _, HP.out, Ow.nil _ _⟩
  case round =>
    obtain ⟨j, hj, rfl, hb, hz, hm, v', hp, ho⟩ := hrel
    have HBx := Lib.hid hb
    have HMx := Lib.hid hm
    have HPx := Lib.hid hp
    have HOx := Lib.hid ho
    by_cases hlt : j < ks.length
    · have hlt' : j < (li ks).length := by rw [HL.out]; exact hlt
      obtain ⟨b, o, rfl, hbl, hc0⟩ := (show Sl cI w (.slice A (li ks).length c) (li ks) by rw [HL.out]; exact HS.out).below hb |>.atI hlt'
      rw [li_get] at hc0
      have hk := HK.out j
      have hcnt := dvd_count (fun y => ks.getD y 0) j
      have hln : (li (dvd (fun y => ks.getD y 0) j).1).length ≤ 1000 := by rw [li_length, dvd_length]; omega
      have C : Hid (Calls Try.prog 246 #[.pointer (some ⟨w.heap.size + 1, 0, none⟩), .int .i64 (ks.getD j 0 : Nat)] wr fun e w' => e = .returned (.tuple #[]) ∧ Below w.heap.size wr w' ∧ w.heap.size + 2 ≤ w'.heap.size ∧ Mp w' w.heap.size (fst (fun y => ks.getD y 0) (j + 1)) (dvd (fun y => ks.getD y 0) (j + 1)).2 ∧
          ∃ v', Blk w' (w.heap.size + 1) 206 #[.map (some w.heap.size), v'] ∧ Ow cI 2 (w.heap.size + 2) w' v' (li (dvd (fun y => ks.getD y 0) (j + 1)).1)) := by
        refine Lib.hid ?_
        cases hf : (List.range j).find? (fun z => decide (ks.getD z 0 = ks.getD j 0)) with
        | some y =>
          have e1 : dvd (fun y => ks.getD y 0) (j + 1) = ((dvd (fun y => ks.getD y 0) j).1 ++ [(dvd (fun y => ks.getD y 0) j).1.getD y 0], (dvd (fun y => ks.getD y 0) j).2) := by rw [dvd, hf]
          have e2 := fst_step_known (key := fun y => ks.getD y 0) hf
          refine (impl_add_known (w.heap.size + 1) w.heap.size _ _ _ _ _ _ (w.heap.size + 2) wr HPx.out HMx.out HOx.out (by omega) (by omega) (by omega) hz hk (fst_known (key := fun y => ks.getD y 0) hf) hln).mono fun e w' ⟨he, v', h1, h2, h3, h4⟩ => ?_
          have h5 := h4 w.heap.size (by omega) (Nat.le_refl _) (by omega)
          refine ⟨he, h5, Nat.le_trans hz h5.size, ?_, v', h1, ?_⟩
          · rw [e1, e2]; exact h2
          · rw [e1]; rw [li_append]; exact h3
        | none =>
          have e1 : dvd (fun y => ks.getD y 0) (j + 1) = ((dvd (fun y => ks.getD y 0) j).1 ++ [(dvd (fun y => ks.getD y 0) j).2], (dvd (fun y => ks.getD y 0) j).2 + 1) := by rw [dvd, hf]
          have e2 := fst_step_new (key := fun y => ks.getD y 0) hf
          refine (impl_add_new (w.heap.size + 1) w.heap.size _ _ _ _ _ (w.heap.size + 2) wr HPx.out HMx.out HOx.out (by omega) (by omega) (by omega) hz hk (fst_new (key := fun y => ks.getD y 0) hf) (by omega) hln).mono fun e w' ⟨he, v', h1, h2, h3, h4⟩ => ?_
          have h5 := h4 w.heap.size (by omega) (Nat.le_refl _) (by omega)
          refine ⟨he, h5, Nat.le_trans hz h5.size, ?_, v', h1, ?_⟩
          · rw [e1, e2]; exact h2
          · rw [e1]; rw [li_append]; exact h3
      clear hb hm hp ho hln hcnt
      obtain ⟨q, hq⟩ : ∃ q, ks.getD j 0 = q := ⟨_, rfl⟩
      rw [hq] at hc0 C
      clear hq hk
      go_wp2_with fail
      refine C.out.mono ?_
      rintro e w1 ⟨rfl, h5, hz1, hm1, v1, hp1, ho1⟩
      have HM1 := Lib.hid hm1
      have HP1 := Lib.hid hp1
      have HO1 := Lib.hid ho1
      have HB1 := Lib.hid h5
      clear hm1 hp1 ho1 h5
      go_wp2
      go_roundw
      case rel => exact ⟨j + 1, by omega, by go_num, HBx.out.trans HB1.out, hz1, HM1.out, _, HP1.out, HO1.out⟩
      case measure => simp [intOf]; omega
    · obtain rfl : j = ks.length := by omega
      have k0 := hp.cell
      have l0 := hp.lt
      obtain ⟨Av, cv, rfl⟩ := ho.opn
      clear hb hm hp ho
      go_wp2
      go_ret
      exact ⟨_, rfl, HOx.out.mono (by omega), HBx.out⟩
theorem impl_classesOf (v : Value) (ks : List Nat) (w : World) (h : Sl cI w v (li ks)) (hk : ∀ i, ks.getD i 0 < 256) (hl : ks.length ≤ 200) :
    Calls Try.prog 169 #[v] w fun e w' => ∃ u, e = .returned u ∧ Ow cI 2 w.heap.size w' u (li (dvd (fun y => ks.getD y 0) ks.length).1) ∧ Below w.heap.size w w' := by
  obtain ⟨A, c, rfl⟩ := h.opn
  have HC := Lib.hid (impl_divided _ ks w h hk hl)
  clear h hk
  go_enter Try.func169, Try.ntmps169
  go_wp2_with fail
  refine HC.out.mono ?_
  rintro e w1 ⟨u, rfl, ho, hb⟩
  obtain ⟨Av, cv, rfl⟩ := ho.opn
  have HO := Lib.hid ho
  have HB := Lib.hid hb
  clear ho hb
  go_wp2
  go_ret
  exact ⟨_, rfl, HO.out, HB.out⟩
end Go.Proofs.Ytcjplcliggciaaa
