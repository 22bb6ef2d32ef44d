/- Contracts of BoxTrace of the reference. Written by gen32z2.py. -/
import Derived.Test.Ytbmknlfpaggbnaa32z
namespace Go.Proofs.Ytbmknlfpaggbnaa
open Go.RowKit
set_option linter.unusedVariables false
set_option linter.unusedSimpArgs false
theorem spec_BoxTrace_bad (v : Value) (b : Bool) (xs : List Int) (w : World) (h : Sl cI w v xs) (hl : xs.length ≤ 1048576) (hc : okT xs = false) :
    Calls Try.prog 32 #[.agg #[.bool b, v]] w fun e w' => e = .returned (.tuple #[.agg #[.bool false, .slice none 0 0], .int .i64 1]) ∧ Below w.heap.size w w' := by
  obtain ⟨A, c, rfl⟩ := h.opn
  have H1 := Lib.hid (hc ▸ spec_l32Valid _ b xs _ ((h.alloc (.cells #[.bool b, .slice A xs.length c] 33)).alloc (.cells #[.bool false, .slice none 0 0] 33)) hl)
  clear hc h
  go_enter Try.func32, Try.ntmps32
  go_wp2_with fail
  refine H1.out.mono ?_
  rintro e w1 ⟨rfl, hb⟩
  have f1 : Blk w1 (w.heap.size + 1) 33 #[.bool false, .slice none 0 0] := (Blk.new' (w.alloc (.cells #[.bool b, .slice A xs.length c] 33)) 33 #[.bool false, .slice none 0 0] (by simp)).below hb (by simp <;> omega)
  obtain ⟨k1, k2, k3⟩ := And.intro f1.cell (And.intro f1.frozen f1.lt)
  have HB : Hid (Below w.heap.size w w1) := Lib.hid ((((Below.refl _ _).alloc (Nat.le_refl _) _).alloc (by simp) _).trans (hb.mono (by simp <;> omega)))
  clear hb f1
  go_wp2
  refine bodyPost_ret (v := .tuple #[.agg #[.bool false, .slice none 0 0], .int .i64 1]) (by simp [results, Try.results32, go_sem, k1, k2, k3]) rfl ⟨rfl, ?_⟩
  exact (HB.out.setCell (by show w.heap.size ≤ w.heap.size + 1; omega) _).setCell (by show w.heap.size ≤ w.heap.size + 1; omega) _
set_option maxRecDepth 100000 in
theorem spec_BoxTrace_big (v : Value) (b : Bool) (xs : List Int) (w : World) (h : Sl cI w v xs) (hl : xs.length ≤ 1048576) (hc : okT xs = true) (hA : (!b && decide (xs.length = 0)) = false) (hX : 60 < fsT b xs 62 0) :
    Calls Try.prog 32 #[.agg #[.bool b, v]] w fun e w' => e = .returned (.tuple #[.agg #[.bool false, .slice none 0 0], .int .i64 3]) ∧ Below w.heap.size w w' := by
  obtain ⟨A, c, rfl⟩ := h.opn
  have h2 := (h.alloc (.cells #[.bool b, .slice A xs.length c] 33)).alloc (.cells #[.bool false, .slice none 0 0] 33)
  have H1 := Lib.hid (hc ▸ spec_l32Valid _ b xs _ h2 hl)
  have HC := Lib.hid (fun W (hW : Sl cI W (.slice A xs.length c) xs) x => spec_l32Has _ b xs x W hW hl)
  have HA := Lib.hid (fun W (hW : Sl cI W (.slice A xs.length c) xs) => hA ▸ spec_l32All _ b xs W hW (by omega))
  have H2 := Lib.hid h2
  have HX := Lib.hid hX
  clear hc h h2 hA hX
  go_enter Try.func32, Try.ntmps32
  go_wp2_with fail
  refine H1.out.mono ?_
  rintro e w1 ⟨rfl, hb⟩
  have F0 : Hid (Blk w1 w.heap.size 33 #[.bool b, .slice A xs.length c]) := Lib.hid (((Blk.new w 33 #[.bool b, .slice A xs.length c]).alloc (.cells #[.bool false, .slice none 0 0] 33)).below hb (by simp <;> omega))
  have F1 : Hid (Blk w1 (w.heap.size + 1) 33 #[.bool false, .slice none 0 0]) := Lib.hid ((Blk.new' (w.alloc (.cells #[.bool b, .slice A xs.length c] 33)) 33 #[.bool false, .slice none 0 0] (by simp)).below hb (by simp <;> omega))
  have HS := Lib.hid (H2.out.below hb)
  have HB : Hid (Below w.heap.size w w1) := Lib.hid ((((Below.refl _ _).alloc (Nat.le_refl _) _).alloc (by simp) _).trans (hb.mono (by simp <;> omega)))
  clear hb
  go_wp2
  go_loopw [4] (fun i wr => ∃ j : Nat, j ≤ 62 ∧ i = .int .i64 j ∧ fsT b xs 62 0 = fsT b xs (62 - j) j ∧ Below w1.heap.size w1 wr) (fun i _ => 62 - (intOf i).toNat)
  case atStart => exact ⟨0, by omega, rfl, rfl, Below.refl _ _⟩
  case round =>
    obtain ⟨j, hj, rfl, hf, hbw⟩ := hrel
    have f0 := F0.out.below hbw F0.out.lt
    obtain ⟨i1, i2, i3⟩ := And.intro f0.cell (And.intro f0.frozen f0.lt)
    have HS2 := Lib.hid (HS.out.below hbw)
    have F02 := Lib.hid f0
    have F12 := Lib.hid (F1.out.below hbw F1.out.lt)
    have HB2 := Lib.hid (bthen HB.out hbw)
    have HW := Lib.hid hbw
    have HFT := Lib.hid hf
    clear f0 hbw hf
    by_cases hlt : j < 62
    · cases hq : (decide ((j : Int) ∈ xs) == b)
      · have HC1 := Lib.hid (hq ▸ HC.out wr HS2.out j)
        have HT : Hid (fsT b xs 62 0 = j) := Lib.hid (by rw [HFT.out, show 62 - j = (61 - j) + 1 by omega, fsT, if_neg (by rw [hq]; decide)])
        have hj60 : 60 < j := by have := HX.out; have := HT.out; omega
        clear hq
        go_wp2_with fail
        refine HC1.out.mono ?_
        rintro e w2 ⟨rfl, hb⟩
        have f0 := F02.out.below hb F02.out.lt
        clear i1 i2 i3
        obtain ⟨i1, i2, i3⟩ := And.intro f0.cell (And.intro f0.frozen f0.lt)
        have HS3 := Lib.hid (HS2.out.below hb)
        have F13 := Lib.hid (F12.out.below hb F12.out.lt)
        have HB3 := Lib.hid (bthen HB2.out hb)
        clear f0 hb
        go_wp2_with fail
        refine (HA.out _ HS3.out).mono ?_
        rintro e w3 ⟨rfl, hb⟩
        have F14 := Lib.hid (F13.out.below hb F13.out.lt)
        have HB4 := Lib.hid (bthen HB3.out hb)
        clear hb i1 i2 i3
        have f1 := F14.out
        obtain ⟨k1, k2, k3⟩ := And.intro f1.cell (And.intro f1.frozen f1.lt)
        clear f1
        go_wp2
        refine bodyPost_ret (v := .tuple #[.agg #[.bool false, .slice none 0 0], .int .i64 3]) (by simp [results, Try.results32, go_sem, k1, k2, k3]) rfl ⟨rfl, ?_⟩
        exact (HB4.out.setCell (by show w.heap.size ≤ w.heap.size + 1; omega) _).setCell (by show w.heap.size ≤ w.heap.size + 1; omega) _
      · have HC1 := Lib.hid (hq ▸ HC.out wr HS2.out j)
        have HT : Hid (fsT b xs 62 0 = fsT b xs (62 - (j + 1)) (j + 1)) := Lib.hid (by rw [HFT.out, show 62 - j = (61 - j) + 1 by omega, fsT, if_pos hq, show 62 - (j + 1) = 61 - j by omega])
        clear hq
        go_wp2_with fail
        refine HC1.out.mono ?_
        rintro e w2 ⟨rfl, hb⟩
        have HW2 := Lib.hid (bthen HW.out hb)
        clear hb i1 i2 i3
        go_wp2
        go_roundw
        case rel => exact ⟨j + 1, by omega, by go_num, HT.out, HW2.out⟩
        case measure => simp [intOf]; omega
    · obtain rfl : j = 62 := by omega
      have HT : Hid (fsT b xs 62 0 = 62) := Lib.hid (by rw [HFT.out]; rfl)
      have HS3 := HS2
      have F13 := F12
      have HB3 := HB2
      go_wp2_with fail
      refine (HA.out _ HS3.out).mono ?_
      rintro e w3 ⟨rfl, hb⟩
      have F14 := Lib.hid (F13.out.below hb F13.out.lt)
      have HB4 := Lib.hid (bthen HB3.out hb)
      clear hb i1 i2 i3
      have f1 := F14.out
      obtain ⟨k1, k2, k3⟩ := And.intro f1.cell (And.intro f1.frozen f1.lt)
      clear f1
      go_wp2
      refine bodyPost_ret (v := .tuple #[.agg #[.bool false, .slice none 0 0], .int .i64 3]) (by simp [results, Try.results32, go_sem, k1, k2, k3]) rfl ⟨rfl, ?_⟩
      exact (HB4.out.setCell (by show w.heap.size ≤ w.heap.size + 1; omega) _).setCell (by show w.heap.size ≤ w.heap.size + 1; omega) _
set_option maxRecDepth 100000 in
theorem spec_BoxTrace_all (v : Value) (b : Bool) (xs : List Int) (w : World) (h : Sl cI w v xs) (hl : xs.length ≤ 1048576) (hc : okT xs = true) (hA : (!b && decide (xs.length = 0)) = true) (hX : True) :
    Calls Try.prog 32 #[.agg #[.bool b, v]] w fun e w' => ∃ u, e = .returned (.tuple #[.agg #[.bool false, u], .int .i64 0]) ∧ Ow cI 2 w.heap.size w' u [] ∧ Below w.heap.size w w' := by
  obtain ⟨A, c, rfl⟩ := h.opn
  have h2 := (h.alloc (.cells #[.bool b, .slice A xs.length c] 33)).alloc (.cells #[.bool false, .slice none 0 0] 33)
  have H1 := Lib.hid (hc ▸ spec_l32Valid _ b xs _ h2 hl)
  have HC := Lib.hid (fun W (hW : Sl cI W (.slice A xs.length c) xs) x => spec_l32Has _ b xs x W hW hl)
  have HA := Lib.hid (fun W (hW : Sl cI W (.slice A xs.length c) xs) => hA ▸ spec_l32All _ b xs W hW (by omega))
  have H2 := Lib.hid h2
  have HX := Lib.hid hX
  clear hc h h2 hA hX
  go_enter Try.func32, Try.ntmps32
  go_wp2_with fail
  refine H1.out.mono ?_
  rintro e w1 ⟨rfl, hb⟩
  have F0 : Hid (Blk w1 w.heap.size 33 #[.bool b, .slice A xs.length c]) := Lib.hid (((Blk.new w 33 #[.bool b, .slice A xs.length c]).alloc (.cells #[.bool false, .slice none 0 0] 33)).below hb (by simp <;> omega))
  have F1 : Hid (Blk w1 (w.heap.size + 1) 33 #[.bool false, .slice none 0 0]) := Lib.hid ((Blk.new' (w.alloc (.cells #[.bool b, .slice A xs.length c] 33)) 33 #[.bool false, .slice none 0 0] (by simp)).below hb (by simp <;> omega))
  have HS := Lib.hid (H2.out.below hb)
  have HB : Hid (Below w.heap.size w w1) := Lib.hid ((((Below.refl _ _).alloc (Nat.le_refl _) _).alloc (by simp) _).trans (hb.mono (by simp <;> omega)))
  clear hb
  go_wp2
  go_loopw [4] (fun i wr => ∃ j : Nat, j ≤ 62 ∧ i = .int .i64 j ∧ fsT b xs 62 0 = fsT b xs (62 - j) j ∧ Below w1.heap.size w1 wr) (fun i _ => 62 - (intOf i).toNat)
  case atStart => exact ⟨0, by omega, rfl, rfl, Below.refl _ _⟩
  case round =>
    obtain ⟨j, hj, rfl, hf, hbw⟩ := hrel
    have f0 := F0.out.below hbw F0.out.lt
    obtain ⟨i1, i2, i3⟩ := And.intro f0.cell (And.intro f0.frozen f0.lt)
    have HS2 := Lib.hid (HS.out.below hbw)
    have F02 := Lib.hid f0
    have F12 := Lib.hid (F1.out.below hbw F1.out.lt)
    have HB2 := Lib.hid (bthen HB.out hbw)
    have HW := Lib.hid hbw
    have HFT := Lib.hid hf
    clear f0 hbw hf
    by_cases hlt : j < 62
    · cases hq : (decide ((j : Int) ∈ xs) == b)
      · have HC1 := Lib.hid (hq ▸ HC.out wr HS2.out j)
        have HT : Hid (fsT b xs 62 0 = j) := Lib.hid (by rw [HFT.out, show 62 - j = (61 - j) + 1 by omega, fsT, if_neg (by rw [hq]; decide)])
        clear hq
        go_wp2_with fail
        refine HC1.out.mono ?_
        rintro e w2 ⟨rfl, hb⟩
        have f0 := F02.out.below hb F02.out.lt
        clear i1 i2 i3
        obtain ⟨i1, i2, i3⟩ := And.intro f0.cell (And.intro f0.frozen f0.lt)
        have HS3 := Lib.hid (HS2.out.below hb)
        have F13 := Lib.hid (F12.out.below hb F12.out.lt)
        have HB3 := Lib.hid (bthen HB2.out hb)
        clear f0 hb
        go_wp2_with fail
        refine (HA.out _ HS3.out).mono ?_
        rintro e w3 ⟨rfl, hb⟩
        have F14 := Lib.hid (F13.out.below hb F13.out.lt)
        have HB4 := Lib.hid (bthen HB3.out hb)
        clear hb i1 i2 i3
        have f1 := F14.out.alloc (.cells #[] 2)
        obtain ⟨k1, k2, k3⟩ := And.intro f1.cell (And.intro f1.frozen f1.lt)
        clear f1
        go_wp2
        refine bodyPost_ret (v := .tuple #[.agg #[.bool false, .slice (some ⟨w3.heap.size, 0, none⟩) 0 0], .int .i64 0]) (by simp [results, Try.results32, go_sem, k1, k2, k3]) rfl ⟨_, rfl, ?_, ?_⟩
        · have hz := F14.out.lt
          exact (((Ow.lit' [] rfl rfl rfl (Nat.le_refl _)).setBelow (by show w.heap.size + 1 < w3.heap.size; omega) _).setBelow (by show w.heap.size + 1 < w3.heap.size; omega) _).mono (by omega)
        · exact ((HB4.out.alloc (by have := HB4.out.size; omega) _).setCell (by show w.heap.size ≤ w.heap.size + 1; omega) _).setCell (by show w.heap.size ≤ w.heap.size + 1; omega) _
      · have HC1 := Lib.hid (hq ▸ HC.out wr HS2.out j)
        have HT : Hid (fsT b xs 62 0 = fsT b xs (62 - (j + 1)) (j + 1)) := Lib.hid (by rw [HFT.out, show 62 - j = (61 - j) + 1 by omega, fsT, if_pos hq, show 62 - (j + 1) = 61 - j by omega])
        clear hq
        go_wp2_with fail
        refine HC1.out.mono ?_
        rintro e w2 ⟨rfl, hb⟩
        have HW2 := Lib.hid (bthen HW.out hb)
        clear hb i1 i2 i3
        go_wp2
        go_roundw
        case rel => exact ⟨j + 1, by omega, by go_num, HT.out, HW2.out⟩
        case measure => simp [intOf]; omega
    · obtain rfl : j = 62 := by omega
      have HT : Hid (fsT b xs 62 0 = 62) := Lib.hid (by rw [HFT.out]; rfl)
      have HS3 := HS2
      have F13 := F12
      have HB3 := HB2
      go_wp2_with fail
      refine (HA.out _ HS3.out).mono ?_
      rintro e w3 ⟨rfl, hb⟩
      have F14 := Lib.hid (F13.out.below hb F13.out.lt)
      have HB4 := Lib.hid (bthen HB3.out hb)
      clear hb i1 i2 i3
      have f1 := F14.out.alloc (.cells #[] 2)
      obtain ⟨k1, k2, k3⟩ := And.intro f1.cell (And.intro f1.frozen f1.lt)
      clear f1
      go_wp2
      refine bodyPost_ret (v := .tuple #[.agg #[.bool false, .slice (some ⟨w3.heap.size, 0, none⟩) 0 0], .int .i64 0]) (by simp [results, Try.results32, go_sem, k1, k2, k3]) rfl ⟨_, rfl, ?_, ?_⟩
      · have hz := F14.out.lt
        exact (((Ow.lit' [] rfl rfl rfl (Nat.le_refl _)).setBelow (by show w.heap.size + 1 < w3.heap.size; omega) _).setBelow (by show w.heap.size + 1 < w3.heap.size; omega) _).mono (by omega)
      · exact ((HB4.out.alloc (by have := HB4.out.size; omega) _).setCell (by show w.heap.size ≤ w.heap.size + 1; omega) _).setCell (by show w.heap.size ≤ w.heap.size + 1; omega) _
set_option maxRecDepth 100000 in
theorem spec_BoxTrace_ok (v : Value) (b : Bool) (xs : List Int) (w : World) (h : Sl cI w v xs) (hl : xs.length ≤ 1048576) (hc : okT xs = true) (t : Nat) (hA : (!b && decide (xs.length = 0)) = false) (hX : fsT b xs 62 0 = t ∧ t ≤ 60) :
    Calls Try.prog 32 #[.agg #[.bool b, v]] w fun e w' => ∃ u, e = .returned (.tuple #[.agg #[.bool true, u], .int .i64 0]) ∧ Ow cI 2 w.heap.size w' u (shL (t + 1)) ∧ Below w.heap.size w w' := by
  obtain ⟨A, c, rfl⟩ := h.opn
  have h2 := (h.alloc (.cells #[.bool b, .slice A xs.length c] 33)).alloc (.cells #[.bool false, .slice none 0 0] 33)
  have H1 := Lib.hid (hc ▸ spec_l32Valid _ b xs _ h2 hl)
  have HC := Lib.hid (fun W (hW : Sl cI W (.slice A xs.length c) xs) x => spec_l32Has _ b xs x W hW hl)
  have HA := Lib.hid (fun W (hW : Sl cI W (.slice A xs.length c) xs) => hA ▸ spec_l32All _ b xs W hW (by omega))
  have H2 := Lib.hid h2
  have HX := Lib.hid hX
  clear hc h h2 hA hX
  go_enter Try.func32, Try.ntmps32
  go_wp2_with fail
  refine H1.out.mono ?_
  rintro e w1 ⟨rfl, hb⟩
  have F0 : Hid (Blk w1 w.heap.size 33 #[.bool b, .slice A xs.length c]) := Lib.hid (((Blk.new w 33 #[.bool b, .slice A xs.length c]).alloc (.cells #[.bool false, .slice none 0 0] 33)).below hb (by simp <;> omega))
  have F1 : Hid (Blk w1 (w.heap.size + 1) 33 #[.bool false, .slice none 0 0]) := Lib.hid ((Blk.new' (w.alloc (.cells #[.bool b, .slice A xs.length c] 33)) 33 #[.bool false, .slice none 0 0] (by simp)).below hb (by simp <;> omega))
  have HS := Lib.hid (H2.out.below hb)
  have HB : Hid (Below w.heap.size w w1) := Lib.hid ((((Below.refl _ _).alloc (Nat.le_refl _) _).alloc (by simp) _).trans (hb.mono (by simp <;> omega)))
  clear hb
  go_wp2
  go_loopw [4] (fun i wr => ∃ j : Nat, j ≤ 62 ∧ i = .int .i64 j ∧ fsT b xs 62 0 = fsT b xs (62 - j) j ∧ Below w1.heap.size w1 wr) (fun i _ => 62 - (intOf i).toNat)
  case atStart => exact ⟨0, by omega, rfl, rfl, Below.refl _ _⟩
  case round =>
    obtain ⟨j, hj, rfl, hf, hbw⟩ := hrel
    have f0 := F0.out.below hbw F0.out.lt
    obtain ⟨i1, i2, i3⟩ := And.intro f0.cell (And.intro f0.frozen f0.lt)
    have HS2 := Lib.hid (HS.out.below hbw)
    have F02 := Lib.hid f0
    have F12 := Lib.hid (F1.out.below hbw F1.out.lt)
    have HB2 := Lib.hid (bthen HB.out hbw)
    have HW := Lib.hid hbw
    have HFT := Lib.hid hf
    clear f0 hbw hf
    by_cases hlt : j < 62
    · cases hq : (decide ((j : Int) ∈ xs) == b)
      · have HC1 := Lib.hid (hq ▸ HC.out wr HS2.out j)
        have HT : Hid (fsT b xs 62 0 = j) := Lib.hid (by rw [HFT.out, show 62 - j = (61 - j) + 1 by omega, fsT, if_neg (by rw [hq]; decide)])
        clear hq
        go_wp2_with fail
        refine HC1.out.mono ?_
        rintro e w2 ⟨rfl, hb⟩
        have f0 := F02.out.below hb F02.out.lt
        clear i1 i2 i3
        obtain ⟨i1, i2, i3⟩ := And.intro f0.cell (And.intro f0.frozen f0.lt)
        have HS3 := Lib.hid (HS2.out.below hb)
        have F13 := Lib.hid (F12.out.below hb F12.out.lt)
        have HB3 := Lib.hid (bthen HB2.out hb)
        clear f0 hb
        go_wp2_with fail
        refine (HA.out _ HS3.out).mono ?_
        rintro e w3 ⟨rfl, hb⟩
        have F14 := Lib.hid (F13.out.below hb F13.out.lt)
        have HB4 := Lib.hid (bthen HB3.out hb)
        clear hb i1 i2 i3
        obtain rfl : j = t := by have := HX.out; have := HT.out; omega
        have hj60 : j ≤ 60 := HX.out.2
        have hj60' : (j : Int) ≤ 60 := by omega
        have hz := F14.out.lt
        have hz4 := HB4.out.size
        have B0 : Hid (Blk ((w3.alloc (.cells #[] 2)).alloc (.cells #[.bool true, .slice (some ⟨w3.heap.size, 0, none⟩) 0 0] 33)) (w.heap.size + 1) 33 #[.bool false, .slice none 0 0]) := Lib.hid ((F14.out.alloc _).alloc _)
        have B1 : Hid (Blk ((w3.alloc (.cells #[] 2)).alloc (.cells #[.bool true, .slice (some ⟨w3.heap.size, 0, none⟩) 0 0] 33)) (w3.heap.size + 1) 33 #[.bool true, .slice (some ⟨w3.heap.size, 0, none⟩) 0 0]) := Lib.hid (Blk.new' _ _ _ (by simp))
        have O0 : Hid (Ow cI 2 w3.heap.size ((w3.alloc (.cells #[] 2)).alloc (.cells #[.bool true, .slice (some ⟨w3.heap.size, 0, none⟩) 0 0] 33)) (.slice (some ⟨w3.heap.size, 0, none⟩) 0 0) []) := Lib.hid ((Ow.lit' [] rfl rfl rfl (Nat.le_refl _)).alloc _)
        have HB0 : Hid (Below w.heap.size w ((w3.alloc (.cells #[] 2)).alloc (.cells #[.bool true, .slice (some ⟨w3.heap.size, 0, none⟩) 0 0] 33))) := Lib.hid ((HB4.out.alloc (by omega) _).alloc (by simp <;> omega) _)
        go_wp2
        go_loopw [6] (fun i wr => ∃ (k : Nat) (lv : Value), k ≤ j + 1 ∧ i = .int .i64 k ∧ Ow cI 2 w3.heap.size wr lv (shL k) ∧ lv.ownBlock ≠ some (w3.heap.size + 1) ∧ Blk wr (w3.heap.size + 1) 33 #[.bool true, lv] ∧ Blk wr (w.heap.size + 1) 33 #[.bool false, .slice none 0 0] ∧ Below w.heap.size w wr) (fun i _ => j + 1 - (intOf i).toNat)
        case atStart => exact ⟨0, _, by omega, rfl, O0.out, by simp [Value.ownBlock], B1.out, B0.out, HB0.out⟩
        case round =>
          obtain ⟨k, lv, hk', rfl, ho, hne, hk, hk0, hbw⟩ := hrel
          clear O0 B0 B1 HB0
          obtain ⟨A1, c1, rfl⟩ := ho.opn
          rw [shL_length] at ho hne hk
          have glt := hk.lt
          have k1 := hk.cell
          have k2 := hk.frozen
          have HO := Lib.hid ho; have HK := Lib.hid hk; have HK0 := Lib.hid hk0; have HN := Lib.hid hne; have HBW := Lib.hid hbw
          clear ho hk hk0 hne hbw
          by_cases hlt2 : k < j + 1
          · go_wp2_with (at_builtin; refine stopHere ?_)
            refine goHere ?_
            refine ap_one (K := cI) _ ty_int64 rfl _ _ rfl (B := w3.heap.size) (xs := shL k) rfl HO.out k rfl rfl (by rw [shL_length]; omega) (by omega) ?_
            intro v1 w6 ho1 hg1 hb1 hat1
            have m1 := (HK.out.alloc (.cells #[.int .i64 k] 2)).grown hg1 (fun e => HN.out e.symm)
            have m0 := (HK0.out.alloc (.cells #[.int .i64 k] 2)).grown hg1 (HO.out.apart (g := w.heap.size + 1) (.inl (by omega)))
            have hne1 : v1.ownBlock ≠ some (w3.heap.size + 1) := by
              rcases hat1 with e | e
              · rw [e]; exact HN.out
              · rw [e]; intro e2; injection e2 with e2; omega
            have hbw1 : Below w.heap.size w w6 := HBW.out.trans (hb1.mono (by omega))
            obtain ⟨A2, c2, rfl⟩ := ho1.opn
            have el : (shL k ++ [(k : Int)]).length = k + 1 := by simp [shL_length]
            rw [el] at ho1 hne1 ⊢
            clear k1 k2 el
            have k1 := m1.cell
            have k2 := m1.frozen
            have M1 := Lib.hid m1; have M0 := Lib.hid m0; have N1 := Lib.hid hne1; have O1 := Lib.hid ho1; have W1 := Lib.hid hbw1
            clear m1 m0 hne1 ho1 hbw1 hg1 hb1 hat1
            go_wp2
            go_roundw
            case rel =>
              refine ⟨k + 1, .slice A2 (k + 1) c2, by omega, by go_num, by rw [shL_snoc]; exact O1.out.far N1.out _, N1.out, ?_, M0.out.far (by show w.heap.size + 1 ≠ w3.heap.size + 1; omega) _, W1.out.setCell (by show w.heap.size ≤ w3.heap.size + 1; omega) _⟩
              exact M1.out.set_ 1 _
            case measure => simp [intOf]; omega
          · obtain rfl : k = j + 1 := by omega
            have k3 := HK0.out.cell
            have k4 := HK0.out.frozen
            have glt0 := HK0.out.lt
            go_wp2
            refine bodyPost_ret (v := .tuple #[.agg #[.bool true, .slice A1 (j + 1) c1], .int .i64 0]) (by simp [results, Try.results32, go_sem, k1, k2, k3, k4]) rfl ⟨_, rfl, ?_, ?_⟩
            · exact ((HO.out.setBelow (by show w.heap.size + 1 < w3.heap.size; omega) _).setBelow (by show w.heap.size + 1 < w3.heap.size; omega) _).mono (by omega)
            · exact (HBW.out.setCell (by show w.heap.size ≤ w.heap.size + 1; omega) _).setCell (by show w.heap.size ≤ w.heap.size + 1; omega) _
      · have HC1 := Lib.hid (hq ▸ HC.out wr HS2.out j)
        have HT : Hid (fsT b xs 62 0 = fsT b xs (62 - (j + 1)) (j + 1)) := Lib.hid (by rw [HFT.out, show 62 - j = (61 - j) + 1 by omega, fsT, if_pos hq, show 62 - (j + 1) = 61 - j by omega])
        clear hq
        go_wp2_with fail
        refine HC1.out.mono ?_
        rintro e w2 ⟨rfl, hb⟩
        have HW2 := Lib.hid (bthen HW.out hb)
        clear hb i1 i2 i3
        go_wp2
        go_roundw
        case rel => exact ⟨j + 1, by omega, by go_num, HT.out, HW2.out⟩
        case measure => simp [intOf]; omega
    · obtain rfl : j = 62 := by omega
      have HT : Hid (fsT b xs 62 0 = 62) := Lib.hid (by rw [HFT.out]; rfl)
      exact absurd HT.out (by have := HX.out; omega)
end Go.Proofs.Ytbmknlfpaggbnaa
