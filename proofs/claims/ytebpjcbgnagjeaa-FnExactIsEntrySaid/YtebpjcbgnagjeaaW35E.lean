/- The walk of FnExactIsEntry: it returns true and writes nothing that was there. -/
import Derived.Test.Ytebpjcbgnagjeaa35E
namespace Go.Proofs.Ytebpjcbgnagjeaa
open Go.RowKit
set_option linter.unusedVariables false
set_option linter.unusedSimpArgs false
theorem laws_szEntry (k : Int) (n f : ByteArray) (w : World) (hn : n.size ≤ 9223372036854775807) (hf : f.size ≤ 9223372036854775807) :
    Calls Try.prog 4 #[.agg #[.int .i64 k, .string n, .string f], .int .i64 1048576] w fun e w' => ∃ r : Int, e = .returned (.int .i64 r) ∧ (r < 0 ↔ 1048576 < n.size + f.size) ∧ Below w.heap.size w w' := by
  have hb := below_alloc' w (.cells #[.int .i64 k, .string n, .string f] 23)
  have K := Lib.hid (Blk.new w 23 #[.int .i64 k, .string n, .string f])
  have A := Lib.hid hb
  clear hb
  by_cases h1 : 1048576 < n.size
  · go_enter Try.func4, Try.ntmps4
    have kr := K.out.cell
    have lr := K.out.lt
    have w1 : IntKind.i64.wrap (1048576 - (n.size : Int)) = 1048576 - (n.size : Int) := IntWalk.i64_in _ ⟨by omega, by omega⟩
    go_wp2
    go_ret
    exact ⟨_, rfl, ⟨fun _ => by omega, fun _ => by decide⟩, A.out⟩
  · have w1 : IntKind.i64.wrap (1048576 - (n.size : Int)) = 1048576 - (n.size : Int) := IntWalk.i64_in _ ⟨by omega, by omega⟩
    have w2 : IntKind.i64.wrap (1048576 - (n.size : Int) - (f.size : Int)) = 1048576 - (n.size : Int) - (f.size : Int) := IntWalk.i64_in _ ⟨by omega, by omega⟩
    by_cases h2 : 1048576 < n.size + f.size
    · go_enter Try.func4, Try.ntmps4
      have kr := K.out.cell
      have lr := K.out.lt
      go_wp2
      go_ret
      exact ⟨_, rfl, ⟨fun _ => h2, fun _ => by decide⟩, A.out⟩
    · go_enter Try.func4, Try.ntmps4
      have kr := K.out.cell
      have lr := K.out.lt
      go_wp2
      go_ret
      exact ⟨_, rfl, ⟨fun _ => by omega, fun _ => by omega⟩, A.out⟩
theorem laws_toEntry (k : Int) (n f : ByteArray) (w : World) :
    Calls Try.prog 6 #[.agg #[.int .i64 k, .string n, .string f]] w fun e w' => e = .returned (.agg #[.int .i64 k, .string n, .string f]) ∧ Below w.heap.size w w' := by
  go_enter Try.func6, Try.ntmps6
  go_wp2
  refine bodyPost_ret (v := .agg #[.int .i64 k, .string n, .string f]) (by simp [results, Try.results6, go_sem]) rfl ⟨rfl, ?_⟩
  repeat (first | exact Below.refl _ _ | refine Below.alloc ?_ (by simp <;> omega) _ | refine below_drewN ?_ _)
theorem spec_IsEntry' (k : Int) (n f : ByteArray) (r : Bool) (w : World) (h : ∀ W, Calls Try.prog 8 #[.agg #[.int .i64 k, .string n, .string f]] W fun e w' => e = .returned (.bool r) ∧ Below W.heap.size W w') :
    Calls Try.prog 5 #[.agg #[.int .i64 k, .string n, .string f]] w fun e w' => e = .returned (.bool r) ∧ Below w.heap.size w w' := by
  have hb := below_alloc' w (.cells #[.int .i64 k, .string n, .string f] 26)
  have K := Lib.hid (Blk.new w 26 #[.int .i64 k, .string n, .string f])
  have A := Lib.hid hb
  have H := Lib.hid h
  clear hb h
  go_enter Try.func5, Try.ntmps5
  have kr := K.out.cell
  have lr := K.out.lt
  go_wp2_with fail
  refine (H.out _).mono ?_
  rintro e w1 ⟨rfl, hb⟩
  replace A := Lib.hid (bthen A.out hb)
  clear kr lr hb
  go_wp2
  go_ret
  exact ⟨rfl, A.out⟩
theorem impl_IsEntry' (k : Int) (n f : ByteArray) (r : Bool) (w : World) (h : ∀ W, Calls Try.prog 9 #[.agg #[.int .i64 k, .string n, .string f]] W fun e w' => e = .returned (.bool r) ∧ Below W.heap.size W w') :
    Calls Try.prog 7 #[.agg #[.int .i64 k, .string n, .string f]] w fun e w' => e = .returned (.bool r) ∧ Below w.heap.size w w' := by
  have hb := below_alloc' w (.cells #[.int .i64 k, .string n, .string f] 26)
  have K := Lib.hid (Blk.new w 26 #[.int .i64 k, .string n, .string f])
  have A := Lib.hid hb
  have H := Lib.hid h
  clear hb h
  go_enter Try.func7, Try.ntmps7
  have kr := K.out.cell
  have lr := K.out.lt
  go_wp2_with fail
  refine (H.out _).mono ?_
  rintro e w1 ⟨rfl, hb⟩
  replace A := Lib.hid (bthen A.out hb)
  clear kr lr hb
  go_wp2
  go_ret
  exact ⟨rfl, A.out⟩
theorem final_IsEntry (k : Int) (n f : ByteArray) (w : World) (hn : n.size ≤ maxLen) (hf : f.size ≤ maxLen) :
    Calls Try.prog 3 #[.agg #[.int .i64 k, .string n, .string f]] w fun e w' => e = .returned (.bool true) ∧ Below w.heap.size w w' := by
  unfold maxLen at hn hf
  have HS := Lib.hid (fun W => laws_szEntry k n f W (by omega) (by omega))
  have HT := Lib.hid (laws_toEntry k n f)
  have hb := below_alloc' w (.cells #[.int .i64 k, .string n, .string f] 23)
  have K := Lib.hid (Blk.new w 23 #[.int .i64 k, .string n, .string f])
  have A := Lib.hid hb
  clear hb
  by_cases hbig : 1048576 < n.size + f.size
  · go_enter Try.func3, Try.ntmps3
    have kr := K.out.cell
    have lr := K.out.lt
    go_wp2_with fail
    refine (HS.out _).mono ?_
    rintro e w1 ⟨r, rfl, hr, hb⟩
    replace A := Lib.hid (bthen A.out hb)
    have hr0 := hr.2 hbig
    clear kr lr hb hr
    go_wp2
    go_ret
    exact ⟨rfl, A.out⟩
  · obtain ⟨b1, h1⟩ : ∃ b : Bool, b = true ↔ NM n := by rcases Classical.em (NM n) with h | h; exact ⟨true, by simp [h]⟩; exact ⟨false, by simp [h]⟩
    obtain ⟨b2, h2⟩ : ∃ b : Bool, b = true ↔ TX f := by rcases Classical.em (TX f) with h | h; exact ⟨true, by simp [h]⟩; exact ⟨false, by simp [h]⟩
    obtain ⟨b3, h3⟩ : ∃ b : Bool, b = true ↔ f = ⟨#[]⟩ := by rcases Classical.em (f = ⟨#[]⟩) with h | h; exact ⟨true, by simp [h]⟩; exact ⟨false, by simp [h]⟩
    have HI := Lib.hid (fun W => impl_IsEntry' k n f _ W (fun W => impl_IsEntry k n f b1 b2 b3 h1 h2 h3 W (by omega) (by omega)))
    have HP := Lib.hid (fun W => spec_IsEntry' k n f _ W (fun W => spec_IsEntry k n f b1 b2 b3 h1 h2 h3 W (by omega) (by omega)))
    clear h1 h2 h3
    generalize enR k b1 b2 b3 = q at *
    go_enter Try.func3, Try.ntmps3
    have kr := K.out.cell
    have lr := K.out.lt
    go_wp2_with fail
    refine (HS.out _).mono ?_
    rintro e w1 ⟨r, rfl, hr, hb⟩
    replace K := Lib.hid (K.out.below hb K.out.lt)
    replace A := Lib.hid (bthen A.out hb)
    have hr0 : ¬ r < 0 := fun h => hbig (hr.1 h)
    clear kr lr hb hr HS
    have kr := K.out.cell
    have lr := K.out.lt
    go_wp2_with fail
    refine (HT.out _).mono ?_
    rintro e w2 ⟨rfl, hb⟩
    replace K := Lib.hid (K.out.below hb K.out.lt)
    replace A := Lib.hid (bthen A.out hb)
    clear kr lr hb
    go_wp2_with fail
    refine (HP.out _).mono ?_
    rintro e w3 ⟨rfl, hb⟩
    replace K := Lib.hid (K.out.below hb K.out.lt)
    replace A := Lib.hid (bthen A.out hb)
    clear hb
    have kr := K.out.cell
    have lr := K.out.lt
    go_wp2_with fail
    refine (HT.out _).mono ?_
    rintro e w4 ⟨rfl, hb⟩
    replace A := Lib.hid (bthen A.out hb)
    clear kr lr hb K
    go_wp2_with fail
    refine (HI.out _).mono ?_
    rintro e w5 ⟨rfl, hb⟩
    replace A := Lib.hid (bthen A.out hb)
    clear hb
    go_wp2
    go_ret
    exact ⟨rfl, A.out⟩
end Go.Proofs.Ytebpjcbgnagjeaa
