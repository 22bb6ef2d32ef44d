/- The walk of FnSolutions, written by program (gen33S.py). -/
import Derived.Test.YtebpjcbgnagjeaaGreatM33T
import Derived.Test.YtebpjcbgnagjeaaGreat06u
import Derived.Test.YtebpjcbgnagjeaaGreatLK
import Derived.Test.YtebpjcbgnagjeaaGreatDh
namespace Go.Proofs.YtebpjcbgnagjeaaGreat
open Go.RowKit
set_option linter.unusedVariables false
set_option linter.unusedSimpArgs false
theorem scode_vals (n : Int) (xs vs : List Int) (zs : List Nd) (v : Int) : scode n xs vs zs v = 0 ∨ scode n xs vs zs v = 1 ∨ scode n xs vs zs v = 2 := by
  unfold scode vcode
  split
  · split
    · split
      · exact .inl rfl
      · exact .inr (.inr rfl)
    · exact .inr (.inl rfl)
  · exact .inr (.inl rfl)
set_option maxHeartbeats 4000000 in
set_option maxRecDepth 100000 in
theorem final_Solutions (v : Value) (xs : List (Fin 256)) (w : World) (h : Sl cY w v xs) :
    Calls Tryz.prog 3 #[v] w fun e w' => e = .returned (.bool true) ∧ Below w.heap.size w w' := by
  have A : Hid (Below w.heap.size w w) := Lib.hid (Below.refl _ _)
  go_enter Tryz.func3, Tryz.ntmps3
  replace h := Lib.hid h
  by_cases hbig : 4096 < xs.length
  · have HC := Lib.hid (decide_eq_true hbig ▸ laws_big v xs w h.out)
    clear hbig
    go_wp2_with fail
    refine HC.out.mono ?_
    rintro e w1 ⟨rfl, rfl⟩
    go_wp2
    go_ret
    exact ⟨rfl, A.out⟩
  · have HC := Lib.hid (decide_eq_false hbig ▸ laws_big v xs w h.out)
    have HD := Lib.hid (spec_DrawSolveOnFrame v xs w h.out (by omega))
    clear hbig
    go_wp2_with fail
    refine HC.out.mono ?_
    rintro e w1 ⟨rfl, rfl⟩
    clear HC h
    go_wp2_with fail
    refine (HD.out).mono ?_
    rintro e w1 ⟨n, x, u1, u2, u3, L1, L2, L3, rfl, hL1, hL2, hL3, s1, s2, s3, hb⟩
    replace A := Lib.hid (bthen A.out hb)
    clear hb
    clear HD
    obtain ⟨A1, c1, rfl⟩ := s1.opn
    obtain ⟨A2, c2, rfl⟩ := s2.opn
    obtain ⟨A3, c3, rfl⟩ := s3.opn
    by_cases hc : scode n L1 L3 L2 x = 0
    · obtain ⟨⟨ns, us, rfl, rfl, rfl, hr, hu6, hus⟩, ⟨f, hok, rfl, hlf⟩, s, rfl, hs5⟩ := scode_zero hc
      have h8 := hr.1
      rw [li_length] at s1 s3
      rw [hu6] at s3
      rw [li_length, li_length, hu6]
      have S1 := Lib.hid s1
      have S2 := Lib.hid s2
      have S3 := Lib.hid s3
      clear s1 s2 s3 hL1 hL2 hL3
      have HCI : Hid (∀ W, Sl cI W (.slice A1 ns.length c1) (li ns) → Sl cI W (.slice A3 6 c3) (li us) → Sl cN W (.slice A2 (enc f).length c2) (enc f) → Calls Tryz.prog 8 #[.agg #[.int .i64 (ns.length : Int), .slice A1 ns.length c1], .slice A2 (enc f).length c2, .int .i64 (s : Int), .slice A3 6 c3] W fun e w' => e = .returned (.tuple #[.int .i64 (csOut ns us f s : Nat), .int .i64 0]) ∧ Below W.heap.size W w') := Lib.hid (fun W a b c => impl_CountSolutions_ok ns us f s _ _ _ W a b c hr hu6 hus hok hlf hs5 hc)
      have HCS : Hid (∀ W, Sl cI W (.slice A1 ns.length c1) (li ns) → Sl cI W (.slice A3 6 c3) (li us) → Sl cN W (.slice A2 (enc f).length c2) (enc f) → Calls Tryz.prog 9 #[.agg #[.int .i64 (ns.length : Int), .slice A1 ns.length c1], .slice A2 (enc f).length c2, .int .i64 (s : Int), .slice A3 6 c3] W fun e w' => e = .returned (.tuple #[.int .i64 (csOut ns us f s : Nat), .int .i64 0]) ∧ Below W.heap.size W w') := Lib.hid (fun W a b c => spec_CountSolutions_ok ns us f s _ _ _ W a b c hr hu6 hus hok hlf hs5 hc)
      cases h1 : trv ns
      · skip
        have HSI : Hid (∀ W, Sl cI W (.slice A1 ns.length c1) (li ns) → Sl cI W (.slice A3 6 c3) (li us) → Sl cN W (.slice A2 (enc f).length c2) (enc f) → Calls Tryz.prog 6 #[.agg #[.int .i64 (ns.length : Int), .slice A1 ns.length c1], .slice A2 (enc f).length c2, .int .i64 (s : Int), .slice A3 6 c3] W fun e w' => e = .returned (.tuple #[.int .i64 0, .int .i64 5]) ∧ Below W.heap.size W w') := Lib.hid (fun W a b c => impl_SolveOnFrame_no1 ns us f s _ _ _ W a b c hr hu6 hus hok hlf hs5 hc h1)
        have HSS : Hid (∀ W, Sl cI W (.slice A1 ns.length c1) (li ns) → Sl cI W (.slice A3 6 c3) (li us) → Sl cN W (.slice A2 (enc f).length c2) (enc f) → Calls Tryz.prog 7 #[.agg #[.int .i64 (ns.length : Int), .slice A1 ns.length c1], .slice A2 (enc f).length c2, .int .i64 (s : Int), .slice A3 6 c3] W fun e w' => e = .returned (.tuple #[.int .i64 0, .int .i64 5]) ∧ Below W.heap.size W w') := Lib.hid (fun W a b c => spec_SolveOnFrame_no1 ns us f s _ _ _ W a b c hr hu6 hus hok hlf hs5 hc h1)
        clear hr hu6 hus hok hlf hs5 hc h1
        generalize csOut ns us f s = q at *
        go_upto_region 4 with fail
        have hb := below_alloc' w1 (.cells #[.int .i64 (ns.length : Int), .slice A1 ns.length c1] 26)
        have T3 := Lib.hid (Bk.new w1 #[.int .i64 (ns.length : Int), .slice A1 ns.length c1] 26)
        replace S1 := Lib.hid (S1.out.below hb)
        replace S2 := Lib.hid (S2.out.below hb)
        replace S3 := Lib.hid (S3.out.below hb)
        replace A := Lib.hid (bthen A.out hb)
        clear hb
        generalize World.alloc w1 _ = w2 at *
        have T3s := T3.out.1
        have T3c := T3.out.2
        go_wp2_with fail
        clear T3s T3c
        refine (HSI.out _ S1.out S3.out S2.out).mono ?_
        rintro e w3 ⟨rfl, hb⟩
        replace S1 := Lib.hid (S1.out.below hb)
        replace S2 := Lib.hid (S2.out.below hb)
        replace S3 := Lib.hid (S3.out.below hb)
        replace T3 := Lib.hid (T3.out.below hb)
        replace A := Lib.hid (bthen A.out hb)
        clear hb
        have T3s := T3.out.1
        have T3c := T3.out.2
        go_wp2_with fail
        clear T3s T3c
        refine (HSS.out _ S1.out S3.out S2.out).mono ?_
        rintro e w4 ⟨rfl, hb⟩
        replace S1 := Lib.hid (S1.out.below hb)
        replace S2 := Lib.hid (S2.out.below hb)
        replace S3 := Lib.hid (S3.out.below hb)
        replace T3 := Lib.hid (T3.out.below hb)
        replace A := Lib.hid (bthen A.out hb)
        clear hb
        have T3s := T3.out.1
        have T3c := T3.out.2
        go_wp2_with fail
        clear T3s T3c
        refine (HCI.out _ S1.out S3.out S2.out).mono ?_
        rintro e w5 ⟨rfl, hb⟩
        replace S1 := Lib.hid (S1.out.below hb)
        replace S2 := Lib.hid (S2.out.below hb)
        replace S3 := Lib.hid (S3.out.below hb)
        replace T3 := Lib.hid (T3.out.below hb)
        replace A := Lib.hid (bthen A.out hb)
        clear hb
        have T3s := T3.out.1
        have T3c := T3.out.2
        go_wp2_with fail
        clear T3s T3c
        refine (HCS.out _ S1.out S3.out S2.out).mono ?_
        rintro e w6 ⟨rfl, hb⟩
        replace S1 := Lib.hid (S1.out.below hb)
        replace S2 := Lib.hid (S2.out.below hb)
        replace S3 := Lib.hid (S3.out.below hb)
        replace T3 := Lib.hid (T3.out.below hb)
        replace A := Lib.hid (bthen A.out hb)
        clear hb
        clear HSI HSS HCI HCS
        go_wp2
        go_ret
        exact ⟨rfl, A.out⟩
      cases h2 : acy ns
      · skip
        have HSI : Hid (∀ W, Sl cI W (.slice A1 ns.length c1) (li ns) → Sl cI W (.slice A3 6 c3) (li us) → Sl cN W (.slice A2 (enc f).length c2) (enc f) → Calls Tryz.prog 6 #[.agg #[.int .i64 (ns.length : Int), .slice A1 ns.length c1], .slice A2 (enc f).length c2, .int .i64 (s : Int), .slice A3 6 c3] W fun e w' => e = .returned (.tuple #[.int .i64 0, .int .i64 5]) ∧ Below W.heap.size W w') := Lib.hid (fun W a b c => impl_SolveOnFrame_no2 ns us f s _ _ _ W a b c hr hu6 hus hok hlf hs5 hc h1 h2)
        have HSS : Hid (∀ W, Sl cI W (.slice A1 ns.length c1) (li ns) → Sl cI W (.slice A3 6 c3) (li us) → Sl cN W (.slice A2 (enc f).length c2) (enc f) → Calls Tryz.prog 7 #[.agg #[.int .i64 (ns.length : Int), .slice A1 ns.length c1], .slice A2 (enc f).length c2, .int .i64 (s : Int), .slice A3 6 c3] W fun e w' => e = .returned (.tuple #[.int .i64 0, .int .i64 5]) ∧ Below W.heap.size W w') := Lib.hid (fun W a b c => spec_SolveOnFrame_no2 ns us f s _ _ _ W a b c hr hu6 hus hok hlf hs5 hc h1 h2)
        clear hr hu6 hus hok hlf hs5 hc h1 h2
        generalize csOut ns us f s = q at *
        go_upto_region 4 with fail
        have hb := below_alloc' w1 (.cells #[.int .i64 (ns.length : Int), .slice A1 ns.length c1] 26)
        have T3 := Lib.hid (Bk.new w1 #[.int .i64 (ns.length : Int), .slice A1 ns.length c1] 26)
        replace S1 := Lib.hid (S1.out.below hb)
        replace S2 := Lib.hid (S2.out.below hb)
        replace S3 := Lib.hid (S3.out.below hb)
        replace A := Lib.hid (bthen A.out hb)
        clear hb
        generalize World.alloc w1 _ = w2 at *
        have T3s := T3.out.1
        have T3c := T3.out.2
        go_wp2_with fail
        clear T3s T3c
        refine (HSI.out _ S1.out S3.out S2.out).mono ?_
        rintro e w3 ⟨rfl, hb⟩
        replace S1 := Lib.hid (S1.out.below hb)
        replace S2 := Lib.hid (S2.out.below hb)
        replace S3 := Lib.hid (S3.out.below hb)
        replace T3 := Lib.hid (T3.out.below hb)
        replace A := Lib.hid (bthen A.out hb)
        clear hb
        have T3s := T3.out.1
        have T3c := T3.out.2
        go_wp2_with fail
        clear T3s T3c
        refine (HSS.out _ S1.out S3.out S2.out).mono ?_
        rintro e w4 ⟨rfl, hb⟩
        replace S1 := Lib.hid (S1.out.below hb)
        replace S2 := Lib.hid (S2.out.below hb)
        replace S3 := Lib.hid (S3.out.below hb)
        replace T3 := Lib.hid (T3.out.below hb)
        replace A := Lib.hid (bthen A.out hb)
        clear hb
        have T3s := T3.out.1
        have T3c := T3.out.2
        go_wp2_with fail
        clear T3s T3c
        refine (HCI.out _ S1.out S3.out S2.out).mono ?_
        rintro e w5 ⟨rfl, hb⟩
        replace S1 := Lib.hid (S1.out.below hb)
        replace S2 := Lib.hid (S2.out.below hb)
        replace S3 := Lib.hid (S3.out.below hb)
        replace T3 := Lib.hid (T3.out.below hb)
        replace A := Lib.hid (bthen A.out hb)
        clear hb
        have T3s := T3.out.1
        have T3c := T3.out.2
        go_wp2_with fail
        clear T3s T3c
        refine (HCS.out _ S1.out S3.out S2.out).mono ?_
        rintro e w6 ⟨rfl, hb⟩
        replace S1 := Lib.hid (S1.out.below hb)
        replace S2 := Lib.hid (S2.out.below hb)
        replace S3 := Lib.hid (S3.out.below hb)
        replace T3 := Lib.hid (T3.out.below hb)
        replace A := Lib.hid (bthen A.out hb)
        clear hb
        clear HSI HSS HCI HCS
        go_wp2
        go_ret
        exact ⟨rfl, A.out⟩
      cases h3 : gd f s
      · skip
        have HSI : Hid (∀ W, Sl cI W (.slice A1 ns.length c1) (li ns) → Sl cI W (.slice A3 6 c3) (li us) → Sl cN W (.slice A2 (enc f).length c2) (enc f) → Calls Tryz.prog 6 #[.agg #[.int .i64 (ns.length : Int), .slice A1 ns.length c1], .slice A2 (enc f).length c2, .int .i64 (s : Int), .slice A3 6 c3] W fun e w' => e = .returned (.tuple #[.int .i64 0, .int .i64 5]) ∧ Below W.heap.size W w') := Lib.hid (fun W a b c => impl_SolveOnFrame_no3 ns us f s _ _ _ W a b c hr hu6 hus hok hlf hs5 hc h1 h2 h3)
        have HSS : Hid (∀ W, Sl cI W (.slice A1 ns.length c1) (li ns) → Sl cI W (.slice A3 6 c3) (li us) → Sl cN W (.slice A2 (enc f).length c2) (enc f) → Calls Tryz.prog 7 #[.agg #[.int .i64 (ns.length : Int), .slice A1 ns.length c1], .slice A2 (enc f).length c2, .int .i64 (s : Int), .slice A3 6 c3] W fun e w' => e = .returned (.tuple #[.int .i64 0, .int .i64 5]) ∧ Below W.heap.size W w') := Lib.hid (fun W a b c => spec_SolveOnFrame_no3 ns us f s _ _ _ W a b c hr hu6 hus hok hlf hs5 hc h1 h2 h3)
        clear hr hu6 hus hok hlf hs5 hc h1 h2 h3
        generalize csOut ns us f s = q at *
        go_upto_region 4 with fail
        have hb := below_alloc' w1 (.cells #[.int .i64 (ns.length : Int), .slice A1 ns.length c1] 26)
        have T3 := Lib.hid (Bk.new w1 #[.int .i64 (ns.length : Int), .slice A1 ns.length c1] 26)
        replace S1 := Lib.hid (S1.out.below hb)
        replace S2 := Lib.hid (S2.out.below hb)
        replace S3 := Lib.hid (S3.out.below hb)
        replace A := Lib.hid (bthen A.out hb)
        clear hb
        generalize World.alloc w1 _ = w2 at *
        have T3s := T3.out.1
        have T3c := T3.out.2
        go_wp2_with fail
        clear T3s T3c
        refine (HSI.out _ S1.out S3.out S2.out).mono ?_
        rintro e w3 ⟨rfl, hb⟩
        replace S1 := Lib.hid (S1.out.below hb)
        replace S2 := Lib.hid (S2.out.below hb)
        replace S3 := Lib.hid (S3.out.below hb)
        replace T3 := Lib.hid (T3.out.below hb)
        replace A := Lib.hid (bthen A.out hb)
        clear hb
        have T3s := T3.out.1
        have T3c := T3.out.2
        go_wp2_with fail
        clear T3s T3c
        refine (HSS.out _ S1.out S3.out S2.out).mono ?_
        rintro e w4 ⟨rfl, hb⟩
        replace S1 := Lib.hid (S1.out.below hb)
        replace S2 := Lib.hid (S2.out.below hb)
        replace S3 := Lib.hid (S3.out.below hb)
        replace T3 := Lib.hid (T3.out.below hb)
        replace A := Lib.hid (bthen A.out hb)
        clear hb
        have T3s := T3.out.1
        have T3c := T3.out.2
        go_wp2_with fail
        clear T3s T3c
        refine (HCI.out _ S1.out S3.out S2.out).mono ?_
        rintro e w5 ⟨rfl, hb⟩
        replace S1 := Lib.hid (S1.out.below hb)
        replace S2 := Lib.hid (S2.out.below hb)
        replace S3 := Lib.hid (S3.out.below hb)
        replace T3 := Lib.hid (T3.out.below hb)
        replace A := Lib.hid (bthen A.out hb)
        clear hb
        have T3s := T3.out.1
        have T3c := T3.out.2
        go_wp2_with fail
        clear T3s T3c
        refine (HCS.out _ S1.out S3.out S2.out).mono ?_
        rintro e w6 ⟨rfl, hb⟩
        replace S1 := Lib.hid (S1.out.below hb)
        replace S2 := Lib.hid (S2.out.below hb)
        replace S3 := Lib.hid (S3.out.below hb)
        replace T3 := Lib.hid (T3.out.below hb)
        replace A := Lib.hid (bthen A.out hb)
        clear hb
        clear HSI HSS HCI HCS
        go_wp2
        go_ret
        exact ⟨rfl, A.out⟩
      have HSI : Hid (∀ W, Sl cI W (.slice A1 ns.length c1) (li ns) → Sl cI W (.slice A3 6 c3) (li us) → Sl cN W (.slice A2 (enc f).length c2) (enc f) → Calls Tryz.prog 6 #[.agg #[.int .i64 (ns.length : Int), .slice A1 ns.length c1], .slice A2 (enc f).length c2, .int .i64 (s : Int), .slice A3 6 c3] W fun e w' => e = .returned (.tuple #[.int .i64 (slvn ns us f s ns.length : Nat), .int .i64 0]) ∧ Below W.heap.size W w') := Lib.hid (fun W a b c => impl_SolveOnFrame_ok ns us f s _ _ _ W a b c hr hu6 hus hok hlf hs5 hc h1 h2 h3)
      have HSS : Hid (∀ W, Sl cI W (.slice A1 ns.length c1) (li ns) → Sl cI W (.slice A3 6 c3) (li us) → Sl cN W (.slice A2 (enc f).length c2) (enc f) → Calls Tryz.prog 7 #[.agg #[.int .i64 (ns.length : Int), .slice A1 ns.length c1], .slice A2 (enc f).length c2, .int .i64 (s : Int), .slice A3 6 c3] W fun e w' => e = .returned (.tuple #[.int .i64 (slvn ns us f s ns.length : Nat), .int .i64 0]) ∧ Below W.heap.size W w') := Lib.hid (fun W a b c => spec_SolveOnFrame_ok ns us f s _ _ _ W a b c hr hu6 hus hok hlf hs5 hc h1 h2 h3)
      have hm : MdN ns us := ⟨hr, hu6, hus⟩
      obtain ⟨e1, e2, e3, e4⟩ := sol_pack hm hok hlf hs5 h1 h2 h3
      rw [e1] at HCI HCS
      rw [show ((1 : Nat) : Int) = 1 from rfl] at HCI HCS
      generalize hq : slvn ns us f s ns.length = q at *
      have hfk : isF (enc f) = true := (isF_iff _).2 ⟨f, hok, rfl, hlf⟩
      have HT : Hid (∀ W A9 c9, Mdl W (.slice A1 ns.length c1) (.slice A9 6 c9) ns (us.set s q) → Sl cN W (.slice A2 (enc f).length c2) (enc f) → Calls Tryz.prog 10 #[.agg #[.int .i64 (ns.length : Int), .slice A1 ns.length c1, .slice A9 6 c9], .slice A2 (enc f).length c2] W fun e w' => e = .returned (.tuple #[.int .i64 (q : Nat), .int .i64 0]) ∧ Below W.heap.size W w') := Lib.hid (fun W A9 c9 a b => by have t := impl_TruthSet_ok ns (us.set s q) f A1 A9 c1 c9 _ W a e3 b hok hlf (mdN_okTS e3) hfk; rw [e2] at t; exact t)
      have HFI := Lib.hid (fun W v a => impl_FixedPointOf_ok v f s W a hlf hok hs5 h3)
      have HFS := Lib.hid (fun W v a => spec_FixedPointOf_ok v f s W a hlf hok hs5 h3)
      have HP : Hid (∀ d : Fm, d.ok = true → (enc d).length ≤ 40 → tv ns us d = q → ∀ W v, Mdl W (.slice A1 ns.length c1) (.slice A3 6 c3) ns us → Sl cN W v (enc d) → Calls Tryz.prog 10 #[.agg #[.int .i64 (ns.length : Int), .slice A1 ns.length c1, .slice A3 6 c3], v] W fun e w' => e = .returned (.tuple #[.int .i64 (q : Nat), .int .i64 0]) ∧ Below W.heap.size W w') := Lib.hid (fun d dok dl dq W v a b => by have t := impl_TruthSet_ok ns us d A1 A3 c1 c3 v W a hm b dok dl (mdN_okTS hm) ((isF_iff _).2 ⟨d, dok, rfl, dl⟩); rw [dq] at t; exact t)
      have HFL : Hid ((fpL (fpB f s)).length ≤ 1073741824) := Lib.hid (by have := fpL_len f s hlf; omega)
      have hs6 : s < us.length := by omega
      have HLU : Hid ((li us).length = 6) := Lib.hid (by rw [li_length]; exact hu6)
      clear hr hus hok hlf hc h1 h2 h3 hm e1 e2 e3 hfk hq
      generalize fpB f s = fb at *
      go_upto_region 4 with fail
      have hb := below_alloc' w1 (.cells #[.int .i64 (ns.length : Int), .slice A1 ns.length c1] 26)
      have T3 := Lib.hid (Bk.new w1 #[.int .i64 (ns.length : Int), .slice A1 ns.length c1] 26)
      replace S1 := Lib.hid (S1.out.below hb)
      replace S2 := Lib.hid (S2.out.below hb)
      replace S3 := Lib.hid (S3.out.below hb)
      replace A := Lib.hid (bthen A.out hb)
      clear hb
      generalize World.alloc w1 _ = w2 at *
      have T3s := T3.out.1
      have T3c := T3.out.2
      go_wp2_with fail
      clear T3s T3c
      refine (HSI.out _ S1.out S3.out S2.out).mono ?_
      rintro e w3 ⟨rfl, hb⟩
      replace S1 := Lib.hid (S1.out.below hb)
      replace S2 := Lib.hid (S2.out.below hb)
      replace S3 := Lib.hid (S3.out.below hb)
      replace T3 := Lib.hid (T3.out.below hb)
      replace A := Lib.hid (bthen A.out hb)
      clear hb
      have T3s := T3.out.1
      have T3c := T3.out.2
      go_wp2_with fail
      clear T3s T3c
      refine (HSS.out _ S1.out S3.out S2.out).mono ?_
      rintro e w4 ⟨rfl, hb⟩
      replace S1 := Lib.hid (S1.out.below hb)
      replace S2 := Lib.hid (S2.out.below hb)
      replace S3 := Lib.hid (S3.out.below hb)
      replace T3 := Lib.hid (T3.out.below hb)
      replace A := Lib.hid (bthen A.out hb)
      clear hb
      have T3s := T3.out.1
      have T3c := T3.out.2
      go_wp2_with fail
      clear T3s T3c
      refine (HCI.out _ S1.out S3.out S2.out).mono ?_
      rintro e w5 ⟨rfl, hb⟩
      replace S1 := Lib.hid (S1.out.below hb)
      replace S2 := Lib.hid (S2.out.below hb)
      replace S3 := Lib.hid (S3.out.below hb)
      replace T3 := Lib.hid (T3.out.below hb)
      replace A := Lib.hid (bthen A.out hb)
      clear hb
      have T3s := T3.out.1
      have T3c := T3.out.2
      go_wp2_with fail
      clear T3s T3c
      refine (HCS.out _ S1.out S3.out S2.out).mono ?_
      rintro e w6 ⟨rfl, hb⟩
      replace S1 := Lib.hid (S1.out.below hb)
      replace S2 := Lib.hid (S2.out.below hb)
      replace S3 := Lib.hid (S3.out.below hb)
      replace T3 := Lib.hid (T3.out.below hb)
      replace A := Lib.hid (bthen A.out hb)
      clear hb
      clear HSI HSS HCI HCS
      go_wp2_with (at_builtin; refine stopHere ?_)
      refine goHere ?_
      have hba := below_alloc' w6 (.cells #[] 2)
      have OE : Ow cI 2 w6.heap.size (World.alloc w6 (.cells #[] 2)) (.slice (some ⟨w6.heap.size, 0, none⟩) 0 0) [] := Ow.lit [] rfl rfl (Nat.le_refl _)
      refine ap_any (K := cI) _ ty_int64 rfl _ _ rfl (B := w6.heap.size) (v := .slice (some ⟨w6.heap.size, 0, none⟩) 0 0) (xs := []) rfl OE (news := li us) rfl HLU.out.symm (S3.out.below hba).rdA (by rw [HLU.out]; decide) hba.size ?_
      intro v1 w9 ho1 hg1 hb1 hat1
      rw [List.nil_append] at ho1
      have hbx : Below w6.heap.size w6 w9 := hba.trans hb1
      obtain ⟨gv, cv, rfl, gB, gl, -⟩ := ho1.form (by rw [HLU.out]; decide)
      rw [HLU.out] at ho1 ⊢
      have hmt : s < (li us).length := by rw [li_length]; exact hs6
      obtain ⟨c2v, f2v, -, -⟩ := ho1.at1 rfl hmt rfl
      have O9 := ho1.set1 (j := s) (x := (q : Int)) (u := .int .i64 (q : Int)) rfl rfl hmt
      have hbz := hbx.setCell (p := ⟨gv, s, none⟩) gB (.int .i64 (q : Int))
      rw [li_put] at O9
      have OV := Lib.hid O9.sl
      have HBZ := Lib.hid hbz
      clear hba OE hg1 hb1 hat1 hbx O9 hbz ho1
      go_upto_region 14 with fail
      generalize World.setCell w9 _ _ = w10 at *
      clear c2v f2v gB gl hmt
      replace S1 := Lib.hid (S1.out.below HBZ.out)
      replace S2 := Lib.hid (S2.out.below HBZ.out)
      replace S3 := Lib.hid (S3.out.below HBZ.out)
      replace T3 := Lib.hid (T3.out.below HBZ.out)
      replace A := Lib.hid (bthen A.out HBZ.out)
      clear HBZ
      have T3s := T3.out.1
      have T3c := T3.out.2
      go_wp2_with fail
      clear T3s T3c
      refine (HT.out _ _ _ ⟨S1.out, OV.out⟩ S2.out).mono ?_
      rintro e w11 ⟨rfl, hb⟩
      replace S1 := Lib.hid (S1.out.below hb)
      replace S2 := Lib.hid (S2.out.below hb)
      replace S3 := Lib.hid (S3.out.below hb)
      replace T3 := Lib.hid (T3.out.below hb)
      replace OV := Lib.hid (OV.out.below hb)
      replace A := Lib.hid (bthen A.out hb)
      clear hb
      clear HT OV
      rcases e4 with ⟨hc3, hl0⟩ | ⟨d, hc0, hld, dok, dl, dq⟩
      · rw [hc3, hl0] at HFI HFS
        rw [hl0] at HFL
        clear hc3 hl0 HP
        have T3s := T3.out.1
        have T3c := T3.out.2
        go_wp2_with fail
        clear T3s T3c
        refine (HFI.out _ _ S2.out).mono ?_
        rintro e w12 ⟨d5, rfl, O5, hb⟩
        replace S1 := Lib.hid (S1.out.below hb)
        replace S2 := Lib.hid (S2.out.below hb)
        replace S3 := Lib.hid (S3.out.below hb)
        replace T3 := Lib.hid (T3.out.below hb)
        replace A := Lib.hid (bthen A.out hb)
        clear hb
        obtain ⟨B5, b5, rfl⟩ := O5.opn
        have Q5 := Lib.hid O5.sl
        clear O5
        have T3s := T3.out.1
        have T3c := T3.out.2
        go_wp2_with fail
        clear T3s T3c
        refine (HFS.out _ _ S2.out).mono ?_
        rintro e w13 ⟨d6, rfl, O6, hb⟩
        replace S1 := Lib.hid (S1.out.below hb)
        replace S2 := Lib.hid (S2.out.below hb)
        replace S3 := Lib.hid (S3.out.below hb)
        replace T3 := Lib.hid (T3.out.below hb)
        replace Q5 := Lib.hid (Q5.out.below hb)
        replace A := Lib.hid (bthen A.out hb)
        clear hb
        obtain ⟨B6, b6, rfl⟩ := O6.opn
        have Q6 := Lib.hid O6.sl
        clear O6
        clear HFI HFS
        have HLF := Lib.hid (fun v u W a b => laws_likeFormula5 v u [] W a b HFL.out)
        go_wp2_with fail
        refine (HLF.out _ _ _ Q5.out Q6.out).mono ?_
        rintro e w14 ⟨rfl, hb⟩
        replace S1 := Lib.hid (S1.out.below hb)
        replace S2 := Lib.hid (S2.out.below hb)
        replace S3 := Lib.hid (S3.out.below hb)
        replace T3 := Lib.hid (T3.out.below hb)
        replace Q5 := Lib.hid (Q5.out.below hb)
        replace Q6 := Lib.hid (Q6.out.below hb)
        replace A := Lib.hid (bthen A.out hb)
        clear hb
        clear HLF
        go_wp2
        go_ret
        exact ⟨rfl, A.out⟩
      · rw [hc0, hld] at HFI HFS
        rw [hld] at HFL
        clear hc0 hld
        replace HP := Lib.hid (HP.out d dok dl dq)
        clear dok dl dq
        have T3s := T3.out.1
        have T3c := T3.out.2
        go_wp2_with fail
        clear T3s T3c
        refine (HFI.out _ _ S2.out).mono ?_
        rintro e w12 ⟨d5, rfl, O5, hb⟩
        replace S1 := Lib.hid (S1.out.below hb)
        replace S2 := Lib.hid (S2.out.below hb)
        replace S3 := Lib.hid (S3.out.below hb)
        replace T3 := Lib.hid (T3.out.below hb)
        replace A := Lib.hid (bthen A.out hb)
        clear hb
        obtain ⟨B5, b5, rfl⟩ := O5.opn
        have Q5 := Lib.hid O5.sl
        clear O5
        have T3s := T3.out.1
        have T3c := T3.out.2
        go_wp2_with fail
        clear T3s T3c
        refine (HFS.out _ _ S2.out).mono ?_
        rintro e w13 ⟨d6, rfl, O6, hb⟩
        replace S1 := Lib.hid (S1.out.below hb)
        replace S2 := Lib.hid (S2.out.below hb)
        replace S3 := Lib.hid (S3.out.below hb)
        replace T3 := Lib.hid (T3.out.below hb)
        replace Q5 := Lib.hid (Q5.out.below hb)
        replace A := Lib.hid (bthen A.out hb)
        clear hb
        obtain ⟨B6, b6, rfl⟩ := O6.opn
        have Q6 := Lib.hid O6.sl
        clear O6
        clear HFI HFS
        have HLF := Lib.hid (fun v u W a b => laws_likeFormula5 v u (enc d) W a b HFL.out)
        go_wp2_with fail
        refine (HLF.out _ _ _ Q5.out Q6.out).mono ?_
        rintro e w14 ⟨rfl, hb⟩
        replace S1 := Lib.hid (S1.out.below hb)
        replace S2 := Lib.hid (S2.out.below hb)
        replace S3 := Lib.hid (S3.out.below hb)
        replace T3 := Lib.hid (T3.out.below hb)
        replace Q5 := Lib.hid (Q5.out.below hb)
        replace Q6 := Lib.hid (Q6.out.below hb)
        replace A := Lib.hid (bthen A.out hb)
        clear hb
        clear HLF
        have T3s := T3.out.1
        have T3c := T3.out.2
        go_wp2_with fail
        clear T3s T3c
        refine (HP.out _ _ ⟨S1.out, S3.out⟩ Q6.out).mono ?_
        rintro e w15 ⟨rfl, hb⟩
        replace S1 := Lib.hid (S1.out.below hb)
        replace S2 := Lib.hid (S2.out.below hb)
        replace S3 := Lib.hid (S3.out.below hb)
        replace T3 := Lib.hid (T3.out.below hb)
        replace Q5 := Lib.hid (Q5.out.below hb)
        replace Q6 := Lib.hid (Q6.out.below hb)
        replace A := Lib.hid (bthen A.out hb)
        clear hb
        go_wp2
        go_ret
        exact ⟨by simp, A.out⟩
    · obtain ⟨k, hk⟩ : ∃ k, scode n L1 L3 L2 x = k := ⟨_, rfl⟩
      have hk12 := scode_vals n L1 L3 L2 x
      rw [hk] at hk12
      rw [hL3] at s3 ⊢
      have HL3 := Lib.hid hL3
      clear hL3
      have S1 := Lib.hid s1
      have S2 := Lib.hid s2
      have S3 := Lib.hid s3
      have HSI : Hid (∀ W, Sl cI W (.slice A1 L1.length c1) L1 → Sl cI W (.slice A3 6 c3) L3 → Sl cN W (.slice A2 L2.length c2) L2 → Calls Tryz.prog 6 #[.agg #[.int .i64 n, .slice A1 L1.length c1], .slice A2 L2.length c2, .int .i64 x, .slice A3 6 c3] W fun e w' => e = .returned (.tuple #[.int .i64 0, .int .i64 k]) ∧ Below W.heap.size W w') := Lib.hid (fun W a b c => hk ▸ impl_SolveOnFrame_bad n x _ _ _ L1 L3 L2 W a b c (by omega) (by have := HL3.out; omega) (by omega) hc)
      have HSS : Hid (∀ W, Sl cI W (.slice A1 L1.length c1) L1 → Sl cI W (.slice A3 6 c3) L3 → Sl cN W (.slice A2 L2.length c2) L2 → Calls Tryz.prog 7 #[.agg #[.int .i64 n, .slice A1 L1.length c1], .slice A2 L2.length c2, .int .i64 x, .slice A3 6 c3] W fun e w' => e = .returned (.tuple #[.int .i64 0, .int .i64 k]) ∧ Below W.heap.size W w') := Lib.hid (fun W a b c => hk ▸ spec_SolveOnFrame_bad n x _ _ _ L1 L3 L2 W a b c (by omega) (by have := HL3.out; omega) (by omega) hc)
      have HCI : Hid (∀ W, Sl cI W (.slice A1 L1.length c1) L1 → Sl cI W (.slice A3 6 c3) L3 → Sl cN W (.slice A2 L2.length c2) L2 → Calls Tryz.prog 8 #[.agg #[.int .i64 n, .slice A1 L1.length c1], .slice A2 L2.length c2, .int .i64 x, .slice A3 6 c3] W fun e w' => e = .returned (.tuple #[.int .i64 0, .int .i64 k]) ∧ Below W.heap.size W w') := Lib.hid (fun W a b c => hk ▸ impl_CountSolutions_bad n x _ _ _ L1 L3 L2 W a b c (by omega) (by have := HL3.out; omega) (by omega) hc)
      have HCS : Hid (∀ W, Sl cI W (.slice A1 L1.length c1) L1 → Sl cI W (.slice A3 6 c3) L3 → Sl cN W (.slice A2 L2.length c2) L2 → Calls Tryz.prog 9 #[.agg #[.int .i64 n, .slice A1 L1.length c1], .slice A2 L2.length c2, .int .i64 x, .slice A3 6 c3] W fun e w' => e = .returned (.tuple #[.int .i64 0, .int .i64 k]) ∧ Below W.heap.size W w') := Lib.hid (fun W a b c => hk ▸ spec_CountSolutions_bad n x _ _ _ L1 L3 L2 W a b c (by omega) (by have := HL3.out; omega) (by omega) hc)
      rw [hk] at hc
      clear s1 s2 s3 hL1 hL2 hk
      go_upto_region 4 with fail
      have hb := below_alloc' w1 (.cells #[.int .i64 n, .slice A1 L1.length c1] 26)
      have T3 := Lib.hid (Bk.new w1 #[.int .i64 n, .slice A1 L1.length c1] 26)
      replace S1 := Lib.hid (S1.out.below hb)
      replace S2 := Lib.hid (S2.out.below hb)
      replace S3 := Lib.hid (S3.out.below hb)
      replace A := Lib.hid (bthen A.out hb)
      clear hb
      generalize World.alloc w1 _ = w2 at *
      rcases hk12 with rfl | rfl | rfl
      · exact absurd rfl hc
      · clear hc
        have T3s := T3.out.1
        have T3c := T3.out.2
        go_wp2_with fail
        clear T3s T3c
        refine (HSI.out _ S1.out S3.out S2.out).mono ?_
        rintro e w3 ⟨rfl, hb⟩
        replace S1 := Lib.hid (S1.out.below hb)
        replace S2 := Lib.hid (S2.out.below hb)
        replace S3 := Lib.hid (S3.out.below hb)
        replace T3 := Lib.hid (T3.out.below hb)
        replace A := Lib.hid (bthen A.out hb)
        clear hb
        have T3s := T3.out.1
        have T3c := T3.out.2
        go_wp2_with fail
        clear T3s T3c
        refine (HSS.out _ S1.out S3.out S2.out).mono ?_
        rintro e w4 ⟨rfl, hb⟩
        replace S1 := Lib.hid (S1.out.below hb)
        replace S2 := Lib.hid (S2.out.below hb)
        replace S3 := Lib.hid (S3.out.below hb)
        replace T3 := Lib.hid (T3.out.below hb)
        replace A := Lib.hid (bthen A.out hb)
        clear hb
        have T3s := T3.out.1
        have T3c := T3.out.2
        go_wp2_with fail
        clear T3s T3c
        refine (HCI.out _ S1.out S3.out S2.out).mono ?_
        rintro e w5 ⟨rfl, hb⟩
        replace S1 := Lib.hid (S1.out.below hb)
        replace S2 := Lib.hid (S2.out.below hb)
        replace S3 := Lib.hid (S3.out.below hb)
        replace T3 := Lib.hid (T3.out.below hb)
        replace A := Lib.hid (bthen A.out hb)
        clear hb
        have T3s := T3.out.1
        have T3c := T3.out.2
        go_wp2_with fail
        clear T3s T3c
        refine (HCS.out _ S1.out S3.out S2.out).mono ?_
        rintro e w6 ⟨rfl, hb⟩
        replace S1 := Lib.hid (S1.out.below hb)
        replace S2 := Lib.hid (S2.out.below hb)
        replace S3 := Lib.hid (S3.out.below hb)
        replace T3 := Lib.hid (T3.out.below hb)
        replace A := Lib.hid (bthen A.out hb)
        clear hb
        clear HSI HSS HCI HCS
        go_wp2
        go_ret
        exact ⟨rfl, A.out⟩
      · clear hc
        have T3s := T3.out.1
        have T3c := T3.out.2
        go_wp2_with fail
        clear T3s T3c
        refine (HSI.out _ S1.out S3.out S2.out).mono ?_
        rintro e w3 ⟨rfl, hb⟩
        replace S1 := Lib.hid (S1.out.below hb)
        replace S2 := Lib.hid (S2.out.below hb)
        replace S3 := Lib.hid (S3.out.below hb)
        replace T3 := Lib.hid (T3.out.below hb)
        replace A := Lib.hid (bthen A.out hb)
        clear hb
        have T3s := T3.out.1
        have T3c := T3.out.2
        go_wp2_with fail
        clear T3s T3c
        refine (HSS.out _ S1.out S3.out S2.out).mono ?_
        rintro e w4 ⟨rfl, hb⟩
        replace S1 := Lib.hid (S1.out.below hb)
        replace S2 := Lib.hid (S2.out.below hb)
        replace S3 := Lib.hid (S3.out.below hb)
        replace T3 := Lib.hid (T3.out.below hb)
        replace A := Lib.hid (bthen A.out hb)
        clear hb
        have T3s := T3.out.1
        have T3c := T3.out.2
        go_wp2_with fail
        clear T3s T3c
        refine (HCI.out _ S1.out S3.out S2.out).mono ?_
        rintro e w5 ⟨rfl, hb⟩
        replace S1 := Lib.hid (S1.out.below hb)
        replace S2 := Lib.hid (S2.out.below hb)
        replace S3 := Lib.hid (S3.out.below hb)
        replace T3 := Lib.hid (T3.out.below hb)
        replace A := Lib.hid (bthen A.out hb)
        clear hb
        have T3s := T3.out.1
        have T3c := T3.out.2
        go_wp2_with fail
        clear T3s T3c
        refine (HCS.out _ S1.out S3.out S2.out).mono ?_
        rintro e w6 ⟨rfl, hb⟩
        replace S1 := Lib.hid (S1.out.below hb)
        replace S2 := Lib.hid (S2.out.below hb)
        replace S3 := Lib.hid (S3.out.below hb)
        replace T3 := Lib.hid (T3.out.below hb)
        replace A := Lib.hid (bthen A.out hb)
        clear hb
        clear HSI HSS HCI HCS
        go_wp2
        go_ret
        exact ⟨rfl, A.out⟩
end Go.Proofs.YtebpjcbgnagjeaaGreat
