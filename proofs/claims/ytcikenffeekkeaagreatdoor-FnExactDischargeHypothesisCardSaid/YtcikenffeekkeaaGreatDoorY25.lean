/- The readers of formulas' texts once more: what they give is the call's own; and at the text of a formula. Written by gen12P.py. -/
import Derived.Test.YtcikenffeekkeaaGreatDoorY22
import Derived.Test.YtcikenffeekkeaaGreatDoorY24
namespace Go.Proofs.YtcikenffeekkeaaGreatDoor
open Go.RowKit
set_option linter.unusedVariables false
set_option linter.unusedSimpArgs false
/-- what reading a text to its end gives -/
def PfO (s : ByteArray) (w : World) (e : Ending) (w' : World) : Prop := ∃ (a : Fm) (j : Nat) (c : Bool), Rdf s .imp .fls 0 false a j c ∧ j ≤ s.size ∧
  (((c = true ∨ j < s.size) ∧ ∃ x : Int, e = .returned (.tuple #[.slice none 0 0, .int .i64 x, .int .i64 6])) ∨
   (c = false ∧ j = s.size ∧ 40 < (enc a).length ∧ e = .returned (.tuple #[.slice none 0 0, .int .i64 0, .int .i64 3])) ∨
   (c = false ∧ j = s.size ∧ (enc a).length ≤ 40 ∧ ∃ A k, e = .returned (.tuple #[.slice A (enc a).length k, .int .i64 0, .int .i64 0]) ∧ A ≠ none ∧ Ow cN 75 w.heap.size w' (.slice A (enc a).length k) (enc a))) ∧ Below w.heap.size w w'
/-- what l02Read gives -/
def RdO (s : ByteArray) (w : World) (e : Ending) (w' : World) : Prop := ∃ (a : Fm) (j : Nat) (c : Bool), Rdf s .imp .fls 0 false a j c ∧ j ≤ s.size ∧
  (((c = true ∨ j < s.size) ∧ e = .returned (.tuple #[.slice none 0 0, .int .i64 (j : Int)])) ∨
   (c = false ∧ j = s.size ∧ ∃ A k, e = .returned (.tuple #[.slice A (enc a).length k, .int .i64 (-1)]) ∧ A ≠ none ∧ Ow cN 75 w.heap.size w' (.slice A (enc a).length k) (enc a))) ∧ Below w.heap.size w w'
theorem impl_ParseFormulaO (s : ByteArray) (w : World) (hs : s.size ≤ 200) :
    Calls Tryz.prog 134 #[.string s] w fun e w' => PfO s w e w' := by
  have hb := below_alloc' w (.cells #[.string s, .int .i64 0, .bool false] 168)
  have hB := Blk.new w 168 #[.string s, .int .i64 0, .bool false]
  have HF := Lib.hid ((iR_all s (by omega) (mz s 0 false)).2 0 false (Nat.le_refl _) w.heap.size _ hB (Nat.zero_le _))
  have HB := Lib.hid hb
  clear hb hB
  go_enter Tryz.func134, Tryz.ntmps134
  go_wp2_with fail
  refine HF.out.mono ?_
  rintro e w1 ⟨u, a, j, c, rfl, hR, ho, hB, hG⟩
  have hj := hR.len.2.1 (Nat.zero_le _)
  have hL := hR.len1 rfl
  obtain ⟨A9, c9, hv9⟩ := ho.opn
  subst hv9
  have O := Lib.hid ho
  have HN := Lib.hid (enc_some ho)
  have BB := Lib.hid (below_grown HB.out hG HB.out.size (fun k e => by injection e; omega))
  have kr := hB.cell
  have fr := hB.frozen
  have lr := hB.lt
  have R := Lib.hid hR
  clear ho hB hG HB HF hR
  cases c with
  | true =>
    go_wp2
    go_quiet (fail)
    go_wp2
    exact bodyPost_ret (v := .tuple #[.slice none 0 0, .int .i64 (j : Int), .int .i64 6]) (by simp [results, Tryz.results134, go_sem]) rfl ⟨a, j, _, R.out, hj, .inl ⟨.inl rfl, _, rfl⟩, below_drewN BB.out _⟩
  | false =>
    by_cases hjs : j < s.size
    · go_wp2
      go_quiet (fail)
      go_wp2
      exact bodyPost_ret (v := .tuple #[.slice none 0 0, .int .i64 (j : Int), .int .i64 6]) (by simp [results, Tryz.results134, go_sem]) rfl ⟨a, j, _, R.out, hj, .inl ⟨.inr hjs, _, rfl⟩, below_drewN BB.out _⟩
    · obtain rfl : j = s.size := by omega
      by_cases h40 : 40 < (enc a).length
      · go_wp2
        exact bodyPost_ret (v := .tuple #[.slice none 0 0, .int .i64 0, .int .i64 3]) (by simp [results, Tryz.results134, go_sem]) rfl ⟨a, _, _, R.out, Nat.le_refl _, .inr (.inl ⟨rfl, rfl, h40, rfl⟩), BB.out⟩
      · go_wp2
        exact bodyPost_ret (v := .tuple #[.slice A9 (enc a).length c9, .int .i64 0, .int .i64 0]) (by simp [results, Tryz.results134, go_sem]) rfl ⟨a, _, _, R.out, Nat.le_refl _, .inr (.inr ⟨rfl, rfl, by omega, _, _, rfl, HN.out, O.out.mono (by simp)⟩), BB.out⟩
theorem spec_l02ReadO (s : ByteArray) (w : World) (hs : s.size ≤ 200) :
    Calls Tryz.prog 132 #[.string s] w fun e w' => RdO s w e w' := by
  have hb := below_alloc' w (.cells #[.string s, .int .i64 0, .bool false] 163)
  have hB := Blk.new w 163 #[.string s, .int .i64 0, .bool false]
  have HF := Lib.hid ((sR_all s (by omega) (mz s 0 false)).2 0 false (Nat.le_refl _) w.heap.size _ hB (Nat.zero_le _))
  have HB := Lib.hid hb
  clear hb hB
  go_enter Tryz.func132, Tryz.ntmps132
  go_wp2_with fail
  refine HF.out.mono ?_
  rintro e w1 ⟨u, a, j, c, rfl, hR, ho, hB, hG⟩
  have hj := hR.len.2.1 (Nat.zero_le _)
  have hL := hR.len1 rfl
  obtain ⟨A9, c9, hv9⟩ := ho.opn
  subst hv9
  have O := Lib.hid ho
  have HN := Lib.hid (enc_some ho)
  have BB := Lib.hid (below_grown HB.out hG HB.out.size (fun k e => by injection e; omega))
  have kr := hB.cell
  have fr := hB.frozen
  have lr := hB.lt
  have R := Lib.hid hR
  clear ho hB hG HB HF hR
  cases c with
  | true =>
    go_wp2
    go_quiet (fail)
    go_wp2
    exact bodyPost_ret (v := .tuple #[.slice none 0 0, .int .i64 (j : Int)]) (by simp [results, Tryz.results132, go_sem]) rfl ⟨a, j, _, R.out, hj, .inl ⟨.inl rfl, rfl⟩, below_drewN BB.out _⟩
  | false =>
    by_cases hjs : j < s.size
    · go_wp2
      go_quiet (fail)
      go_wp2
      exact bodyPost_ret (v := .tuple #[.slice none 0 0, .int .i64 (j : Int)]) (by simp [results, Tryz.results132, go_sem]) rfl ⟨a, j, _, R.out, hj, .inl ⟨.inr hjs, rfl⟩, below_drewN BB.out _⟩
    · obtain rfl : j = s.size := by omega
      go_wp2
      exact bodyPost_ret (v := .tuple #[.slice A9 (enc a).length c9, .int .i64 (-1)]) (by simp [results, Tryz.results132, go_sem]) rfl ⟨a, _, _, R.out, Nat.le_refl _, .inr ⟨rfl, rfl, _, _, rfl, HN.out, O.out.mono (by simp)⟩, BB.out⟩
theorem spec_ParseFormulaO (s : ByteArray) (w : World) (hs : s.size ≤ 200) :
    Calls Tryz.prog 121 #[.string s] w fun e w' => PfO s w e w' := by
  have HF := Lib.hid (spec_l02ReadO s w hs)
  go_enter Tryz.func121, Tryz.ntmps121
  go_wp2_with fail
  refine HF.out.mono ?_
  rintro e w1 ⟨a, j, c, hR, hj, hE, hb⟩
  have R := Lib.hid hR
  have BB := Lib.hid hb
  clear HF hR hb
  rcases hE with ⟨hc, rfl⟩ | ⟨rfl, rfl, A, k, rfl, hA, hS⟩
  · have HC := Lib.hid hc
    clear hc
    go_wp2
    exact bodyPost_ret (v := .tuple #[.slice none 0 0, .int .i64 (j : Int), .int .i64 6]) (by simp [results, Tryz.results121, go_sem]) rfl ⟨a, j, _, R.out, hj, .inl ⟨HC.out, _, rfl⟩, BB.out⟩
  · have HA := Lib.hid hA
    have S := Lib.hid hS
    clear hA hS
    by_cases h40 : 40 < (enc a).length
    · go_wp2
      exact bodyPost_ret (v := .tuple #[.slice none 0 0, .int .i64 0, .int .i64 3]) (by simp [results, Tryz.results121, go_sem]) rfl ⟨a, _, _, R.out, Nat.le_refl _, .inr (.inl ⟨rfl, rfl, h40, rfl⟩), BB.out⟩
    · go_wp2
      exact bodyPost_ret (v := .tuple #[.slice A (enc a).length k, .int .i64 0, .int .i64 0]) (by simp [results, Tryz.results121, go_sem]) rfl ⟨a, _, _, R.out, Nat.le_refl _, .inr (.inr ⟨rfl, rfl, by omega, _, _, rfl, HA.out, S.out⟩), BB.out⟩
theorem tx_self {f : Fm} (hok : f.ok = true) (hl : (enc f).length ≤ 40) : TX (txt f) := ⟨by have := txt_120 f; omega, f, txt_read f hok, hl, rfl⟩
theorem impl_parsedG (f : Fm) (w : World) (hok : f.ok = true) (hl : (enc f).length ≤ 40) :
    Calls Tryz.prog 125 #[.string (txt f)] w fun e w' => ∃ A k, e = .returned (.slice A (enc f).length k) ∧ Ow cN 75 w.heap.size w' (.slice A (enc f).length k) (enc f) ∧ Below w.heap.size w w' := by
  have hT := tx_self hok hl
  have HF := Lib.hid (impl_ParseFormulaO (txt f) w hT.1)
  have HT := Lib.hid hT
  clear hT
  go_enter Tryz.func125, Tryz.ntmps125
  go_wp2_with fail
  refine HF.out.mono ?_
  rintro e w1 ⟨a, j, c, hR, hj, hE, hb⟩
  have R := Lib.hid hR
  have BB := Lib.hid hb
  clear HF hR hb
  rcases hE with ⟨hc, x, rfl⟩ | ⟨rfl, rfl, h40, rfl⟩ | ⟨rfl, rfl, h40, A, k, rfl, hA, hS⟩
  · exact absurd HT.out (tx_no R.out (.inl hc))
  · exact absurd HT.out (tx_no R.out (.inr (.inl h40)))
  · have hta : txt a = txt f := Classical.byContradiction fun hn => tx_no R.out (.inr (.inr hn)) HT.out
    have haf : a = f := txt_inj (R.out.good (fun h => by cases h)) hok hta
    subst haf
    have S := Lib.hid hS
    clear hA hS hta
    go_wp2
    go_ret
    exact ⟨_, _, rfl, S.out, BB.out⟩
theorem spec_l02GoodG (f : Fm) (w : World) (hok : f.ok = true) (hl : (enc f).length ≤ 40) :
    Calls Tryz.prog 103 #[.string (txt f)] w fun e w' => ∃ A k, e = .returned (.tuple #[.slice A (enc f).length k, .bool true]) ∧ Ow cN 75 w.heap.size w' (.slice A (enc f).length k) (enc f) ∧ Below w.heap.size w w' := by
  have hT := tx_self hok hl
  have HF := Lib.hid (spec_ParseFormulaO (txt f) w hT.1)
  have HT := Lib.hid hT
  clear hT
  go_enter Tryz.func103, Tryz.ntmps103
  go_wp2_with fail
  refine HF.out.mono ?_
  rintro e w1 ⟨a, j, c, hR, hj, hE, hbb⟩
  have R := Lib.hid hR
  have BB := Lib.hid hbb
  clear HF hR hbb
  rcases hE with ⟨hc, x, rfl⟩ | ⟨rfl, rfl, h40, rfl⟩ | ⟨rfl, rfl, h40, A, k, rfl, hA, hS⟩
  · exact absurd HT.out (tx_no R.out (.inl hc))
  · exact absurd HT.out (tx_no R.out (.inr (.inl h40)))
  · have hta : txt a = txt f := Classical.byContradiction fun hn => tx_no R.out (.inr (.inr hn)) HT.out
    have haf : a = f := txt_inj (R.out.good (fun h => by cases h)) hok hta
    subst haf
    have HX := Lib.hid (spec_l02Text a _ _ hS.sl (by omega) hok)
    have S := Lib.hid hS
    clear hA hS hta
    go_wp2_with fail
    refine HX.out.mono ?_
    rintro e w2 ⟨rfl, hb2⟩
    replace BB := Lib.hid (bthen BB.out hb2)
    have S2 := Lib.hid (S.out.below hb2)
    clear HX hb2 S
    go_wp2
    exact bodyPost_ret (v := .tuple #[.slice A (enc a).length k, .bool true]) (by simp [results, Tryz.results103, go_sem]) rfl ⟨_, _, rfl, S2.out, BB.out⟩
end Go.Proofs.YtcikenffeekkeaaGreatDoor
