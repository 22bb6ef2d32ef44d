/- Contracts of ParseFormula, of the program and of the reference, by the relation of the readers; isText and l02Good. -/
import Derived.Test.Ytebpjcbgnagjeaa02Q
import Derived.Test.Ytebpjcbgnagjeaa02P
namespace Go.Proofs.Ytebpjcbgnagjeaa
open Go.RowKit
set_option linter.unusedVariables false
set_option linter.unusedSimpArgs false
theorem sR_all (s : ByteArray) (hs : s.size ≤ 1000) : ∀ n, (∀ i bad, mz s i bad ≤ n → RdC 53 45 s .pre i bad) ∧ ∀ i bad, mz s i bad ≤ n → RdC 25 45 s .imp i bad := by
  intro n
  induction n using Nat.strongRecOn with
  | ind n ih =>
    have hp := sR_pre s hs n (fun i bad hm => (ih _ hm).1 i bad (Nat.le_refl _)) (fun i bad hm => (ih _ hm).2 i bad (Nat.le_refl _))
    exact ⟨hp, sR_imp s hs n (sR_or s hs n (sR_and s hs n hp)) (fun i bad hm => (ih _ hm).2 i bad (Nat.le_refl _))⟩
theorem iR_all (s : ByteArray) (hs : s.size ≤ 1000) : ∀ n, (∀ i bad, mz s i bad ≤ n → RdC 54 55 s .pre i bad) ∧ ∀ i bad, mz s i bad ≤ n → RdC 31 55 s .imp i bad := by
  intro n
  induction n using Nat.strongRecOn with
  | ind n ih =>
    have hp := iR_pre s hs n (fun i bad hm => (ih _ hm).1 i bad (Nat.le_refl _)) (fun i bad hm => (ih _ hm).2 i bad (Nat.le_refl _))
    exact ⟨hp, iR_imp s hs n (iR_or s hs n (iR_and s hs n hp)) (fun i bad hm => (ih _ hm).2 i bad (Nat.le_refl _))⟩
/-- what reading a text to its end gives -/
def PfC (s : ByteArray) (w : World) (e : Ending) (w' : World) : Prop := ∃ (a : Fm) (j : Nat) (c : Bool), Rdf s .imp .fls 0 false a j c ∧ j ≤ s.size ∧
  (((c = true ∨ j < s.size) ∧ ∃ x : Int, e = .returned (.tuple #[.slice none 0 0, .int .i64 x, .int .i64 6])) ∨
   (c = false ∧ j = s.size ∧ 40 < (enc a).length ∧ e = .returned (.tuple #[.slice none 0 0, .int .i64 0, .int .i64 3])) ∨
   (c = false ∧ j = s.size ∧ (enc a).length ≤ 40 ∧ ∃ A k, e = .returned (.tuple #[.slice A (enc a).length k, .int .i64 0, .int .i64 0]) ∧ A ≠ none ∧ Sl cN w' (.slice A (enc a).length k) (enc a))) ∧ Below w.heap.size w w'
theorem enc_some {w : World} {B : Nat} {e : TypeId} {A : Option Addr} {n k : Nat} {a : Fm} (h : Ow cN e B w (.slice A n k) (enc a)) : A ≠ none := by
  obtain ⟨g, c, hv, -⟩ := h.form (enc_pos a)
  injection hv with hA
  rw [hA]
  exact Option.some_ne_none _
theorem impl_ParseFormula_long (s : ByteArray) (w : World) (hs : 200 < s.size) (hm : s.size ≤ 1048576) :
    Calls Try.prog 23 #[.string s] w fun e w' => e = .returned (.tuple #[.slice none 0 0, .int .i64 0, .int .i64 3]) ∧ Below w.heap.size w w' := by
  have A := Lib.hid (Below.refl w.heap.size w)
  go_enter Try.func23, Try.ntmps23
  go_wp2
  exact bodyPost_ret (v := .tuple #[.slice none 0 0, .int .i64 0, .int .i64 3]) (by simp [results, Try.results23, go_sem]) rfl ⟨rfl, A.out⟩
theorem spec_ParseFormula_long (s : ByteArray) (w : World) (hs : 200 < s.size) (hm : s.size ≤ 1048576) :
    Calls Try.prog 14 #[.string s] w fun e w' => e = .returned (.tuple #[.slice none 0 0, .int .i64 0, .int .i64 3]) ∧ Below w.heap.size w w' := by
  have A := Lib.hid (Below.refl w.heap.size w)
  go_enter Try.func14, Try.ntmps14
  go_wp2
  exact bodyPost_ret (v := .tuple #[.slice none 0 0, .int .i64 0, .int .i64 3]) (by simp [results, Try.results14, go_sem]) rfl ⟨rfl, A.out⟩
theorem impl_ParseFormula (s : ByteArray) (w : World) (hs : s.size ≤ 200) :
    Calls Try.prog 23 #[.string s] w fun e w' => PfC s w e w' := by
  have hb := below_alloc' w (.cells #[.string s, .int .i64 0, .bool false] 55)
  have hB := Blk.new w 55 #[.string s, .int .i64 0, .bool false]
  have HF := Lib.hid ((iR_all s (by omega) (mz s 0 false)).2 0 false (Nat.le_refl _) w.heap.size _ hB (Nat.zero_le _))
  have HB := Lib.hid hb
  clear hb hB
  go_enter Try.func23, Try.ntmps23
  go_wp2_with fail
  refine HF.out.mono ?_
  rintro e w1 ⟨u, a, j, c, rfl, hR, ho, hB, hG⟩
  have hj := hR.len.2.1 (Nat.zero_le _)
  have hL := hR.len1 rfl
  obtain ⟨A9, c9, hv9⟩ := ho.opn
  subst hv9
  have O := Lib.hid ho
  have HN := Lib.hid (enc_some ho)
  have BB := Lib.hid (below_grown HB.out hG HB.out.size (fun k e => by injection e; omega))
  have kr := hB.cell
  have fr := hB.frozen
  have lr := hB.lt
  have R := Lib.hid hR
  clear ho hB hG HB HF hR
  cases c with
  | true =>
    go_wp2
    go_quiet (fail)
    go_wp2
    exact bodyPost_ret (v := .tuple #[.slice none 0 0, .int .i64 (j : Int), .int .i64 6]) (by simp [results, Try.results23, go_sem]) rfl ⟨a, j, _, R.out, hj, .inl ⟨.inl rfl, _, rfl⟩, below_drewN BB.out _⟩
  | false =>
    by_cases hjs : j < s.size
    · go_wp2
      go_quiet (fail)
      go_wp2
      exact bodyPost_ret (v := .tuple #[.slice none 0 0, .int .i64 (j : Int), .int .i64 6]) (by simp [results, Try.results23, go_sem]) rfl ⟨a, j, _, R.out, hj, .inl ⟨.inr hjs, _, rfl⟩, below_drewN BB.out _⟩
    · obtain rfl : j = s.size := by omega
      by_cases h40 : 40 < (enc a).length
      · go_wp2
        exact bodyPost_ret (v := .tuple #[.slice none 0 0, .int .i64 0, .int .i64 3]) (by simp [results, Try.results23, go_sem]) rfl ⟨a, _, _, R.out, Nat.le_refl _, .inr (.inl ⟨rfl, rfl, h40, rfl⟩), BB.out⟩
      · go_wp2
        exact bodyPost_ret (v := .tuple #[.slice A9 (enc a).length c9, .int .i64 0, .int .i64 0]) (by simp [results, Try.results23, go_sem]) rfl ⟨a, _, _, R.out, Nat.le_refl _, .inr (.inr ⟨rfl, rfl, by omega, _, _, rfl, HN.out, O.out.sl⟩), BB.out⟩
/-- what l02Read gives -/
def RdE (s : ByteArray) (w : World) (e : Ending) (w' : World) : Prop := ∃ (a : Fm) (j : Nat) (c : Bool), Rdf s .imp .fls 0 false a j c ∧ j ≤ s.size ∧
  (((c = true ∨ j < s.size) ∧ e = .returned (.tuple #[.slice none 0 0, .int .i64 (j : Int)])) ∨
   (c = false ∧ j = s.size ∧ ∃ A k, e = .returned (.tuple #[.slice A (enc a).length k, .int .i64 (-1)]) ∧ A ≠ none ∧ Sl cN w' (.slice A (enc a).length k) (enc a))) ∧ Below w.heap.size w w'
theorem spec_l02Read (s : ByteArray) (w : World) (hs : s.size ≤ 200) :
    Calls Try.prog 20 #[.string s] w fun e w' => RdE s w e w' := by
  have hb := below_alloc' w (.cells #[.string s, .int .i64 0, .bool false] 45)
  have hB := Blk.new w 45 #[.string s, .int .i64 0, .bool false]
  have HF := Lib.hid ((sR_all s (by omega) (mz s 0 false)).2 0 false (Nat.le_refl _) w.heap.size _ hB (Nat.zero_le _))
  have HB := Lib.hid hb
  clear hb hB
  go_enter Try.func20, Try.ntmps20
  go_wp2_with fail
  refine HF.out.mono ?_
  rintro e w1 ⟨u, a, j, c, rfl, hR, ho, hB, hG⟩
  have hj := hR.len.2.1 (Nat.zero_le _)
  have hL := hR.len1 rfl
  obtain ⟨A9, c9, hv9⟩ := ho.opn
  subst hv9
  have O := Lib.hid ho
  have HN := Lib.hid (enc_some ho)
  have BB := Lib.hid (below_grown HB.out hG HB.out.size (fun k e => by injection e; omega))
  have kr := hB.cell
  have fr := hB.frozen
  have lr := hB.lt
  have R := Lib.hid hR
  clear ho hB hG HB HF hR
  cases c with
  | true =>
    go_wp2
    go_quiet (fail)
    go_wp2
    exact bodyPost_ret (v := .tuple #[.slice none 0 0, .int .i64 (j : Int)]) (by simp [results, Try.results20, go_sem]) rfl ⟨a, j, _, R.out, hj, .inl ⟨.inl rfl, rfl⟩, below_drewN BB.out _⟩
  | false =>
    by_cases hjs : j < s.size
    · go_wp2
      go_quiet (fail)
      go_wp2
      exact bodyPost_ret (v := .tuple #[.slice none 0 0, .int .i64 (j : Int)]) (by simp [results, Try.results20, go_sem]) rfl ⟨a, j, _, R.out, hj, .inl ⟨.inr hjs, rfl⟩, below_drewN BB.out _⟩
    · obtain rfl : j = s.size := by omega
      go_wp2
      exact bodyPost_ret (v := .tuple #[.slice A9 (enc a).length c9, .int .i64 (-1)]) (by simp [results, Try.results20, go_sem]) rfl ⟨a, _, _, R.out, Nat.le_refl _, .inr ⟨rfl, rfl, _, _, rfl, HN.out, O.out.sl⟩, BB.out⟩
theorem spec_ParseFormula (s : ByteArray) (w : World) (hs : s.size ≤ 200) :
    Calls Try.prog 14 #[.string s] w fun e w' => PfC s w e w' := by
  have HF := Lib.hid (spec_l02Read s w hs)
  go_enter Try.func14, Try.ntmps14
  go_wp2_with fail
  refine HF.out.mono ?_
  rintro e w1 ⟨a, j, c, hR, hj, hE, hb⟩
  have R := Lib.hid hR
  have BB := Lib.hid hb
  clear HF hR hb
  rcases hE with ⟨hc, rfl⟩ | ⟨rfl, rfl, A, k, rfl, hA, hS⟩
  · have HC := Lib.hid hc
    clear hc
    go_wp2
    exact bodyPost_ret (v := .tuple #[.slice none 0 0, .int .i64 (j : Int), .int .i64 6]) (by simp [results, Try.results14, go_sem]) rfl ⟨a, j, _, R.out, hj, .inl ⟨HC.out, _, rfl⟩, BB.out⟩
  · have HA := Lib.hid hA
    have S := Lib.hid hS
    clear hA hS
    by_cases h40 : 40 < (enc a).length
    · go_wp2
      exact bodyPost_ret (v := .tuple #[.slice none 0 0, .int .i64 0, .int .i64 3]) (by simp [results, Try.results14, go_sem]) rfl ⟨a, _, _, R.out, Nat.le_refl _, .inr (.inl ⟨rfl, rfl, h40, rfl⟩), BB.out⟩
    · go_wp2
      exact bodyPost_ret (v := .tuple #[.slice A (enc a).length k, .int .i64 0, .int .i64 0]) (by simp [results, Try.results14, go_sem]) rfl ⟨a, _, _, R.out, Nat.le_refl _, .inr (.inr ⟨rfl, rfl, by omega, _, _, rfl, HA.out, S.out⟩), BB.out⟩
theorem ba_ne {a b : ByteArray} (h : ¬ a = b) : ¬ a.toList = b.toList := by
  intro e
  apply h
  rw [Go.ByteArray.toList_eq, Go.ByteArray.toList_eq] at e
  obtain ⟨⟨a⟩⟩ := a
  obtain ⟨⟨b⟩⟩ := b
  simp at e
  rw [e]
/-- a text is that of a formula -/
def TX (s : ByteArray) : Prop := s.size ≤ 200 ∧ ∃ a : Fm, Rdf s .imp .fls 0 false a s.size false ∧ (enc a).length ≤ 40 ∧ txt a = s
theorem tx_no {s : ByteArray} {a : Fm} {j : Nat} {c : Bool} (h : Rdf s .imp .fls 0 false a j c) (hc : (c = true ∨ j < s.size) ∨ 40 < (enc a).length ∨ txt a ≠ s) : ¬ TX s := by
  rintro ⟨-, b, hb, hl, ht⟩
  obtain ⟨rfl, rfl, rfl⟩ := h.one hb
  rcases hc with (hc | hc) | hc | hc
  · cases hc
  · omega
  · omega
  · exact hc ht
theorem impl_parsed (s : ByteArray) (w : World) (hm : s.size ≤ 1048576) :
    Calls Try.prog 18 #[.string s] w fun e w' => ((e = .returned (.slice none 0 0) ∧ ¬ TX s) ∨ ∃ a A k, e = .returned (.slice A (enc a).length k) ∧ A ≠ none ∧ (enc a).length ≤ 40 ∧ a.ok = true ∧ Sl cN w' (.slice A (enc a).length k) (enc a) ∧ (TX s ↔ txt a = s)) ∧ Below w.heap.size w w' := by
  rcases Nat.lt_or_ge 200 s.size with h200 | h200
  · have HF := Lib.hid (impl_ParseFormula_long s w h200 hm)
    have HN : Hid (¬ TX s) := Lib.hid (fun h => by have := h.1; omega)
    clear h200
    go_enter Try.func18, Try.ntmps18
    go_wp2_with fail
    refine HF.out.mono ?_
    rintro e w1 ⟨rfl, hb⟩
    have BB := Lib.hid hb
    clear hb HF
    go_wp2
    go_ret
    exact ⟨.inl ⟨rfl, HN.out⟩, BB.out⟩
  · have HF := Lib.hid (impl_ParseFormula s w h200)
    go_enter Try.func18, Try.ntmps18
    go_wp2_with fail
    refine HF.out.mono ?_
    rintro e w1 ⟨a, j, c, hR, hj, hE, hb⟩
    have R := Lib.hid hR
    have BB := Lib.hid hb
    clear HF hR hb
    rcases hE with ⟨hc, x, rfl⟩ | ⟨rfl, rfl, h40, rfl⟩ | ⟨rfl, rfl, h40, A, k, rfl, hA, hS⟩
    · have HN := Lib.hid (tx_no R.out (.inl hc))
      clear hc
      go_wp2
      go_ret
      exact ⟨.inl ⟨rfl, HN.out⟩, BB.out⟩
    · have HN := Lib.hid (tx_no R.out (.inr (.inl h40)))
      clear h40
      go_wp2
      go_ret
      exact ⟨.inl ⟨rfl, HN.out⟩, BB.out⟩
    · have HI : Hid (TX s ↔ txt a = s) := Lib.hid ⟨fun h => Classical.byContradiction fun hn => tx_no R.out (.inr (.inr hn)) h, fun h => ⟨h200, a, R.out, h40, h⟩⟩
      have HA := Lib.hid hA
      have S := Lib.hid hS
      clear hA hS
      go_wp2
      go_ret
      exact ⟨.inr ⟨a, _, _, rfl, HA.out, h40, R.out.good (fun h => by cases h), S.out, HI.out⟩, BB.out⟩
theorem impl_isText (s : ByteArray) (b : Bool) (hb : b = true ↔ TX s) (w : World) (hm : s.size ≤ 1048576) :
    Calls Try.prog 13 #[.string s] w fun e w' => e = .returned (.bool b) ∧ Below w.heap.size w w' := by
  have HF := Lib.hid (impl_parsed s w hm)
  go_enter Try.func13, Try.ntmps13
  go_wp2_with fail
  refine HF.out.mono ?_
  rintro e w1 ⟨hE, hbb⟩
  have BB := Lib.hid hbb
  clear HF hbb
  rcases hE with ⟨rfl, hn⟩ | ⟨a, A, k, rfl, hA, h40, hok, hS, hI⟩
  · obtain rfl : b = false := by cases b with | false => rfl | true => exact absurd (hb.1 rfl) hn
    clear hb hn
    go_wp2
    go_ret
    exact ⟨rfl, BB.out⟩
  · have HT := Lib.hid (impl_text a _ _ hS (by omega) hok)
    have HI := Lib.hid hI
    have HB := Lib.hid hb
    obtain ⟨q, rfl⟩ := Option.ne_none_iff_exists'.1 hA
    clear hA hS hok hI hb
    go_wp2_with fail
    refine HT.out.mono ?_
    rintro e w2 ⟨rfl, m, rfl⟩
    clear HT
    by_cases ht : txt a = s
    · obtain rfl : b = true := HB.out.2 (HI.out.2 ht)
      clear HB HI
      go_wp2
      go_ret
      exact ⟨by simp [ht], below_drewN BB.out _⟩
    · obtain rfl : b = false := by cases b with | false => rfl | true => exact absurd (HI.out.1 (HB.out.1 rfl)) ht
      clear HB HI
      have hne := ba_ne ht
      go_wp2
      go_ret
      exact ⟨by simp [hne], below_drewN BB.out _⟩
theorem spec_l02Good (s : ByteArray) (b : Bool) (hb : b = true ↔ TX s) (w : World) (hm : s.size ≤ 1048576) :
    Calls Try.prog 11 #[.string s] w fun e w' => ∃ u, e = .returned (.tuple #[u, .bool b]) ∧ Below w.heap.size w w' := by
  rcases Nat.lt_or_ge 200 s.size with h200 | h200
  · have HF := Lib.hid (spec_ParseFormula_long s w h200 hm)
    obtain rfl : b = false := by cases b with | false => rfl | true => (have := (hb.1 rfl).1; omega)
    clear h200 hb
    go_enter Try.func11, Try.ntmps11
    go_wp2_with fail
    refine HF.out.mono ?_
    rintro e w1 ⟨rfl, hbb⟩
    have BB := Lib.hid hbb
    clear hbb HF
    go_wp2
    exact bodyPost_ret (v := .tuple #[.slice none 0 0, .bool false]) (by simp [results, Try.results11, go_sem]) rfl ⟨_, rfl, BB.out⟩
  · have HF := Lib.hid (spec_ParseFormula s w h200)
    go_enter Try.func11, Try.ntmps11
    go_wp2_with fail
    refine HF.out.mono ?_
    rintro e w1 ⟨a, j, c, hR, hj, hE, hbb⟩
    have R := Lib.hid hR
    have BB := Lib.hid hbb
    clear HF hR hbb
    rcases hE with ⟨hc, x, rfl⟩ | ⟨rfl, rfl, h40, rfl⟩ | ⟨rfl, rfl, h40, A, k, rfl, hA, hS⟩
    · have hn := tx_no R.out (.inl hc)
      obtain rfl : b = false := by cases b with | false => rfl | true => exact absurd (hb.1 rfl) hn
      clear hc hn hb
      go_wp2
      exact bodyPost_ret (v := .tuple #[.slice none 0 0, .bool false]) (by simp [results, Try.results11, go_sem]) rfl ⟨_, rfl, BB.out⟩
    · have hn := tx_no R.out (.inr (.inl h40))
      obtain rfl : b = false := by cases b with | false => rfl | true => exact absurd (hb.1 rfl) hn
      clear h40 hn hb
      go_wp2
      exact bodyPost_ret (v := .tuple #[.slice none 0 0, .bool false]) (by simp [results, Try.results11, go_sem]) rfl ⟨_, rfl, BB.out⟩
    · have HI : Hid (TX s ↔ txt a = s) := Lib.hid ⟨fun h => Classical.byContradiction fun hn => tx_no R.out (.inr (.inr hn)) h, fun h => ⟨h200, a, R.out, h40, h⟩⟩
      have HT := Lib.hid (spec_l02Text a _ _ hS (by omega) (R.out.good (fun h => by cases h)))
      have HB := Lib.hid hb
      clear hA hS hb
      go_wp2_with fail
      refine HT.out.mono ?_
      rintro e w2 ⟨rfl, hb2⟩
      replace BB := Lib.hid (bthen BB.out hb2)
      clear HT hb2
      by_cases ht : txt a = s
      · obtain rfl : b = true := HB.out.2 (HI.out.2 ht)
        clear HB HI
        go_wp2
        exact bodyPost_ret (v := .tuple #[.slice A (enc a).length k, .bool true]) (by simp [results, Try.results11, go_sem, ht]) rfl ⟨_, rfl, BB.out⟩
      · obtain rfl : b = false := by cases b with | false => rfl | true => exact absurd (HI.out.1 (HB.out.1 rfl)) ht
        clear HB HI
        have hne := ba_ne ht
        go_wp2
        exact bodyPost_ret (v := .tuple #[.slice A (enc a).length k, .bool false]) (by simp [results, Try.results11, go_sem, hne]) rfl ⟨_, rfl, BB.out⟩
end Go.Proofs.Ytebpjcbgnagjeaa
