/- Contracts of chapter 2: the parts of a formula, which share its memory. -/
import Derived.Test.Ytbejakkcdbhmaaa02b
namespace Go.Proofs.Ytbejakkcdbhmaaa
open Go.RowKit
set_option linter.unusedVariables false
set_option linter.unusedSimpArgs false
/-- a cut of a slice reads as the cut of its list -/
theorem Sl.cut {α : Type} {K : Cod α} {w : World} {A : Option Addr} {n c : Nat} {xs : List α} (h : Sl K w (.slice A n c) xs) {i j c' : Nat} (hij : i ≤ j) (hj : j ≤ xs.length) (hc : j - i ≤ c') (hm : c' ≤ 9223372036854775807) :
    Sl K w (.slice (A.map (·.add (i * K.size))) (j - i) c') ((xs.drop i).take (j - i)) := by
  obtain ⟨A', c0, hv, _, _, hr⟩ := h
  injection hv with hA _ _
  subst hA
  refine ⟨_, c', by rw [List.length_take, List.length_drop]; congr 1; omega, by simp; omega, hm, ?_⟩
  rw [flat_take, flat_drop]
  exact (hr.drop _).take _
/-- the same, address and length spelled as the walk spells them -/
theorem Sl.cutAt {α : Type} {K : Cod α} {w : World} {A A' : Option Addr} {n n' c : Nat} {xs : List α} (h : Sl K w (.slice A n c) xs) {i j c' : Nat} (hij : i ≤ j) (hj : j ≤ xs.length) (hn : n' = j - i)
    (hA' : ∀ b o, A = some ⟨b, o, none⟩ → A' = some ⟨b, o + i * K.size, none⟩) (hc : n' ≤ c') (hm : c' ≤ 9223372036854775807) :
    Sl K w (.slice A' n' c') ((xs.drop i).take (j - i)) := by
  obtain ⟨A0, c0, hv, _, _, hr⟩ := h
  injection hv with hA _ _
  subst hA
  have hl : ((xs.drop i).take (j - i)).length = n' := by simp; omega
  refine ⟨_, c', by rw [hl], by rw [hl]; exact hc, hm, ?_⟩
  rcases hr with hr | ⟨b, o, hA, hb, hcell⟩
  · left
    rw [flat_take, flat_drop, hr]
    simp
  · rw [hA' b o hA, flat_take, flat_drop]
    have := ((show Rd w A (flat K xs) from .inr ⟨b, o, hA, hb, hcell⟩).drop (i * K.size)).take ((j - i) * K.size)
    rw [hA] at this
    simpa [add_lit] using this
theorem Sl.cut0 {α : Type} {K : Cod α} {w : World} {A : Option Addr} {n c : Nat} {xs : List α} (h : Sl K w (.slice A n c) xs) {j c' : Nat} (hj : j ≤ xs.length) (hc : j ≤ c') (hm : c' ≤ 9223372036854775807) :
    Sl K w (.slice A j c') (xs.take j) := by
  obtain ⟨A', c0, hv, _, _, hr⟩ := h
  injection hv with hA _ _
  subst hA
  refine ⟨_, c', by rw [List.length_take]; congr 1; omega, by simp; omega, hm, ?_⟩
  rw [flat_take]
  exact hr.take _
theorem Sl.cap {α : Type} {K : Cod α} {w : World} {A : Option Addr} {n c : Nat} {xs : List α} (h : Sl K w (.slice A n c) xs) : n = xs.length ∧ xs.length ≤ c ∧ c ≤ 9223372036854775807 := by
  obtain ⟨A', c0, hv, h1, h2, _⟩ := h
  injection hv with _ hn hc
  subst hc
  exact ⟨hn, h1, h2⟩
/-- the empty list is read anywhere -/
theorem Sl.empty {α : Type} {K : Cod α} {w : World} (A : Option Addr) (c : Nat) (hm : c ≤ 9223372036854775807) : Sl K w (.slice A 0 c) ([] : List α) := ⟨A, c, rfl, Nat.zero_le _, hm, .inl rfl⟩
/-- the part at an index -/
theorem impl_part (v : Value) (xs : List Nd) (i j : Nat) (w : World) (h : Sl cN w v xs) (hl : xs.length ≤ 1048576) (hi : i < j) (hj : j ≤ xs.length) (hp : pe (xs.drop i) 1 i = j) :
    Calls Try.prog 251 #[v, .int .i64 i] w fun e w' => ∃ u, e = .returned u ∧ Sl cN w u ((xs.drop i).take (j - i)) ∧ w = w' := by
  obtain ⟨A, c, rfl⟩ := h.opn
  obtain ⟨-, hc, hm⟩ := h.cap
  have HP := Lib.hid hp; clear hp
  have HC := Lib.hid (h.cut (i := i) (j := j) (c' := j - i) (by omega) hj (Nat.le_refl _) (by omega))
  go_enter Try.func251, Try.ntmps251
  go_wp2_with fail
  refine (impl_partEnd _ xs i _ h (by omega) (by omega)).mono ?_
  rintro e w1 ⟨rfl, rfl⟩
  rw [HP.out]
  go_wp2_with fail
  refine (impl_partEnd _ xs i _ h (by omega) (by omega)).mono ?_
  rintro e w1 ⟨rfl, rfl⟩
  rw [HP.out]
  have hji : ¬ j = i := by omega
  go_wp2
  go_ret
  exact ⟨_, rfl, HC.out, rfl⟩
theorem take_enc (n : Nd) (f : Fm) (rest : List Nd) : ((n :: (enc f ++ rest)).drop 1).take (enc f).length = enc f := by simp
theorem take_enc2 (n : Nd) (f g : Fm) (rest : List Nd) : ((n :: (enc f ++ (enc g ++ rest))).drop ((enc f).length + 1)).take (enc g).length = enc g := by simp
theorem pe_first (n : Nd) (f : Fm) (rest : List Nd) : pe ((n :: (enc f ++ rest)).drop 1) 1 1 = ((1 + (enc f).length : Nat) : Int) := by
  rw [List.drop_succ_cons, List.drop_zero, pe_enc1]; omega
theorem pe_second (n : Nd) (f g : Fm) (rest : List Nd) : pe ((n :: (enc f ++ (enc g ++ rest))).drop (1 + (enc f).length)) 1 ((1 + (enc f).length : Nat) : Int) = ((1 + (enc f).length + (enc g).length : Nat) : Int) := by
  rw [Nat.add_comm 1, List.drop_succ_cons, List.drop_left, pe_enc1]; omega
theorem impl_first (v : Value) (n : Nd) (f : Fm) (rest : List Nd) (w : World) (h : Sl cN w v (n :: (enc f ++ rest))) (hl : (n :: (enc f ++ rest)).length ≤ 1048576) :
    Calls Try.prog 184 #[v] w fun e w' => ∃ u, e = .returned u ∧ Sl cN w u (enc f) ∧ w = w' := by
  have hp := impl_part v _ 1 (1 + (enc f).length) w h hl (by have := enc_pos f; omega) (by simp; omega) (pe_first n f rest)
  rw [Nat.add_sub_cancel_left, take_enc] at hp
  have HP := Lib.hid hp; clear hp
  go_enter Try.func184, Try.ntmps184
  go_wp2_with fail
  refine HP.out.mono ?_
  rintro e w1 ⟨u, rfl, hs, rfl⟩
  have HS := Lib.hid hs; clear hs
  go_wp2
  go_ret
  exact ⟨_, rfl, HS.out, rfl⟩
theorem impl_second (v : Value) (n : Nd) (f g : Fm) (rest : List Nd) (w : World) (h : Sl cN w v (n :: (enc f ++ (enc g ++ rest)))) (hl : (n :: (enc f ++ (enc g ++ rest))).length ≤ 1048576) :
    Calls Try.prog 185 #[v] w fun e w' => ∃ u, e = .returned u ∧ Sl cN w u (enc g) ∧ w = w' := by
  have hp := impl_part v _ (1 + (enc f).length) (1 + (enc f).length + (enc g).length) w h hl (by have := enc_pos g; omega) (by simp; omega) (pe_second n f g rest)
  rw [Nat.add_sub_cancel_left, Nat.add_comm 1 (enc f).length, take_enc2] at hp
  have HP := Lib.hid hp; clear hp
  have h1 := impl_partEnd v _ 1 w h (by omega) (by omega)
  rw [show ((1 : Nat) : Int) = 1 from rfl, pe_first n f (enc g ++ rest), Nat.add_comm 1 (enc f).length] at h1
  have H1 := Lib.hid h1; clear h1
  go_enter Try.func185, Try.ntmps185
  go_wp2_with fail
  refine H1.out.mono ?_
  rintro e w1 ⟨rfl, rfl⟩
  go_wp2_with fail
  refine HP.out.mono ?_
  rintro e w1 ⟨u, rfl, hs, rfl⟩
  have HS := Lib.hid hs; clear hs
  go_wp2
  go_ret
  exact ⟨_, rfl, HS.out, rfl⟩
theorem spec_l02Left (v : Value) (n : Nd) (f : Fm) (rest : List Nd) (w : World) (h : Sl cN w v (n :: (enc f ++ rest))) (hl : (n :: (enc f ++ rest)).length ≤ 1048576) :
    Calls Try.prog 163 #[v] w fun e w' => ∃ u, e = .returned u ∧ Sl cN w u (enc f) ∧ w = w' := by
  obtain ⟨A, c, rfl⟩ := h.opn
  obtain ⟨-, hc, hm⟩ := h.cap
  have hpos := enc_pos f
  have hlen : (n :: (enc f ++ rest)).length = 1 + (enc f).length + rest.length := by simp; omega
  have h2 := fun A' n' hn hA => h.cutAt (A' := A') (n' := n') (i := 1) (j := 1 + (enc f).length) (c' := c - 1) (by omega) (by omega) hn hA (by omega) (by omega)
  rw [Nat.add_sub_cancel_left, take_enc] at h2
  have H2 := Lib.hid h2; clear h2
  have h1 := spec_l02Part _ _ 1 w h (by omega) (by omega)
  rw [show ((1 : Nat) : Int) = 1 from rfl, pe_first n f rest] at h1
  have H1 := Lib.hid h1; clear h1
  generalize (n :: (enc f ++ rest)).length = L at *
  generalize hm' : (enc f).length = m at *
  have HM := Lib.hid hm'; clear hm'
  have HL := Lib.hid hlen
  have hL : 1 + m ≤ L := by omega
  clear hlen
  go_enter Try.func163, Try.ntmps163
  go_wp2_with fail
  refine H1.out.mono ?_
  rintro e w1 ⟨rfl, rfl⟩
  go_wp2
  go_ret
  exact ⟨_, rfl, H2.out _ _ (by omega) (fun b o hA => by subst hA; rfl), rfl⟩
theorem spec_l02Right (v : Value) (n : Nd) (f g : Fm) (w : World) (h : Sl cN w v (n :: (enc f ++ enc g))) (hl : (n :: (enc f ++ enc g)).length ≤ 1048576) :
    Calls Try.prog 162 #[v] w fun e w' => ∃ u, e = .returned u ∧ Sl cN w u (enc g) ∧ w = w' := by
  obtain ⟨A, c, rfl⟩ := h.opn
  obtain ⟨-, hc, hm⟩ := h.cap
  have hpos := enc_pos f
  have hpos2 := enc_pos g
  have hlen : (n :: (enc f ++ enc g)).length = 1 + (enc f).length + (enc g).length := by simp; omega
  have h2 := fun A' n' hn hA => h.cutAt (A' := A') (n' := n') (i := 1 + (enc f).length) (j := 1 + (enc f).length + (enc g).length) (c' := c - (1 + (enc f).length)) (by omega) (by omega) hn hA (by omega) (by omega)
  have e2 := take_enc2 n f g []
  rw [List.append_nil] at e2
  rw [Nat.add_sub_cancel_left, Nat.add_comm 1 (enc f).length, e2] at h2
  have H2 := Lib.hid h2; clear h2 e2
  have h1 := spec_l02Part _ _ 1 w h (by omega) (by omega)
  rw [show ((1 : Nat) : Int) = 1 from rfl, pe_first n f (enc g), Nat.add_comm 1] at h1
  have H1 := Lib.hid h1; clear h1
  generalize (n :: (enc f ++ enc g)).length = L at *
  generalize hm' : (enc f).length = m at *
  generalize hk' : (enc g).length = k at *
  have HM := Lib.hid hm'; clear hm'
  have HK := Lib.hid hk'; clear hk'
  have HL := Lib.hid hlen
  have hL : 1 + m + k ≤ L := by omega
  have hne : ¬ c = m + 1 := by omega
  clear hlen
  go_enter Try.func162, Try.ntmps162
  go_wp2_with fail
  refine H1.out.mono ?_
  rintro e w1 ⟨rfl, rfl⟩
  go_wp2
  go_ret
  exact ⟨_, rfl, H2.out _ _ (by have := HL.out; omega) (fun b o hA => by subst hA; rfl), rfl⟩
end Go.Proofs.Ytbejakkcdbhmaaa
