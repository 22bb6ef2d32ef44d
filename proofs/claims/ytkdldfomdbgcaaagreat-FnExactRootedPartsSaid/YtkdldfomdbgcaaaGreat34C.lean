/- The order of two lists of numbers: cmp.Compare and slices.Compare at int64. Written by gen34C.py. -/
import Derived.Test.YtkdldfomdbgcaaaGreat05R
namespace Go.Proofs.YtkdldfomdbgcaaaGreat
open Go.RowKit
set_option linter.unusedVariables false
set_option linter.unusedSimpArgs false
theorem li_at4 {w : World} {A : Option Addr} {n c : Nat} {X : List Nat} (h : Sl cI w (.slice A n c) (li X)) {k : Nat} (hk : k < X.length) :
    ∃ b o, A = some ⟨b, o, none⟩ ∧ b < w.heap.size ∧ w.cell? ⟨b, o + k, none⟩ = some (.int .i64 (X[k] : Nat)) := by
  obtain ⟨b, o, e, hb, hc⟩ := h.atI (k := k) (by rw [li_length]; exact hk)
  rw [li_get, show X.getD k 0 = X[k] by simp [List.getD_eq_getElem?_getD, hk]] at hc
  exact ⟨b, o, e, hb, hc⟩
/-- the order of two lists of numbers -/
def cml : List Nat → List Nat → Int
  | [], [] => 0
  | [], _ :: _ => -1
  | _ :: _, [] => 1
  | x :: a, y :: b => if x < y then -1 else if y < x then 1 else cml a b
theorem cml_refl : ∀ a, cml a a = 0
  | [] => rfl
  | x :: a => by rw [cml, if_neg (by omega), if_neg (by omega), cml_refl a]
theorem cml_drop (a b : List Nat) (j : Nat) (ha : j < a.length) (hb : j < b.length) : cml (a.drop j) (b.drop j) = if a.getD j 0 < b.getD j 0 then -1 else if b.getD j 0 < a.getD j 0 then 1 else cml (a.drop (j + 1)) (b.drop (j + 1)) := by
  rw [List.drop_eq_getElem_cons ha, List.drop_eq_getElem_cons hb, cml]
  simp [List.getD_eq_getElem?_getD, ha, hb]
theorem cmp_isNaN_int64 (x : Int) (w : World) : Calls Tryz.prog 133 #[.int .i64 x] w fun e w' => e = .returned (.bool false) ∧ w = w' := by
  go_enter Tryz.func133, Tryz.ntmps133
  go_wp2
  go_ret
  exact ⟨by simp, rfl⟩
theorem cmp_Compare_int64 (x y : Nat) (w : World) :
    Calls Tryz.prog 88 #[.int .i64 x, .int .i64 y] w fun e w' => e = .returned (.int .i64 (if x < y then -1 else if y < x then 1 else 0)) ∧ w = w' := by
  have HN := Lib.hid (fun (z : Int) (W : World) => cmp_isNaN_int64 z W)
  obtain ⟨r, hr⟩ : ∃ r, (if x < y then (-1 : Int) else if y < x then 1 else 0) = r := ⟨_, rfl⟩
  rw [hr]
  have HR := Lib.hid hr
  clear hr
  have hc : (x < y ∧ ¬ y < x) ∨ (¬ x < y ∧ y < x) ∨ (¬ x < y ∧ ¬ y < x) := by omega
  rcases hc with ⟨h1, h2⟩ | ⟨h1, h2⟩ | ⟨h1, h2⟩
  all_goals
    have h3 := HR.out
    first | rw [if_pos h1] at h3 | (rw [if_neg h1] at h3; first | rw [if_pos h2] at h3 | rw [if_neg h2] at h3)
    subst h3
    clear HR
    have h1' : decide ((x : Int) < (y : Int)) = decide (x < y) := by simp
    have h2' : decide ((y : Int) < (x : Int)) = decide (y < x) := by simp
    first | rw [decide_eq_true h1] at h1' | rw [decide_eq_false h1] at h1'
    first | rw [decide_eq_true h2] at h2' | rw [decide_eq_false h2] at h2'
    go_enter Tryz.func88, Tryz.ntmps88
    go_wp2_with fail
    refine (HN.out _ _).mono ?_
    rintro e w2 ⟨rfl, rfl⟩
    go_wp2_with fail
    refine (HN.out _ _).mono ?_
    rintro e w2 ⟨rfl, rfl⟩
    go_wp2
    go_ret
    exact ⟨rfl, rfl⟩
set_option maxRecDepth 100000 in
theorem slices_Compare_int64 (xs ys : List Nat) (v u : Value) (w : World) (hx : Sl cI w v (li xs)) (hy : Sl cI w u (li ys)) (hl : xs.length ≤ 1000) (hl2 : ys.length ≤ 1000) :
    Calls Tryz.prog 83 #[v, u] w fun e w' => e = .returned (.int .i64 (cml xs ys)) ∧ w = w' := by
  obtain ⟨A, c, rfl⟩ := hx.opn
  obtain ⟨B, d, rfl⟩ := hy.opn
  rw [li_length] at hx ⊢
  rw [li_length] at hy ⊢
  have HX := Lib.hid hx
  have HY := Lib.hid hy
  have H0 : Hid (cml xs ys = cml (xs.drop 0) (ys.drop 0)) := Lib.hid rfl
  have HD := Lib.hid (cml_drop xs ys)
  have HA : Hid (∀ j, xs.length ≤ j → j < ys.length → cml (xs.drop j) (ys.drop j) = -1) := Lib.hid fun j h1 h2 => by
    rw [List.drop_eq_nil_of_le h1, List.drop_eq_getElem_cons h2]; rfl
  have HC : Hid (∀ j, xs.length ≤ j → ys.length ≤ j → cml (xs.drop j) (ys.drop j) = 0) := Lib.hid fun j h1 h2 => by
    rw [List.drop_eq_nil_of_le h1, List.drop_eq_nil_of_le h2]; rfl
  have HE : Hid (∀ j, j < xs.length → ys.length ≤ j → cml (xs.drop j) (ys.drop j) = 1) := Lib.hid fun j h1 h2 => by
    rw [List.drop_eq_nil_of_le h2, List.drop_eq_getElem_cons h1]; rfl
  clear hx hy
  generalize cml xs ys = res at *
  go_enter Tryz.func83, Tryz.ntmps83
  go_wp2
  go_loop [5, 6, 7, 8, 11] (fun _ _ _ _ i => ∃ j : Nat, j ≤ xs.length ∧ i = .int .i64 j ∧ res = cml (xs.drop j) (ys.drop j)) (fun _ _ _ _ i => xs.length - (intOf i).toNat)
  case atStart => exact ⟨0, Nat.zero_le _, rfl, H0.out⟩
  case round =>
    obtain ⟨j, hj, rfl, hr⟩ := hrel
    have HR := Lib.hid hr
    clear hr H0
    by_cases hlt : j < xs.length
    · have hx := HX.out
      obtain ⟨b1, o1, e1, hb1, hc1⟩ := li_at4 hx hlt
      subst e1
      by_cases hlt2 : j < ys.length
      · have hy := HY.out
        obtain ⟨b2, o2, e2, hb2, hc2⟩ := li_at4 hy hlt2
        subst e2
        have HDj := Lib.hid (HD.out j hlt hlt2)
        rw [show xs[j] = xs.getD j 0 by simp [List.getD_eq_getElem?_getD, hlt]] at hc1
        rw [show ys[j] = ys.getD j 0 by simp [List.getD_eq_getElem?_getD, hlt2]] at hc2
        generalize xs.getD j 0 = a at *
        generalize ys.getD j 0 = b at *
        have HCm := Lib.hid (cmp_Compare_int64 a b w)
        have hn : decide ((ys.length : Int) ≤ (j : Int)) = false := decide_eq_false (by omega)
        clear hx hy
        rcases Nat.lt_trichotomy a b with h | h | h
        · have HF : Hid (res = -1) := Lib.hid (by rw [HR.out, HDj.out, if_pos h])
          rw [if_pos h] at HCm
          go_wp2_with fail
          refine HCm.out.mono ?_
          rintro e w2 ⟨rfl, rfl⟩
          go_wp2
          go_ret
          exact ⟨by rw [HF.out]; rfl, rfl⟩
        · subst h
          have HF : Hid (res = cml (xs.drop (j + 1)) (ys.drop (j + 1))) := Lib.hid (by rw [HR.out, HDj.out, if_neg (by omega), if_neg (by omega)])
          rw [if_neg (by omega), if_neg (by omega)] at HCm
          go_wp2_with fail
          refine HCm.out.mono ?_
          rintro e w2 ⟨rfl, rfl⟩
          go_wp2
          go_round
          case rel => exact ⟨j + 1, by omega, by go_num, HF.out⟩
          case measure => simp [intOf]; omega
        · have HF : Hid (res = 1) := Lib.hid (by rw [HR.out, HDj.out, if_neg (by omega), if_pos h])
          rw [if_neg (by omega), if_pos h] at HCm
          go_wp2_with fail
          refine HCm.out.mono ?_
          rintro e w2 ⟨rfl, rfl⟩
          go_wp2
          go_ret
          exact ⟨by rw [HF.out]; rfl, rfl⟩
      · have HF : Hid (res = 1) := Lib.hid (by rw [HR.out, HE.out j hlt (by omega)])
        have hn : decide ((ys.length : Int) ≤ (j : Int)) = true := decide_eq_true (by omega)
        clear hx
        go_wp2
        go_ret
        exact ⟨by rw [HF.out]; rfl, rfl⟩
    · obtain rfl : j = xs.length := by omega
      by_cases hlt2 : xs.length < ys.length
      · have HF : Hid (res = -1) := Lib.hid (by rw [HR.out, HA.out _ (Nat.le_refl _) hlt2])
        go_wp2
        go_ret
        exact ⟨by rw [HF.out]; rfl, rfl⟩
      · have HF : Hid (res = 0) := Lib.hid (by rw [HR.out, HC.out _ (Nat.le_refl _) (by omega)])
        go_wp2
        go_ret
        exact ⟨by rw [HF.out]; rfl, rfl⟩
end Go.Proofs.YtkdldfomdbgcaaaGreat
