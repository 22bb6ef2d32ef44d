/- Joined of several texts: M33T, 33tt, 33ww. -/
import Derived.Test.YtboldkahppdmbaaGreatDoorB1
import Derived.Test.YtboldkahppdmbaaGreatDoorB6
import Derived.Test.YtboldkahppdmbaaGreatDoorN34
import Derived.Test.YtboldkahppdmbaaGreatDoorSch
namespace Go.Proofs.YtboldkahppdmbaaGreatDoor
open Go.RowKit
set_option linter.unusedVariables false
set_option linter.unusedSimpArgs false
/- Plain law: the text of a formula. No program in sight. -/
def isfl : Fm → Bool | .fls => true | _ => false
/-- the level of the grammar at which the text of a formula stands -/
def lv : Fm → Nat
  | .bin .imp a b => if isfl b then 3 else 0
  | .bin .or a b => 1
  | .bin .and a b => 2
  | _ => 3
def wrp (own level : Nat) (t : ByteArray) : ByteArray := if own < level then ((⟨#[40]⟩ : ByteArray) ++ t) ++ (⟨#[41]⟩ : ByteArray) else t
def ltr (s : Nat) : ByteArray := (⟨#[112, 113, 114, 115, 116, 117]⟩ : ByteArray).extract s (s + 1)
/-- the text of a formula, without parentheses -/
def tbx : Fm → ByteArray
  | .var s => ltr s
  | .fls => ⟨#[70]⟩
  | .un .box a => (⟨#[91, 93]⟩ : ByteArray) ++ wrp (lv a) 3 (tbx a)
  | .un .dia a => (⟨#[60, 62]⟩ : ByteArray) ++ wrp (lv a) 3 (tbx a)
  | .bin .and a b => (wrp (lv a) 2 (tbx a) ++ (⟨#[38]⟩ : ByteArray)) ++ wrp (lv b) 3 (tbx b)
  | .bin .or a b => (wrp (lv a) 1 (tbx a) ++ (⟨#[124]⟩ : ByteArray)) ++ wrp (lv b) 2 (tbx b)
  | .bin .imp a b => if isfl b then (if isfl a then ⟨#[84]⟩ else (⟨#[126]⟩ : ByteArray) ++ wrp (lv a) 3 (tbx a)) else (wrp (lv a) 1 (tbx a) ++ (⟨#[62]⟩ : ByteArray)) ++ wrp (lv b) 0 (tbx b)
theorem wrp_size (a b : Nat) (t : ByteArray) : (wrp a b t).size ≤ t.size + 2 := by
  unfold wrp
  split
  · simp only [ByteArray.size_append]
    have h1 : (⟨#[40]⟩ : ByteArray).size = 1 := rfl
    have h2 : (⟨#[41]⟩ : ByteArray).size = 1 := rfl
    omega
  · omega
theorem tb_size (f : Fm) : (tbx f).size ≤ 8 * (enc f).length := by
  induction f with
  | var s => simp only [tbx, ltr, enc, List.length_cons, List.length_nil, ByteArray.size_extract]; omega
  | fls => simp [tbx, enc]; decide
  | un k a ih =>
    have h1 := wrp_size (lv a) 3 (tbx a)
    have e1 : (⟨#[91, 93]⟩ : ByteArray).size = 2 := rfl
    have e2 : (⟨#[60, 62]⟩ : ByteArray).size = 2 := rfl
    cases k <;> simp only [tbx, enc, List.length_cons, ByteArray.size_append] <;> omega
  | bin k a b iha ihb =>
    have e1 : (⟨#[38]⟩ : ByteArray).size = 1 := rfl
    have e2 : (⟨#[124]⟩ : ByteArray).size = 1 := rfl
    have e3 : (⟨#[62]⟩ : ByteArray).size = 1 := rfl
    have e4 : (⟨#[126]⟩ : ByteArray).size = 1 := rfl
    have e5 : (⟨#[84]⟩ : ByteArray).size = 1 := rfl
    have h1 := wrp_size (lv a) 3 (tbx a)
    have h2 := wrp_size (lv a) 2 (tbx a)
    have h3 := wrp_size (lv a) 1 (tbx a)
    have h4 := wrp_size (lv b) 3 (tbx b)
    have h5 := wrp_size (lv b) 2 (tbx b)
    have h6 := wrp_size (lv b) 0 (tbx b)
    cases k
    · simp only [tbx, enc, List.length_cons, List.length_append, ByteArray.size_append]; omega
    · simp only [tbx, enc, List.length_cons, List.length_append, ByteArray.size_append]; omega
    · simp only [tbx, enc, List.length_cons, List.length_append]
      split
      · split
        · omega
        · simp only [ByteArray.size_append]; omega
      · simp only [ByteArray.size_append]; omega
theorem wtb_size (f : Fm) (l : Nat) : (wrp (lv f) l (tbx f)).size ≤ 8 * (enc f).length + 2 := by
  have h1 := wrp_size (lv f) l (tbx f)
  have h2 := tb_size f
  omega
theorem lv_le (f : Fm) : lv f ≤ 3 := by
  cases f with
  | bin k a b => cases k <;> simp only [lv] <;> first | omega | (split <;> omega)
  | _ => simp [lv]
theorem isfl_iff (f : Fm) : isfl f = true ↔ f = .fls := by cases f <;> simp [isfl]
def txt (f : Fm) : ByteArray := wrp (lv f) 0 (tbx f)
theorem txt_tb (f : Fm) : txt f = tbx f := by unfold txt wrp; rw [if_neg (by omega)]
/- Contracts of chapter 2: the text of a formula, of the program. -/
theorem part_g (v : Value) (xs : List Nd) (i j : Nat) (w : World) (h : Sl cN w v xs) (hl : xs.length ≤ 1048576) (hi : i < j) (hj : j ≤ xs.length) (hp : pe (xs.drop i) 1 i = j) :
    Calls Tryz.prog 55 #[v, .int .i64 i] w fun e w' => ∃ u, e = .returned u ∧ (∀ W0, Sl cN W0 v xs → Sl cN W0 u ((xs.drop i).take (j - i))) ∧ w = w' := by
  obtain ⟨A, c, rfl⟩ := h.opn
  obtain ⟨-, hc, hm⟩ := h.cap
  have HP := Lib.hid hp; clear hp
  have HC := Lib.hid (fun W0 (h0 : Sl cN W0 (.slice A xs.length c) xs) => h0.cut (i := i) (j := j) (c' := j - i) (by omega) hj (Nat.le_refl _) (by omega))
  go_enter Tryz.func55, Tryz.ntmps55
  go_wp2_with fail
  refine (impl_partEnd _ xs i _ h (by omega) (by omega)).mono ?_
  rintro e w1 ⟨rfl, rfl⟩
  rw [HP.out]
  go_wp2_with fail
  refine (impl_partEnd _ xs i _ h (by omega) (by omega)).mono ?_
  rintro e w1 ⟨rfl, rfl⟩
  rw [HP.out]
  have hji : ¬ j = i := by omega
  go_wp2
  go_ret
  exact ⟨_, rfl, HC.out, rfl⟩
theorem first_g (v : Value) (n : Nd) (f : Fm) (rest : List Nd) (w : World) (h : Sl cN w v (n :: (enc f ++ rest))) (hl : (n :: (enc f ++ rest)).length ≤ 1048576) :
    Calls Tryz.prog 59 #[v] w fun e w' => ∃ u, e = .returned u ∧ (∀ W0, Sl cN W0 v (n :: (enc f ++ rest)) → Sl cN W0 u (enc f)) ∧ w = w' := by
  have hp := part_g v _ 1 (1 + (enc f).length) w h hl (by have := enc_pos f; omega) (by simp; omega) (pe_first n f rest)
  rw [Nat.add_sub_cancel_left, take_enc] at hp
  have HP := Lib.hid hp; clear hp
  go_enter Tryz.func59, Tryz.ntmps59
  go_wp2_with fail
  refine HP.out.mono ?_
  rintro e w1 ⟨u, rfl, hs, rfl⟩
  have HS := Lib.hid hs; clear hs
  go_wp2
  go_ret
  exact ⟨_, rfl, HS.out, rfl⟩
theorem second_g (v : Value) (n : Nd) (f g : Fm) (rest : List Nd) (w : World) (h : Sl cN w v (n :: (enc f ++ (enc g ++ rest)))) (hl : (n :: (enc f ++ (enc g ++ rest))).length ≤ 1048576) :
    Calls Tryz.prog 129 #[v] w fun e w' => ∃ u, e = .returned u ∧ (∀ W0, Sl cN W0 v (n :: (enc f ++ (enc g ++ rest))) → Sl cN W0 u (enc g)) ∧ w = w' := by
  have hp := part_g v _ (1 + (enc f).length) (1 + (enc f).length + (enc g).length) w h hl (by have := enc_pos g; omega) (by simp; omega) (pe_second n f g rest)
  rw [Nat.add_sub_cancel_left, Nat.add_comm 1 (enc f).length, take_enc2] at hp
  have HP := Lib.hid hp; clear hp
  have h1 := impl_partEnd v _ 1 w h (by omega) (by omega)
  rw [show ((1 : Nat) : Int) = 1 from rfl, pe_first n f (enc g ++ rest), Nat.add_comm 1 (enc f).length] at h1
  have H1 := Lib.hid h1; clear h1
  go_enter Tryz.func129, Tryz.ntmps129
  go_wp2_with fail
  refine H1.out.mono ?_
  rintro e w1 ⟨rfl, rfl⟩
  go_wp2_with fail
  refine HP.out.mono ?_
  rintro e w1 ⟨u, rfl, hs, rfl⟩
  have HS := Lib.hid hs; clear hs
  go_wp2
  go_ret
  exact ⟨_, rfl, HS.out, rfl⟩
def kd : Fm → Int | .var s => 0 | .fls => 1 | .bin k a b => k.i | .un k a => k.i
theorem kd_cell {w : World} {A : Option Addr} {n c : Nat} {f : Fm} (h : Sl cN w (.slice A n c) (enc f)) : ∃ b o y, A = some ⟨b, o, none⟩ ∧ b < w.heap.size ∧ w.cell? ⟨b, o, none⟩ = some (.int .i64 (kd f)) ∧ w.cell? ⟨b, o + 1, none⟩ = some (.int .i64 y) := by
  cases f with
  | var s => obtain ⟨b, o, hA, hb, h0, h1⟩ := h.atN0; exact ⟨b, o, _, hA, hb, h0, h1⟩
  | fls => obtain ⟨b, o, hA, hb, h0, h1⟩ := (show Sl cN w (.slice A n c) [(1, 0)] from h).atN0; exact ⟨b, o, _, hA, hb, h0, h1⟩
  | bin k a b => obtain ⟨b', o, hA, hb, h0, h1⟩ := (show Sl cN w (.slice A n c) ((k.i, 0) :: (enc a ++ enc b)) from h).atN0; exact ⟨b', o, _, hA, hb, h0, h1⟩
  | un k a => obtain ⟨b', o, hA, hb, h0, h1⟩ := (show Sl cN w (.slice A n c) ((k.i, 0) :: enc a) from h).atN0; exact ⟨b', o, _, hA, hb, h0, h1⟩
theorem enc_pos' (f : Fm) : 1 ≤ (enc f).length := enc_pos f
theorem impl_isFalsum (f : Fm) (v : Value) (w : World) (h : Sl cN w v (enc f)) :
    Calls Tryz.prog 131 #[v] w fun e w' => e = .returned (.bool (isfl f)) ∧ w = w' := by
  obtain ⟨A, c, rfl⟩ := h.opn
  obtain ⟨b, o, y, rfl, hb, h0, h1⟩ := kd_cell h
  have hp := enc_pos f
  have hz : (kd f == 1) = isfl f := by
    cases f with
    | bin k a b => cases k <;> rfl
    | un k a => cases k <;> rfl
    | _ => rfl
  have HZ := Lib.hid hz
  clear h hz
  generalize isfl f = z at *
  generalize kd f = k at *
  obtain ⟨m, hm⟩ : ∃ m, (enc f).length = m := ⟨_, rfl⟩
  rw [hm] at hp ⊢
  clear hm
  go_enter Tryz.func131, Tryz.ntmps131
  go_wp2
  go_ret
  exact ⟨by rw [← HZ.out]; rfl, rfl⟩
theorem impl_isNegation_imp (a b : Fm) (v : Value) (w : World) (h : Sl cN w v (enc (.bin .imp a b))) (hl : (enc (.bin .imp a b)).length ≤ 1048576) :
    Calls Tryz.prog 130 #[v] w fun e w' => e = .returned (.bool (isfl b)) ∧ w = w' := by
  obtain ⟨A, c, rfl⟩ := h.opn
  obtain ⟨b', o, y, rfl, hb, h0, h1⟩ := kd_cell h
  have h' : Sl cN w (.slice (some ⟨b', o, none⟩) (enc (.bin .imp a b)).length c) ((4, 0) :: (enc a ++ (enc b ++ []))) := by rw [List.append_nil]; exact h
  have HS := Lib.hid (second_g _ (4, 0) a b [] w h' (by rw [List.append_nil]; exact hl))
  have HF := Lib.hid (fun u (hu : Sl cN w u (enc b)) => impl_isFalsum b u w hu)
  have HH := Lib.hid h'
  have hp := enc_pos (.bin .imp a b)
  have hk : w.cell? ⟨b', o, none⟩ = some (.int .i64 4) := h0
  clear h h' h0 hl
  generalize (enc (.bin .imp a b)).length = m at *
  go_enter Tryz.func130, Tryz.ntmps130
  go_wp2_with fail
  refine HS.out.mono ?_
  rintro e w1 ⟨u, rfl, hu, rfl⟩
  have HU := Lib.hid (HF.out u (hu w HH.out))
  clear hu
  go_wp2_with fail
  refine HU.out.mono ?_
  rintro e w1 ⟨rfl, rfl⟩
  go_wp2
  go_ret
  exact ⟨rfl, rfl⟩
theorem impl_isNegation_no (f : Fm) (v : Value) (w : World) (h : Sl cN w v (enc f)) (hk : ¬ kd f = 4) :
    Calls Tryz.prog 130 #[v] w fun e w' => e = .returned (.bool false) ∧ w = w' := by
  obtain ⟨A, c, rfl⟩ := h.opn
  obtain ⟨b', o, y, rfl, hb, h0, h1⟩ := kd_cell h
  have hp := enc_pos f
  have hk' : (kd f == 4) = false := by simpa using hk
  clear h hk
  generalize kd f = k at *
  generalize (enc f).length = m at *
  go_enter Tryz.func130, Tryz.ntmps130
  go_wp2
  go_ret
  exact ⟨rfl, rfl⟩
theorem impl_levelOf (f : Fm) (v : Value) (w : World) (h : Sl cN w v (enc f)) (hl : (enc f).length ≤ 1048576) :
    Calls Tryz.prog 128 #[v] w fun e w' => e = .returned (.int .i64 (lv f : Nat)) ∧ w = w' := by
  obtain ⟨A, c, rfl⟩ := h.opn
  obtain ⟨b', o, y, rfl, hb, h0, h1⟩ := kd_cell h
  have hp := enc_pos f
  by_cases hk : kd f = 4
  · obtain ⟨a, b, rfl⟩ : ∃ a b, f = .bin .imp a b := by
      cases f with
      | bin k a b => cases k <;> first | exact ⟨a, b, rfl⟩ | (simp [kd, BK.i] at hk)
      | un k a => cases k <;> simp [kd, UK.i] at hk
      | var s => simp [kd] at hk
      | fls => simp [kd] at hk
    have HN := Lib.hid (impl_isNegation_imp a b _ w h hl)
    have h00 : w.cell? ⟨b', o, none⟩ = some (.int .i64 4) := h0
    have HE : Hid (lv (.bin .imp a b) = if isfl b then 3 else 0) := Lib.hid rfl
    clear h h0 hk hl
    generalize (enc (.bin .imp a b)).length = m at *
    generalize isfl b = z at *
    cases z
    all_goals
      go_enter Tryz.func128, Tryz.ntmps128
      go_wp2_with fail
      refine HN.out.mono ?_
      rintro e w1 ⟨rfl, rfl⟩
      go_wp2
      go_ret
      exact ⟨by rw [HE.out]; rfl, rfl⟩
  · have hk4 : (kd f == 4) = false := by simpa using hk
    have HE : Hid ((lv f : Int) = if (kd f == 3) = true then 1 else if (kd f == 2) = true then 2 else 3) := Lib.hid (by
      cases f with
      | bin k a b => cases k <;> first | rfl | exact absurd rfl hk
      | un k a => cases k <;> rfl
      | var s => rfl
      | fls => rfl)
    clear h hk hl
    generalize (enc f).length = m at *
    generalize kd f = k at *
    by_cases h3 : (k == 3) = true
    · have HE2 : Hid ((lv f : Int) = 1) := Lib.hid (by rw [HE.out, if_pos h3])
      clear HE
      go_enter Tryz.func128, Tryz.ntmps128
      go_wp2
      go_ret
      exact ⟨by rw [HE2.out]; rfl, rfl⟩
    · have h3' : (k == 3) = false := by simpa using h3
      by_cases h2 : (k == 2) = true
      · have HE2 : Hid ((lv f : Int) = 2) := Lib.hid (by rw [HE.out, if_neg h3, if_pos h2])
        clear HE h3
        go_enter Tryz.func128, Tryz.ntmps128
        go_wp2
        go_ret
        exact ⟨by rw [HE2.out]; rfl, rfl⟩
      · have h2' : (k == 2) = false := by simpa using h2
        have HE2 : Hid ((lv f : Int) = 3) := Lib.hid (by rw [HE.out, if_neg h3, if_neg h2])
        clear HE h3 h2
        go_enter Tryz.func128, Tryz.ntmps128
        go_wp2
        go_ret
        exact ⟨by rw [HE2.out]; rfl, rfl⟩
def TxD (f : Fm) : Prop := ∀ (l : Nat) (v : Value) (w : World), ¬ lv f < l → Sl cN w v (enc f) → (enc f).length ≤ 1048576 → f.ok = true →
  Calls Tryz.prog 108 #[v, .int .i64 l] w fun e w' => e = .returned (.string (tbx f)) ∧ ∃ n, w' = w.drewN n
def TxOK (f : Fm) : Prop := ∀ (l : Nat) (v : Value) (w : World), Sl cN w v (enc f) → (enc f).length ≤ 1048576 → f.ok = true →
  Calls Tryz.prog 108 #[v, .int .i64 l] w fun e w' => e = .returned (.string (wrp (lv f) l (tbx f))) ∧ ∃ n, w' = w.drewN n
set_option maxRecDepth 100000 in
theorem TxD.all {f : Fm} (hd : TxD f) : TxOK f := by
  intro l v w h hl hok
  by_cases hlt : lv f < l
  · have HL := Lib.hid (impl_levelOf f v w h hl)
    have HD := Lib.hid (hd 0 v w (by omega) h hl hok)
    have HE : Hid (wrp (lv f) l (tbx f) = ((⟨#[40]⟩ : ByteArray) ++ tbx f) ++ (⟨#[41]⟩ : ByteArray)) := Lib.hid (by unfold wrp; rw [if_pos hlt])
    have hsz := tb_size f
    obtain ⟨A, c, rfl⟩ := h.opn
    have hlt' : decide (lv f < l) = true := decide_eq_true hlt
    have s1 : ¬ 9223372036854775807 < 1 + (tbx f).size := by omega
    have s2 : ¬ 9223372036854775807 < 1 + (tbx f).size + 1 := by omega
    clear h hlt hsz
    generalize lv f = q at *
    generalize tbx f = t at *
    go_enter Tryz.func108, Tryz.ntmps108
    go_wp2_with fail
    refine HL.out.mono ?_
    rintro e w1 ⟨rfl, rfl⟩
    go_wp2_with fail
    refine HD.out.mono ?_
    rintro e w1 ⟨rfl, n, rfl⟩
    go_wp2
    go_ret
    exact ⟨by rw [HE.out]; rfl, n, rfl⟩
  · rw [show wrp (lv f) l (tbx f) = tbx f by unfold wrp; rw [if_neg hlt]]
    exact hd l v w hlt h hl hok
theorem drewN_add (w : World) (n m : Nat) : (w.drewN n).drewN m = w.drewN (n + m) := by simp [World.drewN, Nat.add_assoc]
theorem lvlt {a b : Nat} (h : ¬ a < b) : decide (a < b) = false := decide_eq_false h
theorem tx_fls : TxD .fls := by
  intro l v w hn h hl hok
  have HL := Lib.hid (impl_levelOf .fls v w h hl)
  obtain ⟨A, c, rfl⟩ := h.opn
  obtain ⟨b', o, y, rfl, hb, h0, h1⟩ := kd_cell h
  have h00 : w.cell? ⟨b', o, none⟩ = some (.int .i64 1) := h0
  have hn' := lvlt hn
  clear h h0 hn
  simp only [enc, List.length_cons, List.length_nil] at *
  generalize lv .fls = q at *
  go_enter Tryz.func108, Tryz.ntmps108
  go_wp2_with fail
  refine HL.out.mono ?_
  rintro e w1 ⟨rfl, rfl⟩
  go_wp2
  go_ret
  exact ⟨rfl, 0, rfl⟩
set_option maxRecDepth 100000 in
theorem tx_var (s : Nat) : TxD (.var s) := by
  intro l v w hn h hl hok
  have hs : s ≤ 5 := by have := hok; simp only [Fm.ok, decide_eq_true_eq] at this; omega
  have HL := Lib.hid (impl_levelOf (.var s) v w h hl)
  obtain ⟨A, c, rfl⟩ := h.opn
  obtain ⟨b', o, rfl, hb, h00, h01⟩ := (show Sl cN w (.slice A (enc (.var s)).length c) [(0, (s : Int))] from h).atN0
  have hn' := lvlt hn
  clear h hn
  simp only [enc, List.length_cons, List.length_nil] at *
  generalize lv (.var s) = q at *
  go_enter Tryz.func108, Tryz.ntmps108
  go_wp2_with fail
  refine HL.out.mono ?_
  rintro e w1 ⟨rfl, rfl⟩
  go_wp2
  go_quiet (fail)
  go_wp2
  go_ret
  exact ⟨rfl, _, rfl⟩
def unT : UK → ByteArray | .box => ⟨#[91, 93]⟩ | .dia => ⟨#[60, 62]⟩
set_option maxRecDepth 100000 in
theorem tx_un (k : UK) (a : Fm) (iha : TxOK a) : TxD (.un k a) := by
  intro l v w hn h hl hok
  have HL := Lib.hid (impl_levelOf (.un k a) v w h hl)
  obtain ⟨A, c, rfl⟩ := h.opn
  obtain ⟨b', o, y, rfl, hb, h0, h1⟩ := kd_cell h
  have hn' := lvlt hn
  have hp := enc_pos (.un k a)
  have sz1 := wtb_size a 3
  have hlen : (enc (.un k a)).length = 1 + (enc a).length := by simp [enc]; omega
  have hF1 : Sl cN w (.slice (some ⟨b', o, none⟩) (enc (.un k a)).length c) ((k.i, 0) :: (enc a ++ [])) := by rw [List.append_nil]; exact h
  have H1 := Lib.hid (first_g _ (k.i, 0) a [] w hF1 (by simp; omega))
  have HA := Lib.hid (fun u (hu : Sl cN w u (enc a)) => iha 3 u w hu (by omega) hok)
  have G1 := Lib.hid hF1
  obtain ⟨ta, hta⟩ : ∃ ta, wrp (lv a) 3 (tbx a) = ta := ⟨_, rfl⟩
  rw [hta] at HA sz1
  have HE : Hid (tbx (.un k a) = unT k ++ ta) := Lib.hid (by rw [← hta]; cases k <;> rfl)
  have s1 : ¬ 9223372036854775807 < 2 + ta.size := by omega
  clear h hn sz1 hF1 hl hta hlen
  obtain ⟨m, hm⟩ : ∃ m, (enc (.un k a)).length = m := ⟨_, rfl⟩
  rw [hm] at HL hp H1 G1 ⊢
  clear hm
  obtain ⟨q, hq⟩ : ∃ q, lv (.un k a) = q := ⟨_, rfl⟩
  rw [hq] at HL hn'
  clear hq
  cases k
  · have h00 : w.cell? ⟨b', o, none⟩ = some (.int .i64 5) := h0
    clear h0
    go_enter Tryz.func108, Tryz.ntmps108
    go_wp2_with fail
    refine HL.out.mono ?_
    rintro e w1 ⟨rfl, rfl⟩
    go_wp2_with fail
    refine H1.out.mono ?_
    rintro e w1 ⟨u1, rfl, hu1, rfl⟩
    have HU1 := Lib.hid (HA.out u1 (hu1 w G1.out))
    clear hu1
    go_wp2_with fail
    refine HU1.out.mono ?_
    rintro e w1 ⟨rfl, n, rfl⟩
    go_wp2
    go_ret
    exact ⟨by rw [HE.out]; rfl, n, rfl⟩
  · have h00 : w.cell? ⟨b', o, none⟩ = some (.int .i64 6) := h0
    clear h0
    go_enter Tryz.func108, Tryz.ntmps108
    go_wp2_with fail
    refine HL.out.mono ?_
    rintro e w1 ⟨rfl, rfl⟩
    go_wp2_with fail
    refine H1.out.mono ?_
    rintro e w1 ⟨u1, rfl, hu1, rfl⟩
    have HU1 := Lib.hid (HA.out u1 (hu1 w G1.out))
    clear hu1
    go_wp2_with fail
    refine HU1.out.mono ?_
    rintro e w1 ⟨rfl, n, rfl⟩
    go_wp2
    go_ret
    exact ⟨by rw [HE.out]; rfl, n, rfl⟩
set_option maxRecDepth 100000 in
theorem tx_and (a b : Fm) (iha : TxOK a) (ihb : TxOK b) : TxD (.bin .and a b) := by
  intro l v w hn h hl hok
  have HL := Lib.hid (impl_levelOf (.bin .and a b) v w h hl)
  obtain ⟨A, c, rfl⟩ := h.opn
  obtain ⟨b', o, y, rfl, hb, h0, h1⟩ := kd_cell h
  have h00 : w.cell? ⟨b', o, none⟩ = some (.int .i64 2) := h0
  have hn' := lvlt hn
  have hp := enc_pos (.bin .and a b)
  have sz1 := wtb_size a 2
  have sz2 := wtb_size b 3
  have hlen : (enc (.bin .and a b)).length = 1 + ((enc a).length + (enc b).length) := by simp [enc]; omega
  have hF1 : Sl cN w (.slice (some ⟨b', o, none⟩) (enc (.bin .and a b)).length c) ((2, 0) :: (enc a ++ enc b)) := h
  have hF2 : Sl cN w (.slice (some ⟨b', o, none⟩) (enc (.bin .and a b)).length c) ((2, 0) :: (enc a ++ (enc b ++ []))) := by rw [List.append_nil]; exact h
  have H1 := Lib.hid (first_g _ (2, 0) a (enc b) w hF1 (by simp; omega))
  have H2 := Lib.hid (fun n => second_g _ (2, 0) a b [] (w.drewN n) (hF2.drewN n) (by simp; omega))
  have HA := Lib.hid (fun u (hu : Sl cN w u (enc a)) => iha 2 u w hu (by omega) (by have := hok; simp [Fm.ok] at this; exact this.1))
  have HB := Lib.hid (fun n u (hu : Sl cN (w.drewN n) u (enc b)) => ihb 3 u (w.drewN n) hu (by omega) (by have := hok; simp [Fm.ok] at this; exact this.2))
  have G1 := Lib.hid hF1
  have G2 := Lib.hid (fun n => hF2.drewN n)
  obtain ⟨ta, hta⟩ : ∃ ta, wrp (lv a) 2 (tbx a) = ta := ⟨_, rfl⟩
  obtain ⟨tc, htc⟩ : ∃ tc, wrp (lv b) 3 (tbx b) = tc := ⟨_, rfl⟩
  rw [hta] at HA sz1
  rw [htc] at HB sz2
  have HE : Hid (tbx (.bin .and a b) = (ta ++ (⟨#[38]⟩ : ByteArray)) ++ tc) := Lib.hid (by rw [← hta, ← htc]; rfl)
  have s1 : ¬ 9223372036854775807 < ta.size + 1 := by omega
  have s2 : ¬ 9223372036854775807 < ta.size + 1 + tc.size := by omega
  have s3 : ¬ 9223372036854775807 < (ta ++ (⟨#[38]⟩ : ByteArray)).size + tc.size := by rw [ByteArray.size_append]; have : (⟨#[38]⟩ : ByteArray).size = 1 := rfl; omega
  clear h h0 hn sz1 sz2 hF1 hF2 hl hta htc hlen
  obtain ⟨m, hm⟩ : ∃ m, (enc (.bin .and a b)).length = m := ⟨_, rfl⟩
  rw [hm] at HL hp H1 H2 G1 G2 ⊢
  clear hm
  obtain ⟨q, hq⟩ : ∃ q, lv (.bin .and a b) = q := ⟨_, rfl⟩
  rw [hq] at HL hn'
  clear hq
  go_enter Tryz.func108, Tryz.ntmps108
  go_wp2_with fail
  refine HL.out.mono ?_
  rintro e w1 ⟨rfl, rfl⟩
  go_wp2_with fail
  refine H1.out.mono ?_
  rintro e w1 ⟨u1, rfl, hu1, rfl⟩
  have HU1 := Lib.hid (HA.out u1 (hu1 w G1.out))
  clear hu1
  go_wp2_with fail
  refine HU1.out.mono ?_
  rintro e w1 ⟨rfl, n, rfl⟩
  go_wp2_with fail
  refine (H2.out n).mono ?_
  rintro e w1 ⟨u2, rfl, hu2, rfl⟩
  have HU2 := Lib.hid (HB.out n u2 (hu2 _ (G2.out n)))
  clear hu2
  go_wp2_with fail
  refine HU2.out.mono ?_
  rintro e w1 ⟨rfl, n2, rfl⟩
  go_wp2
  go_ret
  exact ⟨by rw [HE.out]; rfl, n + n2, rfl⟩
set_option maxRecDepth 100000 in
theorem tx_or (a b : Fm) (iha : TxOK a) (ihb : TxOK b) : TxD (.bin .or a b) := by
  intro l v w hn h hl hok
  have HL := Lib.hid (impl_levelOf (.bin .or a b) v w h hl)
  obtain ⟨A, c, rfl⟩ := h.opn
  obtain ⟨b', o, y, rfl, hb, h0, h1⟩ := kd_cell h
  have h00 : w.cell? ⟨b', o, none⟩ = some (.int .i64 3) := h0
  have hn' := lvlt hn
  have hp := enc_pos (.bin .or a b)
  have sz1 := wtb_size a 1
  have sz2 := wtb_size b 2
  have hlen : (enc (.bin .or a b)).length = 1 + ((enc a).length + (enc b).length) := by simp [enc]; omega
  have hF1 : Sl cN w (.slice (some ⟨b', o, none⟩) (enc (.bin .or a b)).length c) ((3, 0) :: (enc a ++ enc b)) := h
  have hF2 : Sl cN w (.slice (some ⟨b', o, none⟩) (enc (.bin .or a b)).length c) ((3, 0) :: (enc a ++ (enc b ++ []))) := by rw [List.append_nil]; exact h
  have H1 := Lib.hid (first_g _ (3, 0) a (enc b) w hF1 (by simp; omega))
  have H2 := Lib.hid (fun n => second_g _ (3, 0) a b [] (w.drewN n) (hF2.drewN n) (by simp; omega))
  have HA := Lib.hid (fun u (hu : Sl cN w u (enc a)) => iha 1 u w hu (by omega) (by have := hok; simp [Fm.ok] at this; exact this.1))
  have HB := Lib.hid (fun n u (hu : Sl cN (w.drewN n) u (enc b)) => ihb 2 u (w.drewN n) hu (by omega) (by have := hok; simp [Fm.ok] at this; exact this.2))
  have G1 := Lib.hid hF1
  have G2 := Lib.hid (fun n => hF2.drewN n)
  obtain ⟨ta, hta⟩ : ∃ ta, wrp (lv a) 1 (tbx a) = ta := ⟨_, rfl⟩
  obtain ⟨tc, htc⟩ : ∃ tc, wrp (lv b) 2 (tbx b) = tc := ⟨_, rfl⟩
  rw [hta] at HA sz1
  rw [htc] at HB sz2
  have HE : Hid (tbx (.bin .or a b) = (ta ++ (⟨#[124]⟩ : ByteArray)) ++ tc) := Lib.hid (by rw [← hta, ← htc]; rfl)
  have s1 : ¬ 9223372036854775807 < ta.size + 1 := by omega
  have s2 : ¬ 9223372036854775807 < ta.size + 1 + tc.size := by omega
  have s3 : ¬ 9223372036854775807 < (ta ++ (⟨#[124]⟩ : ByteArray)).size + tc.size := by rw [ByteArray.size_append]; have : (⟨#[124]⟩ : ByteArray).size = 1 := rfl; omega
  clear h h0 hn sz1 sz2 hF1 hF2 hl hta htc hlen
  obtain ⟨m, hm⟩ : ∃ m, (enc (.bin .or a b)).length = m := ⟨_, rfl⟩
  rw [hm] at HL hp H1 H2 G1 G2 ⊢
  clear hm
  obtain ⟨q, hq⟩ : ∃ q, lv (.bin .or a b) = q := ⟨_, rfl⟩
  rw [hq] at HL hn'
  clear hq
  go_enter Tryz.func108, Tryz.ntmps108
  go_wp2_with fail
  refine HL.out.mono ?_
  rintro e w1 ⟨rfl, rfl⟩
  go_wp2_with fail
  refine H1.out.mono ?_
  rintro e w1 ⟨u1, rfl, hu1, rfl⟩
  have HU1 := Lib.hid (HA.out u1 (hu1 w G1.out))
  clear hu1
  go_wp2_with fail
  refine HU1.out.mono ?_
  rintro e w1 ⟨rfl, n, rfl⟩
  go_wp2_with fail
  refine (H2.out n).mono ?_
  rintro e w1 ⟨u2, rfl, hu2, rfl⟩
  have HU2 := Lib.hid (HB.out n u2 (hu2 _ (G2.out n)))
  clear hu2
  go_wp2_with fail
  refine HU2.out.mono ?_
  rintro e w1 ⟨rfl, n2, rfl⟩
  go_wp2
  go_ret
  exact ⟨by rw [HE.out]; rfl, n + n2, rfl⟩
set_option maxRecDepth 100000 in
theorem tx_imp (a b : Fm) (iha : TxOK a) (ihb : TxOK b) (hf : isfl b = false) : TxD (.bin .imp a b) := by
  intro l v w hn h hl hok
  have HL := Lib.hid (impl_levelOf (.bin .imp a b) v w h hl)
  have HN := Lib.hid (hf ▸ impl_isNegation_imp a b v w h hl)
  obtain ⟨A, c, rfl⟩ := h.opn
  obtain ⟨b', o, y, rfl, hb, h0, h1⟩ := kd_cell h
  have h00 : w.cell? ⟨b', o, none⟩ = some (.int .i64 4) := h0
  have hn' := lvlt hn
  have hp := enc_pos (.bin .imp a b)
  have sz1 := wtb_size a 1
  have sz2 := wtb_size b 0
  have hlen : (enc (.bin .imp a b)).length = 1 + ((enc a).length + (enc b).length) := by simp [enc]; omega
  have hF1 : Sl cN w (.slice (some ⟨b', o, none⟩) (enc (.bin .imp a b)).length c) ((4, 0) :: (enc a ++ enc b)) := h
  have hF2 : Sl cN w (.slice (some ⟨b', o, none⟩) (enc (.bin .imp a b)).length c) ((4, 0) :: (enc a ++ (enc b ++ []))) := by rw [List.append_nil]; exact h
  have H1 := Lib.hid (first_g _ (4, 0) a (enc b) w hF1 (by simp; omega))
  have H2 := Lib.hid (fun n => second_g _ (4, 0) a b [] (w.drewN n) (hF2.drewN n) (by simp; omega))
  have HA := Lib.hid (fun u (hu : Sl cN w u (enc a)) => iha 1 u w hu (by omega) (by have := hok; simp [Fm.ok] at this; exact this.1))
  have HB := Lib.hid (fun n u (hu : Sl cN (w.drewN n) u (enc b)) => ihb 0 u (w.drewN n) hu (by omega) (by have := hok; simp [Fm.ok] at this; exact this.2))
  have G1 := Lib.hid hF1
  have G2 := Lib.hid (fun n => hF2.drewN n)
  obtain ⟨ta, hta⟩ : ∃ ta, wrp (lv a) 1 (tbx a) = ta := ⟨_, rfl⟩
  obtain ⟨tc, htc⟩ : ∃ tc, wrp (lv b) 0 (tbx b) = tc := ⟨_, rfl⟩
  rw [hta] at HA sz1
  rw [htc] at HB sz2
  have HE : Hid (tbx (.bin .imp a b) = (ta ++ (⟨#[62]⟩ : ByteArray)) ++ tc) := Lib.hid (by rw [← hta, ← htc]; simp only [tbx, hf]; rfl)
  have s1 : ¬ 9223372036854775807 < ta.size + 1 := by omega
  have s2 : ¬ 9223372036854775807 < ta.size + 1 + tc.size := by omega
  have s3 : ¬ 9223372036854775807 < (ta ++ (⟨#[62]⟩ : ByteArray)).size + tc.size := by rw [ByteArray.size_append]; have : (⟨#[62]⟩ : ByteArray).size = 1 := rfl; omega
  clear h h0 hn sz1 sz2 hF1 hF2 hl hta htc hlen
  obtain ⟨m, hm⟩ : ∃ m, (enc (.bin .imp a b)).length = m := ⟨_, rfl⟩
  rw [hm] at HL HN hp H1 H2 G1 G2 ⊢
  clear hm
  obtain ⟨q, hq⟩ : ∃ q, lv (.bin .imp a b) = q := ⟨_, rfl⟩
  rw [hq] at HL hn'
  clear hq
  go_enter Tryz.func108, Tryz.ntmps108
  go_wp2_with fail
  refine HL.out.mono ?_
  rintro e w1 ⟨rfl, rfl⟩
  go_wp2_with fail
  refine HN.out.mono ?_
  rintro e w1 ⟨rfl, rfl⟩
  go_wp2_with fail
  refine H1.out.mono ?_
  rintro e w1 ⟨u1, rfl, hu1, rfl⟩
  have HU1 := Lib.hid (HA.out u1 (hu1 w G1.out))
  clear hu1
  go_wp2_with fail
  refine HU1.out.mono ?_
  rintro e w1 ⟨rfl, n, rfl⟩
  go_wp2_with fail
  refine (H2.out n).mono ?_
  rintro e w1 ⟨u2, rfl, hu2, rfl⟩
  have HU2 := Lib.hid (HB.out n u2 (hu2 _ (G2.out n)))
  clear hu2
  go_wp2_with fail
  refine HU2.out.mono ?_
  rintro e w1 ⟨rfl, n2, rfl⟩
  go_wp2
  go_ret
  exact ⟨by rw [HE.out]; rfl, n + n2, rfl⟩
set_option maxRecDepth 100000 in
theorem tx_neg (a b : Fm) (iha : TxOK a) (hf : isfl b = true) : TxD (.bin .imp a b) := by
  intro l v w hn h hl hok
  have HL := Lib.hid (impl_levelOf (.bin .imp a b) v w h hl)
  have HN := Lib.hid (hf ▸ impl_isNegation_imp a b v w h hl)
  obtain ⟨A, c, rfl⟩ := h.opn
  obtain ⟨b', o, y, rfl, hb, h0, h1⟩ := kd_cell h
  have h00 : w.cell? ⟨b', o, none⟩ = some (.int .i64 4) := h0
  have hn' := lvlt hn
  have hp := enc_pos (.bin .imp a b)
  have sz1 := wtb_size a 3
  have hlen : (enc (.bin .imp a b)).length = 1 + ((enc a).length + (enc b).length) := by simp [enc]; omega
  have hF1 : Sl cN w (.slice (some ⟨b', o, none⟩) (enc (.bin .imp a b)).length c) ((4, 0) :: (enc a ++ enc b)) := h
  have H1 := Lib.hid (first_g _ (4, 0) a (enc b) w hF1 (by simp; omega))
  have HA := Lib.hid (fun u (hu : Sl cN w u (enc a)) => iha 3 u w hu (by omega) (by have := hok; simp [Fm.ok] at this; exact this.1))
  have HI := Lib.hid (fun u (hu : Sl cN w u (enc a)) => impl_isFalsum a u w hu)
  have G1 := Lib.hid hF1
  obtain ⟨ta, hta⟩ : ∃ ta, wrp (lv a) 3 (tbx a) = ta := ⟨_, rfl⟩
  rw [hta] at HA sz1
  have HE : Hid (tbx (.bin .imp a b) = if isfl a then ⟨#[84]⟩ else (⟨#[126]⟩ : ByteArray) ++ ta) := Lib.hid (by rw [← hta]; simp only [tbx, hf]; rfl)
  have s1 : ¬ 9223372036854775807 < 1 + ta.size := by omega
  clear h h0 hn sz1 hF1 hl hta hlen hf
  obtain ⟨m, hm⟩ : ∃ m, (enc (.bin .imp a b)).length = m := ⟨_, rfl⟩
  rw [hm] at HL HN hp H1 G1 ⊢
  clear hm
  obtain ⟨q, hq⟩ : ∃ q, lv (.bin .imp a b) = q := ⟨_, rfl⟩
  rw [hq] at HL hn'
  clear hq
  obtain ⟨z, hz⟩ : ∃ z, isfl a = z := ⟨_, rfl⟩
  rw [hz] at HI HE
  clear hz
  cases z
  all_goals
    go_enter Tryz.func108, Tryz.ntmps108
    go_wp2_with fail
    refine HL.out.mono ?_
    rintro e w1 ⟨rfl, rfl⟩
    go_wp2_with fail
    refine HN.out.mono ?_
    rintro e w1 ⟨rfl, rfl⟩
    go_wp2_with fail
    refine H1.out.mono ?_
    rintro e w1 ⟨u1, rfl, hu1, rfl⟩
    have HI1 := Lib.hid (HI.out u1 (hu1 w G1.out))
    clear hu1
    go_wp2_with fail
    refine HI1.out.mono ?_
    rintro e w1 ⟨rfl, rfl⟩
  · go_wp2_with fail
    refine H1.out.mono ?_
    rintro e w1 ⟨u2, rfl, hu2, rfl⟩
    have HU1 := Lib.hid (HA.out u2 (hu2 w G1.out))
    clear hu2
    go_wp2_with fail
    refine HU1.out.mono ?_
    rintro e w1 ⟨rfl, n, rfl⟩
    go_wp2
    go_ret
    exact ⟨by rw [HE.out]; rfl, n, rfl⟩
  · go_wp2
    go_ret
    exact ⟨by rw [HE.out]; rfl, 0, rfl⟩
theorem impl_textAt (f : Fm) : TxOK f := by
  induction f with
  | var s => exact (tx_var s).all
  | fls => exact tx_fls.all
  | un k a ih => exact (tx_un k a ih).all
  | bin k a b iha ihb =>
    cases k
    · exact (tx_and a b iha ihb).all
    · exact (tx_or a b iha ihb).all
    · cases hf : isfl b
      · exact (tx_imp a b iha ihb hf).all
      · exact (tx_neg a b iha hf).all
theorem impl_text (f : Fm) (v : Value) (w : World) (h : Sl cN w v (enc f)) (hl : (enc f).length ≤ 1048576) (hok : f.ok = true) :
    Calls Tryz.prog 76 #[v] w fun e w' => e = .returned (.string (txt f)) ∧ ∃ n, w' = w.drewN n := by
  have HT := Lib.hid (impl_textAt f 0 v w h hl hok)
  clear h
  go_enter Tryz.func76, Tryz.ntmps76
  go_wp2_with fail
  refine HT.out.mono ?_
  rintro e w1 ⟨rfl, n, rfl⟩
  go_wp2
  go_ret
  exact ⟨rfl, n, rfl⟩
/- Contracts of chapter 2: the text of a formula, of the reference (written by gen33w.py). -/
theorem left_g (v : Value) (n : Nd) (f : Fm) (rest : List Nd) (w : World) (h : Sl cN w v (n :: (enc f ++ rest))) (hl : (n :: (enc f ++ rest)).length ≤ 1048576) :
    Calls Tryz.prog 87 #[v] w fun e w' => ∃ u, e = .returned u ∧ (∀ W0, Sl cN W0 v (n :: (enc f ++ rest)) → Sl cN W0 u (enc f)) ∧ w = w' := by
  obtain ⟨A, c, rfl⟩ := h.opn
  obtain ⟨-, hc, hm⟩ := h.cap
  have hpos := enc_pos f
  have hlen : (n :: (enc f ++ rest)).length = 1 + (enc f).length + rest.length := by simp; omega
  have h2 := fun A' n' hn hA W0 (h0 : Sl cN W0 (.slice A (n :: (enc f ++ rest)).length c) (n :: (enc f ++ rest))) => h0.cutAt (A' := A') (n' := n') (i := 1) (j := 1 + (enc f).length) (c' := c - 1) (by omega) (by omega) hn hA (by omega) (by omega)
  rw [Nat.add_sub_cancel_left, take_enc] at h2
  have H2 := Lib.hid h2; clear h2
  have h1 := spec_l02Part _ _ 1 w h (by omega) (by omega)
  rw [show ((1 : Nat) : Int) = 1 from rfl, pe_first n f rest] at h1
  have H1 := Lib.hid h1; clear h1
  clear h
  generalize (n :: (enc f ++ rest)).length = L at *
  generalize hm' : (enc f).length = m at *
  have HM := Lib.hid hm'; clear hm'
  have HL := Lib.hid hlen
  have hL : 1 + m ≤ L := by omega
  clear hlen
  go_enter Tryz.func87, Tryz.ntmps87
  go_wp2_with fail
  refine H1.out.mono ?_
  rintro e w1 ⟨rfl, rfl⟩
  go_wp2
  go_ret
  exact ⟨_, rfl, H2.out _ _ (by omega) (fun b o hA => by subst hA; rfl), rfl⟩
theorem right_g (v : Value) (n : Nd) (f g : Fm) (w : World) (h : Sl cN w v (n :: (enc f ++ enc g))) (hl : (n :: (enc f ++ enc g)).length ≤ 1048576) :
    Calls Tryz.prog 88 #[v] w fun e w' => ∃ u, e = .returned u ∧ (∀ W0, Sl cN W0 v (n :: (enc f ++ enc g)) → Sl cN W0 u (enc g)) ∧ w = w' := by
  obtain ⟨A, c, rfl⟩ := h.opn
  obtain ⟨-, hc, hm⟩ := h.cap
  have hpos := enc_pos f
  have hpos2 := enc_pos g
  have hlen : (n :: (enc f ++ enc g)).length = 1 + (enc f).length + (enc g).length := by simp; omega
  have h2 := fun A' n' hn hA W0 (h0 : Sl cN W0 (.slice A (n :: (enc f ++ enc g)).length c) (n :: (enc f ++ enc g))) => h0.cutAt (A' := A') (n' := n') (i := 1 + (enc f).length) (j := 1 + (enc f).length + (enc g).length) (c' := c - (1 + (enc f).length)) (by omega) (by omega) hn hA (by omega) (by omega)
  have e2 := take_enc2 n f g []
  rw [List.append_nil] at e2
  rw [Nat.add_sub_cancel_left, Nat.add_comm 1 (enc f).length, e2] at h2
  have H2 := Lib.hid h2; clear h2 e2
  have h1 := spec_l02Part _ _ 1 w h (by omega) (by omega)
  rw [show ((1 : Nat) : Int) = 1 from rfl, pe_first n f (enc g), Nat.add_comm 1] at h1
  have H1 := Lib.hid h1; clear h1
  clear h
  generalize (n :: (enc f ++ enc g)).length = L at *
  generalize hm' : (enc f).length = m at *
  generalize hk' : (enc g).length = k at *
  have HM := Lib.hid hm'; clear hm'
  have HK := Lib.hid hk'; clear hk'
  have HL := Lib.hid hlen
  have hL : 1 + m + k ≤ L := by omega
  have hne : ¬ c = m + 1 := by omega
  clear hlen
  go_enter Tryz.func88, Tryz.ntmps88
  go_wp2_with fail
  refine H1.out.mono ?_
  rintro e w1 ⟨rfl, rfl⟩
  go_wp2
  go_ret
  exact ⟨_, rfl, H2.out _ _ (by have := HL.out; omega) (fun b o hA => by subst hA; rfl), rfl⟩
theorem spec_l02Equal (v u : Value) (xs ys : List Nd) (w : World) (hx : Sl cN w v xs) (hy : Sl cN w u ys) (hl : xs.length ≤ 1073741824) (hl2 : ys.length ≤ 1073741824) :
    Calls Tryz.prog 143 #[v, u] w fun e w' => e = .returned (.bool (decide (xs = ys))) ∧ Below w.heap.size w w' := by
  obtain ⟨A, c, rfl⟩ := hx.opn
  obtain ⟨B, d, rfl⟩ := hy.opn
  by_cases hne : ys.length = xs.length
  · rw [hne] at hy ⊢
    have HL := Lib.hid hne
    go_enter Tryz.func143, Tryz.ntmps143
    go_wp2
    go_loopw [5] (fun i wr => ∃ j : Nat, j ≤ xs.length ∧ i = .int .i64 j ∧ (∀ k (h1 : k < xs.length) (h2 : k < ys.length), k < j → xs[k] = ys[k]) ∧ Below w.heap.size w wr) (fun i _ => xs.length - (intOf i).toNat)
    case atStart => exact ⟨0, Nat.zero_le _, rfl, fun k _ _ h => by omega, Below.refl _ _⟩
    case round =>
      obtain ⟨j, hj, rfl, hh, hb⟩ := hrel
      have Hh := Lib.hid hh; clear hh
      have HB := Lib.hid hb
      by_cases hlt : j < xs.length
      · have hlt2 : j < ys.length := by rw [HL.out]; exact hlt
        obtain ⟨b, o, rfl, hbl, hc0, hc1⟩ := (hx.below hb).atN hlt
        obtain ⟨b2, o2, rfl, hbl2, hd0, hd1⟩ := (hy.below hb).atN hlt2
        by_cases he : xs[j] = ys[j]
        · have HS : Hid (∀ k (h1 : k < xs.length) (h2 : k < ys.length), k < j + 1 → xs[k] = ys[k]) := Lib.hid fun k h1 h2 h3 => by
            rcases Nat.lt_or_ge k j with h | h
            · exact Hh.out k h1 h2 h
            · obtain rfl : k = j := by omega
              exact he
          have hnq := run_neq_node xs[j].1 xs[j].2 ys[j].1 ys[j].2
          have hd : (!(xs[j].1 == ys[j].1 && xs[j].2 == ys[j].2)) = false := by rw [he]; simp
          have hng := run_eqg_node
          rw [hd] at hnq
          generalize xs[j] = x at *
          generalize ys[j] = y at *
          clear hb hd he
          go_wp2
          go_quiet (fail)
          go_wp2
          go_roundw
          case rel => exact ⟨j + 1, by omega, by go_num, HS.out, below_drewN HB.out _⟩
          case measure => simp [intOf]; omega
        · have HE : Hid (decide (xs = ys) = false) := Lib.hid (decide_eq_false fun h => he (by subst h; rfl))
          have hnq := run_neq_node xs[j].1 xs[j].2 ys[j].1 ys[j].2
          have hd : (!(xs[j].1 == ys[j].1 && xs[j].2 == ys[j].2)) = true := by
            rw [Bool.not_eq_true', Bool.eq_false_iff]
            intro h
            simp only [Bool.and_eq_true, beq_iff_eq] at h
            exact he (Prod.ext h.1 h.2)
          have hng := run_eqg_node
          rw [hd] at hnq
          generalize xs[j] = x at *
          generalize ys[j] = y at *
          clear hb hd he
          go_wp2
          go_quiet (fail)
          go_wp2
          go_ret
          exact ⟨by rw [HE.out]; rfl, below_drewN HB.out _⟩
      · have HE : Hid (decide (xs = ys) = true) := Lib.hid (decide_eq_true (List.ext_getElem HL.out.symm fun k h1 h2 => Hh.out k h1 h2 (by omega)))
        clear hb
        go_wp2
        go_ret
        exact ⟨by rw [HE.out]; rfl, HB.out⟩
  · have HE : Hid (decide (xs = ys) = false) := Lib.hid (decide_eq_false fun h => hne (by rw [h]))
    have hn2 : ¬ ((xs.length : Int) = (ys.length : Int)) := by omega
    have hn3 : ((xs.length : Int) != (ys.length : Int)) = true := by simpa using hn2
    clear hx hy
    go_enter Tryz.func143, Tryz.ntmps143
    go_wp2
    go_ret
    exact ⟨by rw [HE.out]; rfl, Below.refl _ _⟩
def SpT (f : Fm) : Prop := ∀ (l : Nat) (v : Value) (w : World), Sl cN w v (enc f) → (enc f).length ≤ 1048576 → f.ok = true →
  Calls Tryz.prog 111 #[v, .int .i64 l] w fun e w' => e = .returned (.string (wrp (lv f) l (tbx f))) ∧ Below w.heap.size w w'
theorem wrp_yes {a b : Nat} (t : ByteArray) (h : a < b) : wrp a b t = ((⟨#[40]⟩ : ByteArray) ++ t) ++ (⟨#[41]⟩ : ByteArray) := by unfold wrp; rw [if_pos h]
theorem wrp_no {a b : Nat} (t : ByteArray) (h : ¬ a < b) : wrp a b t = t := by unfold wrp; rw [if_neg h]
theorem eq_true_imp (a b : Fm) : decide (enc (.bin .imp a b) = [(4, 0), (1, 0), (1, 0)]) = (isfl a && isfl b) := by
  cases a with
  | fls =>
    cases b with
    | fls => rfl
    | var s => simp [enc, isfl]
    | un k x => cases k <;> simp [enc, isfl, UK.i]
    | bin k x y => cases k <;> simp [enc, isfl, BK.i]
  | var s => simp [enc, isfl]
  | un k x => cases k <;> simp [enc, isfl, UK.i]
  | bin k x y => cases k <;> simp [enc, isfl, BK.i]
set_option maxRecDepth 100000 in
theorem sp_fls : SpT (.fls) := by
  intro l v w h hl hok
  have HT : Hid (tbx .fls = ⟨#[70]⟩) := Lib.hid rfl
  have HV : Hid (lv .fls = 3) := Lib.hid rfl
  obtain ⟨A, c, rfl⟩ := h.opn
  obtain ⟨b', o, rfl, hb, h00, h01⟩ := (show Sl cN w (.slice A (enc .fls).length c) [(1, 0)] from h).atN0
  clear h
  have el : (enc .fls).length = 1 := rfl
  rw [el] at *
  have HB0 : Hid (Below w.heap.size w w) := Lib.hid (Below.refl _ _)
  by_cases hlt : 3 < l
  · have HE : Hid (wrp (lv (.fls)) l (tbx (.fls)) = ((⟨#[40]⟩ : ByteArray) ++ ((⟨#[70]⟩ : ByteArray))) ++ (⟨#[41]⟩ : ByteArray)) := Lib.hid (by rw [wrp_yes _ (show lv (.fls) < l by rw [HV.out]; exact hlt), HT.out])
    have i1 : decide ((3 : Int) < (l : Int)) = true := decide_eq_true (by omega)
    have i2 : decide (3 < l) = true := decide_eq_true hlt
    clear hlt
    go_enter Tryz.func111, Tryz.ntmps111
    go_wp2
    go_ret
    exact ⟨by rw [HE.out]; rfl, HB0.out⟩
  · have HE : Hid (wrp (lv (.fls)) l (tbx (.fls)) = (⟨#[70]⟩ : ByteArray)) := Lib.hid (by rw [wrp_no _ (show ¬ lv (.fls) < l by rw [HV.out]; exact hlt), HT.out])
    have i1 : decide ((3 : Int) < (l : Int)) = false := decide_eq_false (by omega)
    have i2 : decide (3 < l) = false := decide_eq_false hlt
    clear hlt
    go_enter Tryz.func111, Tryz.ntmps111
    go_wp2
    go_ret
    exact ⟨by rw [HE.out]; rfl, HB0.out⟩
set_option maxRecDepth 100000 in
theorem sp_var (s : Nat) : SpT (.var s) := by
  intro l v w h hl hok
  have hs : s ≤ 5 := by have := hok; simp only [Fm.ok, decide_eq_true_eq] at this; omega
  have HT : Hid (tbx (.var s) = ltr s) := Lib.hid rfl
  have HV : Hid (lv (.var s) = 3) := Lib.hid rfl
  obtain ⟨A, c, rfl⟩ := h.opn
  obtain ⟨b', o, rfl, hb, h00, h01⟩ := (show Sl cN w (.slice A (enc (.var s)).length c) [(0, (s : Int))] from h).atN0
  clear h
  have el : (enc (.var s)).length = 1 := rfl
  rw [el] at *
  have HB0 : Hid (Below w.heap.size w w) := Lib.hid (Below.refl _ _)
  by_cases hlt : 3 < l
  · have HE : Hid (wrp (lv (.var s)) l (tbx (.var s)) = ((⟨#[40]⟩ : ByteArray) ++ (ltr s)) ++ (⟨#[41]⟩ : ByteArray)) := Lib.hid (by rw [wrp_yes _ (show lv (.var s) < l by rw [HV.out]; exact hlt), HT.out])
    have i1 : decide ((3 : Int) < (l : Int)) = true := decide_eq_true (by omega)
    have i2 : decide (3 < l) = true := decide_eq_true hlt
    clear hlt
    go_enter Tryz.func111, Tryz.ntmps111
    go_wp2
    go_quiet (fail)
    go_wp2
    go_ret
    exact ⟨by rw [HE.out]; rfl, below_drewN (Below.refl _ _) _⟩
  · have HE : Hid (wrp (lv (.var s)) l (tbx (.var s)) = ltr s) := Lib.hid (by rw [wrp_no _ (show ¬ lv (.var s) < l by rw [HV.out]; exact hlt), HT.out])
    have i1 : decide ((3 : Int) < (l : Int)) = false := decide_eq_false (by omega)
    have i2 : decide (3 < l) = false := decide_eq_false hlt
    clear hlt
    go_enter Tryz.func111, Tryz.ntmps111
    go_wp2
    go_quiet (fail)
    go_wp2
    go_ret
    exact ⟨by rw [HE.out]; rfl, below_drewN (Below.refl _ _) _⟩
set_option maxRecDepth 100000 in
theorem sp_box (a : Fm) (iha : SpT a) : SpT (.un .box a) := by
  intro l v w h hl hok
  have hp := enc_pos a
  have sz1 := wtb_size a 3
  obtain ⟨ta, hta⟩ : ∃ ta, wrp (lv a) 3 (tbx a) = ta := ⟨_, rfl⟩
  have HT : Hid (tbx (.un .box a) = (⟨#[91, 93]⟩ : ByteArray) ++ ta) := Lib.hid (by rw [← hta]; rfl)
  have HV : Hid (lv (.un .box a) = 3) := Lib.hid rfl
  have hla : (enc a).length ≤ 1048576 := by simp [enc] at hl; omega
  have HA := Lib.hid (fun u (hu : Sl cN w u (enc a)) => iha 3 u w hu hla hok)
  rw [hta] at HA sz1
  have s1 : ¬ 9223372036854775807 < 2 + ta.size := by omega
  have s2 : ¬ 9223372036854775807 < 1 + (2 + ta.size) := by omega
  have s3 : ¬ 9223372036854775807 < 1 + (2 + ta.size) + 1 := by omega
  have h' : Sl cN w v ((5, 0) :: (enc a ++ [])) := by rw [List.append_nil]; exact h
  obtain ⟨A, c, rfl⟩ := h'.opn
  obtain ⟨-, hcap, hm⟩ := h'.cap
  obtain ⟨b', o, rfl, hb, h00, h01⟩ := h'.atN0
  have hL0 : 1 < (((5 : Int), (0 : Int)) :: (enc a ++ [])).length := by simp; omega
  have hcut := h'.cutAt (A' := some ⟨b', o + 2, none⟩) (n' := (((5 : Int), (0 : Int)) :: (enc a ++ [])).length - 1) (i := 1) (j := (((5 : Int), (0 : Int)) :: (enc a ++ [])).length) (c' := c - 1) (by omega) (by omega) rfl
    (fun b' o' hA => by injection hA with hA; injection hA with h1 h2 _; subst h1; subst h2; rfl) (by omega) (by omega)
  have e1 : List.take ((((5 : Int), (0 : Int)) :: (enc a ++ [])).length - 1) (List.drop 1 (((5 : Int), (0 : Int)) :: (enc a ++ []))) = enc a := by simp
  rw [e1] at hcut
  have HC := Lib.hid (HA.out _ hcut)
  clear h h' sz1 hta e1 hcut hl
  generalize (((5 : Int), (0 : Int)) :: (enc a ++ [])).length = L at *
  have j1 : (1 : Int) ≤ (L : Int) := by omega
  have j2 : (0 : Int) < (L : Int) := by omega
  have j3 : 0 < L := by omega
  have j4 : ¬ c = 1 := by omega
  have HB0 : Hid (Below w.heap.size w w) := Lib.hid (Below.refl _ _)
  by_cases hlt : 3 < l
  · have HE : Hid (wrp (lv (.un .box a)) l (tbx (.un .box a)) = ((⟨#[40]⟩ : ByteArray) ++ ((⟨#[91, 93]⟩ : ByteArray) ++ ta)) ++ (⟨#[41]⟩ : ByteArray)) := Lib.hid (by rw [wrp_yes _ (show lv (.un .box a) < l by rw [HV.out]; exact hlt), HT.out])
    have i1 : decide ((3 : Int) < (l : Int)) = true := decide_eq_true (by omega)
    have i2 : decide (3 < l) = true := decide_eq_true hlt
    clear hlt
    go_enter Tryz.func111, Tryz.ntmps111
    go_wp2_with fail
    refine HC.out.mono ?_
    rintro e w1 ⟨rfl, hb1⟩
    have HB1 := Lib.hid hb1
    clear hb1
    go_wp2
    go_ret
    exact ⟨by rw [HE.out]; rfl, HB1.out⟩
  · have HE : Hid (wrp (lv (.un .box a)) l (tbx (.un .box a)) = (⟨#[91, 93]⟩ : ByteArray) ++ ta) := Lib.hid (by rw [wrp_no _ (show ¬ lv (.un .box a) < l by rw [HV.out]; exact hlt), HT.out])
    have i1 : decide ((3 : Int) < (l : Int)) = false := decide_eq_false (by omega)
    have i2 : decide (3 < l) = false := decide_eq_false hlt
    clear hlt
    go_enter Tryz.func111, Tryz.ntmps111
    go_wp2_with fail
    refine HC.out.mono ?_
    rintro e w1 ⟨rfl, hb1⟩
    have HB1 := Lib.hid hb1
    clear hb1
    go_wp2
    go_ret
    exact ⟨by rw [HE.out]; rfl, HB1.out⟩
set_option maxRecDepth 100000 in
theorem sp_dia (a : Fm) (iha : SpT a) : SpT (.un .dia a) := by
  intro l v w h hl hok
  have hp := enc_pos a
  have sz1 := wtb_size a 3
  obtain ⟨ta, hta⟩ : ∃ ta, wrp (lv a) 3 (tbx a) = ta := ⟨_, rfl⟩
  have HT : Hid (tbx (.un .dia a) = (⟨#[60, 62]⟩ : ByteArray) ++ ta) := Lib.hid (by rw [← hta]; rfl)
  have HV : Hid (lv (.un .dia a) = 3) := Lib.hid rfl
  have hla : (enc a).length ≤ 1048576 := by simp [enc] at hl; omega
  have HA := Lib.hid (fun u (hu : Sl cN w u (enc a)) => iha 3 u w hu hla hok)
  rw [hta] at HA sz1
  have s1 : ¬ 9223372036854775807 < 2 + ta.size := by omega
  have s2 : ¬ 9223372036854775807 < 1 + (2 + ta.size) := by omega
  have s3 : ¬ 9223372036854775807 < 1 + (2 + ta.size) + 1 := by omega
  have h' : Sl cN w v ((6, 0) :: (enc a ++ [])) := by rw [List.append_nil]; exact h
  obtain ⟨A, c, rfl⟩ := h'.opn
  obtain ⟨-, hcap, hm⟩ := h'.cap
  obtain ⟨b', o, rfl, hb, h00, h01⟩ := h'.atN0
  have hL0 : 1 < (((6 : Int), (0 : Int)) :: (enc a ++ [])).length := by simp; omega
  have hcut := h'.cutAt (A' := some ⟨b', o + 2, none⟩) (n' := (((6 : Int), (0 : Int)) :: (enc a ++ [])).length - 1) (i := 1) (j := (((6 : Int), (0 : Int)) :: (enc a ++ [])).length) (c' := c - 1) (by omega) (by omega) rfl
    (fun b' o' hA => by injection hA with hA; injection hA with h1 h2 _; subst h1; subst h2; rfl) (by omega) (by omega)
  have e1 : List.take ((((6 : Int), (0 : Int)) :: (enc a ++ [])).length - 1) (List.drop 1 (((6 : Int), (0 : Int)) :: (enc a ++ []))) = enc a := by simp
  rw [e1] at hcut
  have HC := Lib.hid (HA.out _ hcut)
  clear h h' sz1 hta e1 hcut hl
  generalize (((6 : Int), (0 : Int)) :: (enc a ++ [])).length = L at *
  have j1 : (1 : Int) ≤ (L : Int) := by omega
  have j2 : (0 : Int) < (L : Int) := by omega
  have j3 : 0 < L := by omega
  have j4 : ¬ c = 1 := by omega
  have HB0 : Hid (Below w.heap.size w w) := Lib.hid (Below.refl _ _)
  by_cases hlt : 3 < l
  · have HE : Hid (wrp (lv (.un .dia a)) l (tbx (.un .dia a)) = ((⟨#[40]⟩ : ByteArray) ++ ((⟨#[60, 62]⟩ : ByteArray) ++ ta)) ++ (⟨#[41]⟩ : ByteArray)) := Lib.hid (by rw [wrp_yes _ (show lv (.un .dia a) < l by rw [HV.out]; exact hlt), HT.out])
    have i1 : decide ((3 : Int) < (l : Int)) = true := decide_eq_true (by omega)
    have i2 : decide (3 < l) = true := decide_eq_true hlt
    clear hlt
    go_enter Tryz.func111, Tryz.ntmps111
    go_wp2_with fail
    refine HC.out.mono ?_
    rintro e w1 ⟨rfl, hb1⟩
    have HB1 := Lib.hid hb1
    clear hb1
    go_wp2
    go_ret
    exact ⟨by rw [HE.out]; rfl, HB1.out⟩
  · have HE : Hid (wrp (lv (.un .dia a)) l (tbx (.un .dia a)) = (⟨#[60, 62]⟩ : ByteArray) ++ ta) := Lib.hid (by rw [wrp_no _ (show ¬ lv (.un .dia a) < l by rw [HV.out]; exact hlt), HT.out])
    have i1 : decide ((3 : Int) < (l : Int)) = false := decide_eq_false (by omega)
    have i2 : decide (3 < l) = false := decide_eq_false hlt
    clear hlt
    go_enter Tryz.func111, Tryz.ntmps111
    go_wp2_with fail
    refine HC.out.mono ?_
    rintro e w1 ⟨rfl, hb1⟩
    have HB1 := Lib.hid hb1
    clear hb1
    go_wp2
    go_ret
    exact ⟨by rw [HE.out]; rfl, HB1.out⟩
set_option maxRecDepth 100000 in
theorem sp_and (a b : Fm) (iha : SpT a) (ihb : SpT b) : SpT (.bin .and a b) := by
  intro l v w h hl hok
  have hok1 : a.ok = true := by have := hok; simp [Fm.ok] at this; exact this.1
  have hok2 : b.ok = true := by have := hok; simp [Fm.ok] at this; exact this.2
  have hla : (enc a).length ≤ 1048576 := by simp [enc] at hl; omega
  have hlb : (enc b).length ≤ 1048576 := by simp [enc] at hl; omega
  have sz1 := wtb_size a 2
  have sz2 := wtb_size b 3
  obtain ⟨ta, hta⟩ : ∃ ta, wrp (lv a) 2 (tbx a) = ta := ⟨_, rfl⟩
  obtain ⟨tc, htc⟩ : ∃ tc, wrp (lv b) 3 (tbx b) = tc := ⟨_, rfl⟩
  have HT : Hid (tbx (.bin .and a b) = (ta ++ (⟨#[38]⟩ : ByteArray)) ++ tc) := Lib.hid (by rw [← hta, ← htc]; rfl)
  have HV : Hid (lv (.bin .and a b) = 2) := Lib.hid (rfl)
  have h' : Sl cN w v ((2, 0) :: (enc a ++ enc b)) := h
  have HS := Lib.hid h'
  have H1 := Lib.hid (fun W (hW : Below w.heap.size w W) => left_g v (2, 0) a (enc b) W (h'.below hW) hl)
  have H2 := Lib.hid (fun W (hW : Below w.heap.size w W) => right_g v (2, 0) a b W (h'.below hW) hl)
  have HA := Lib.hid (fun W u (hu : Sl cN W u (enc a)) => iha 2 u W hu hla hok1)
  have HB := Lib.hid (fun W u (hu : Sl cN W u (enc b)) => ihb 3 u W hu hlb hok2)
  rw [hta] at HA sz1
  rw [htc] at HB sz2
  have s1 : ¬ 9223372036854775807 < ta.size + 1 := by omega
  have s2 : ¬ 9223372036854775807 < ta.size + 1 + tc.size := by omega
  have s3 : ¬ 9223372036854775807 < 1 + (ta.size + 1 + tc.size) := by omega
  have s4 : ¬ 9223372036854775807 < 1 + (ta.size + 1 + tc.size) + 1 := by omega
  obtain ⟨A, c, rfl⟩ := h.opn
  obtain ⟨b', o, rfl, hb, h00, h01⟩ := (show Sl cN w (.slice A (enc (.bin .and a b)).length c) ((2, 0) :: (enc a ++ enc b)) from h).atN0
  have hp := enc_pos (.bin .and a b)
  clear h h' sz1 sz2 hta htc hl
  generalize (enc (.bin .and a b)).length = m at *
  have HB0 : Hid (Below w.heap.size w w) := Lib.hid (Below.refl _ _)
  by_cases hlt : 2 < l
  · have HE : Hid (wrp (lv (.bin .and a b)) l (tbx (.bin .and a b)) = ((⟨#[40]⟩ : ByteArray) ++ ((ta ++ (⟨#[38]⟩ : ByteArray)) ++ tc)) ++ (⟨#[41]⟩ : ByteArray)) := Lib.hid (by rw [wrp_yes _ (show lv (.bin .and a b) < l by rw [HV.out]; exact hlt), HT.out])
    have i1 : decide ((2 : Int) < (l : Int)) = true := decide_eq_true (by omega)
    have i2 : decide (2 < l) = true := decide_eq_true hlt
    clear hlt
    go_enter Tryz.func111, Tryz.ntmps111
    have HX0 := HB0
    go_wp2_with fail
    refine (H1.out _ HX0.out).mono ?_
    rintro e w1 ⟨u1, rfl, hu1, rfl⟩
    have HU1 := Lib.hid (HA.out _ u1 (hu1 _ (HS.out.below HX0.out)))
    clear hu1
    go_wp2_with fail
    refine HU1.out.mono ?_
    rintro e w2 ⟨rfl, hb2⟩
    have HX2 := Lib.hid (bthen HX0.out hb2)
    clear hb2
    go_wp2_with fail
    refine (H2.out _ HX2.out).mono ?_
    rintro e w3 ⟨u2, rfl, hu2, rfl⟩
    have HU2 := Lib.hid (HB.out _ u2 (hu2 _ (HS.out.below HX2.out)))
    clear hu2
    go_wp2_with fail
    refine HU2.out.mono ?_
    rintro e w4 ⟨rfl, hb4⟩
    have HX4 := Lib.hid (bthen HX2.out hb4)
    clear hb4
    go_wp2
    go_ret
    exact ⟨by rw [HE.out]; rfl, HX4.out⟩
  · have HE : Hid (wrp (lv (.bin .and a b)) l (tbx (.bin .and a b)) = (ta ++ (⟨#[38]⟩ : ByteArray)) ++ tc) := Lib.hid (by rw [wrp_no _ (show ¬ lv (.bin .and a b) < l by rw [HV.out]; exact hlt), HT.out])
    have i1 : decide ((2 : Int) < (l : Int)) = false := decide_eq_false (by omega)
    have i2 : decide (2 < l) = false := decide_eq_false hlt
    clear hlt
    go_enter Tryz.func111, Tryz.ntmps111
    have HX0 := HB0
    go_wp2_with fail
    refine (H1.out _ HX0.out).mono ?_
    rintro e w1 ⟨u1, rfl, hu1, rfl⟩
    have HU1 := Lib.hid (HA.out _ u1 (hu1 _ (HS.out.below HX0.out)))
    clear hu1
    go_wp2_with fail
    refine HU1.out.mono ?_
    rintro e w2 ⟨rfl, hb2⟩
    have HX2 := Lib.hid (bthen HX0.out hb2)
    clear hb2
    go_wp2_with fail
    refine (H2.out _ HX2.out).mono ?_
    rintro e w3 ⟨u2, rfl, hu2, rfl⟩
    have HU2 := Lib.hid (HB.out _ u2 (hu2 _ (HS.out.below HX2.out)))
    clear hu2
    go_wp2_with fail
    refine HU2.out.mono ?_
    rintro e w4 ⟨rfl, hb4⟩
    have HX4 := Lib.hid (bthen HX2.out hb4)
    clear hb4
    go_wp2
    go_ret
    exact ⟨by rw [HE.out]; rfl, HX4.out⟩
set_option maxRecDepth 100000 in
theorem sp_or (a b : Fm) (iha : SpT a) (ihb : SpT b) : SpT (.bin .or a b) := by
  intro l v w h hl hok
  have hok1 : a.ok = true := by have := hok; simp [Fm.ok] at this; exact this.1
  have hok2 : b.ok = true := by have := hok; simp [Fm.ok] at this; exact this.2
  have hla : (enc a).length ≤ 1048576 := by simp [enc] at hl; omega
  have hlb : (enc b).length ≤ 1048576 := by simp [enc] at hl; omega
  have sz1 := wtb_size a 1
  have sz2 := wtb_size b 2
  obtain ⟨ta, hta⟩ : ∃ ta, wrp (lv a) 1 (tbx a) = ta := ⟨_, rfl⟩
  obtain ⟨tc, htc⟩ : ∃ tc, wrp (lv b) 2 (tbx b) = tc := ⟨_, rfl⟩
  have HT : Hid (tbx (.bin .or a b) = (ta ++ (⟨#[124]⟩ : ByteArray)) ++ tc) := Lib.hid (by rw [← hta, ← htc]; rfl)
  have HV : Hid (lv (.bin .or a b) = 1) := Lib.hid (rfl)
  have h' : Sl cN w v ((3, 0) :: (enc a ++ enc b)) := h
  have HS := Lib.hid h'
  have H1 := Lib.hid (fun W (hW : Below w.heap.size w W) => left_g v (3, 0) a (enc b) W (h'.below hW) hl)
  have H2 := Lib.hid (fun W (hW : Below w.heap.size w W) => right_g v (3, 0) a b W (h'.below hW) hl)
  have HA := Lib.hid (fun W u (hu : Sl cN W u (enc a)) => iha 1 u W hu hla hok1)
  have HB := Lib.hid (fun W u (hu : Sl cN W u (enc b)) => ihb 2 u W hu hlb hok2)
  rw [hta] at HA sz1
  rw [htc] at HB sz2
  have s1 : ¬ 9223372036854775807 < ta.size + 1 := by omega
  have s2 : ¬ 9223372036854775807 < ta.size + 1 + tc.size := by omega
  have s3 : ¬ 9223372036854775807 < 1 + (ta.size + 1 + tc.size) := by omega
  have s4 : ¬ 9223372036854775807 < 1 + (ta.size + 1 + tc.size) + 1 := by omega
  obtain ⟨A, c, rfl⟩ := h.opn
  obtain ⟨b', o, rfl, hb, h00, h01⟩ := (show Sl cN w (.slice A (enc (.bin .or a b)).length c) ((3, 0) :: (enc a ++ enc b)) from h).atN0
  have hp := enc_pos (.bin .or a b)
  clear h h' sz1 sz2 hta htc hl
  generalize (enc (.bin .or a b)).length = m at *
  have HB0 : Hid (Below w.heap.size w w) := Lib.hid (Below.refl _ _)
  by_cases hlt : 1 < l
  · have HE : Hid (wrp (lv (.bin .or a b)) l (tbx (.bin .or a b)) = ((⟨#[40]⟩ : ByteArray) ++ ((ta ++ (⟨#[124]⟩ : ByteArray)) ++ tc)) ++ (⟨#[41]⟩ : ByteArray)) := Lib.hid (by rw [wrp_yes _ (show lv (.bin .or a b) < l by rw [HV.out]; exact hlt), HT.out])
    have i1 : decide ((1 : Int) < (l : Int)) = true := decide_eq_true (by omega)
    have i2 : decide (1 < l) = true := decide_eq_true hlt
    clear hlt
    go_enter Tryz.func111, Tryz.ntmps111
    have HX0 := HB0
    go_wp2_with fail
    refine (H1.out _ HX0.out).mono ?_
    rintro e w1 ⟨u1, rfl, hu1, rfl⟩
    have HU1 := Lib.hid (HA.out _ u1 (hu1 _ (HS.out.below HX0.out)))
    clear hu1
    go_wp2_with fail
    refine HU1.out.mono ?_
    rintro e w2 ⟨rfl, hb2⟩
    have HX2 := Lib.hid (bthen HX0.out hb2)
    clear hb2
    go_wp2_with fail
    refine (H2.out _ HX2.out).mono ?_
    rintro e w3 ⟨u2, rfl, hu2, rfl⟩
    have HU2 := Lib.hid (HB.out _ u2 (hu2 _ (HS.out.below HX2.out)))
    clear hu2
    go_wp2_with fail
    refine HU2.out.mono ?_
    rintro e w4 ⟨rfl, hb4⟩
    have HX4 := Lib.hid (bthen HX2.out hb4)
    clear hb4
    go_wp2
    go_ret
    exact ⟨by rw [HE.out]; rfl, HX4.out⟩
  · have HE : Hid (wrp (lv (.bin .or a b)) l (tbx (.bin .or a b)) = (ta ++ (⟨#[124]⟩ : ByteArray)) ++ tc) := Lib.hid (by rw [wrp_no _ (show ¬ lv (.bin .or a b) < l by rw [HV.out]; exact hlt), HT.out])
    have i1 : decide ((1 : Int) < (l : Int)) = false := decide_eq_false (by omega)
    have i2 : decide (1 < l) = false := decide_eq_false hlt
    clear hlt
    go_enter Tryz.func111, Tryz.ntmps111
    have HX0 := HB0
    go_wp2_with fail
    refine (H1.out _ HX0.out).mono ?_
    rintro e w1 ⟨u1, rfl, hu1, rfl⟩
    have HU1 := Lib.hid (HA.out _ u1 (hu1 _ (HS.out.below HX0.out)))
    clear hu1
    go_wp2_with fail
    refine HU1.out.mono ?_
    rintro e w2 ⟨rfl, hb2⟩
    have HX2 := Lib.hid (bthen HX0.out hb2)
    clear hb2
    go_wp2_with fail
    refine (H2.out _ HX2.out).mono ?_
    rintro e w3 ⟨u2, rfl, hu2, rfl⟩
    have HU2 := Lib.hid (HB.out _ u2 (hu2 _ (HS.out.below HX2.out)))
    clear hu2
    go_wp2_with fail
    refine HU2.out.mono ?_
    rintro e w4 ⟨rfl, hb4⟩
    have HX4 := Lib.hid (bthen HX2.out hb4)
    clear hb4
    go_wp2
    go_ret
    exact ⟨by rw [HE.out]; rfl, HX4.out⟩
set_option maxRecDepth 100000 in
theorem sp_imp (a b : Fm) (iha : SpT a) (ihb : SpT b) (hf : isfl b = false) : SpT (.bin .imp a b) := by
  intro l v w h hl hok
  have hok1 : a.ok = true := by have := hok; simp [Fm.ok] at this; exact this.1
  have hok2 : b.ok = true := by have := hok; simp [Fm.ok] at this; exact this.2
  have hla : (enc a).length ≤ 1048576 := by simp [enc] at hl; omega
  have hlb : (enc b).length ≤ 1048576 := by simp [enc] at hl; omega
  have sz1 := wtb_size a 1
  have sz2 := wtb_size b 0
  obtain ⟨ta, hta⟩ : ∃ ta, wrp (lv a) 1 (tbx a) = ta := ⟨_, rfl⟩
  obtain ⟨tc, htc⟩ : ∃ tc, wrp (lv b) 0 (tbx b) = tc := ⟨_, rfl⟩
  have HT : Hid (tbx (.bin .imp a b) = (ta ++ (⟨#[62]⟩ : ByteArray)) ++ tc) := Lib.hid (by rw [← hta, ← htc]; simp only [tbx, hf]; rfl)
  have HV : Hid (lv (.bin .imp a b) = 0) := Lib.hid (by simp only [lv, hf]; rfl)
  have h' : Sl cN w v ((4, 0) :: (enc a ++ enc b)) := h
  have HS := Lib.hid h'
  have H1 := Lib.hid (fun W (hW : Below w.heap.size w W) => left_g v (4, 0) a (enc b) W (h'.below hW) hl)
  have H2 := Lib.hid (fun W (hW : Below w.heap.size w W) => right_g v (4, 0) a b W (h'.below hW) hl)
  have HA := Lib.hid (fun W u (hu : Sl cN W u (enc a)) => iha 1 u W hu hla hok1)
  have HB := Lib.hid (fun W u (hu : Sl cN W u (enc b)) => ihb 0 u W hu hlb hok2)
  rw [hta] at HA sz1
  rw [htc] at HB sz2
  have s1 : ¬ 9223372036854775807 < ta.size + 1 := by omega
  have s2 : ¬ 9223372036854775807 < ta.size + 1 + tc.size := by omega
  have s3 : ¬ 9223372036854775807 < 1 + (ta.size + 1 + tc.size) := by omega
  have s4 : ¬ 9223372036854775807 < 1 + (ta.size + 1 + tc.size) + 1 := by omega
  have HQ := Lib.hid (fun W (hW : Below w.heap.size w W) u (hu : Sl cN W u [(4, 0), (1, 0), (1, 0)]) => spec_l02Equal v u (enc (.bin .imp a b)) _ W (h.below hW) hu (by omega) (by simp))
  rw [eq_true_imp, hf, Bool.and_false] at HQ
  have hk1 : (kd b == 1) = false := by
    cases b with
    | fls => simp [isfl] at hf
    | var s => rfl
    | un k x => cases k <;> rfl
    | bin k x y => cases k <;> rfl
  obtain ⟨kb, hkb⟩ : ∃ kb, kd b = kb := ⟨_, rfl⟩
  have HKB := Lib.hid hkb
  rw [hkb] at hk1
  clear hkb
  obtain ⟨A, c, rfl⟩ := h.opn
  obtain ⟨b', o, rfl, hb, h00, h01⟩ := (show Sl cN w (.slice A (enc (.bin .imp a b)).length c) ((4, 0) :: (enc a ++ enc b)) from h).atN0
  have hp := enc_pos (.bin .imp a b)
  clear h h' sz1 sz2 hta htc hl
  generalize (enc (.bin .imp a b)).length = m at *
  have HB0 : Hid (Below w.heap.size w w) := Lib.hid (Below.refl _ _)
  by_cases hlt : 0 < l
  · have HE : Hid (wrp (lv (.bin .imp a b)) l (tbx (.bin .imp a b)) = ((⟨#[40]⟩ : ByteArray) ++ ((ta ++ (⟨#[62]⟩ : ByteArray)) ++ tc)) ++ (⟨#[41]⟩ : ByteArray)) := Lib.hid (by rw [wrp_yes _ (show lv (.bin .imp a b) < l by rw [HV.out]; exact hlt), HT.out])
    have i1 : decide ((0 : Int) < (l : Int)) = true := decide_eq_true (by omega)
    have i2 : decide (0 < l) = true := decide_eq_true hlt
    clear hlt
    go_enter Tryz.func111, Tryz.ntmps111
    have HX0 := HB0
    go_wp2_with fail
    refine (spec_l02True _).mono ?_
    rintro e w5 ⟨u5, rfl, hu5, hb5⟩
    have HX5 := Lib.hid (bthen HX0.out hb5)
    have HE5 := Lib.hid (HQ.out _ HX5.out u5 hu5.sl)
    clear hu5 hb5
    go_wp2_with fail
    refine HE5.out.mono ?_
    rintro e w6 ⟨rfl, hb6⟩
    have HX6 := Lib.hid (bthen HX5.out hb6)
    clear hb6
    clear HX0
    go_wp2_with fail
    refine (H2.out _ HX6.out).mono ?_
    rintro e w7 ⟨u7, rfl, hu7, rfl⟩
    have hk7 := hu7 _ (HS.out.below HX6.out)
    obtain ⟨A7, c7, rfl⟩ := hk7.opn
    obtain ⟨b7, o7, y7, rfl, hb7, g70, g71⟩ := kd_cell hk7
    rw [HKB.out] at g70
    have hp7 := enc_pos b
    have HX0 := HX6
    clear hk7 hu7
    generalize (enc b).length = m7 at *
    go_wp2_with fail
    refine (H1.out _ HX0.out).mono ?_
    rintro e w1 ⟨u1, rfl, hu1, rfl⟩
    have HU1 := Lib.hid (HA.out _ u1 (hu1 _ (HS.out.below HX0.out)))
    clear hu1
    go_wp2_with fail
    refine HU1.out.mono ?_
    rintro e w2 ⟨rfl, hb2⟩
    have HX2 := Lib.hid (bthen HX0.out hb2)
    clear hb2
    go_wp2_with fail
    refine (H2.out _ HX2.out).mono ?_
    rintro e w3 ⟨u2, rfl, hu2, rfl⟩
    have HU2 := Lib.hid (HB.out _ u2 (hu2 _ (HS.out.below HX2.out)))
    clear hu2
    go_wp2_with fail
    refine HU2.out.mono ?_
    rintro e w4 ⟨rfl, hb4⟩
    have HX4 := Lib.hid (bthen HX2.out hb4)
    clear hb4
    go_wp2
    go_ret
    exact ⟨by rw [HE.out]; rfl, HX4.out⟩
  · have HE : Hid (wrp (lv (.bin .imp a b)) l (tbx (.bin .imp a b)) = (ta ++ (⟨#[62]⟩ : ByteArray)) ++ tc) := Lib.hid (by rw [wrp_no _ (show ¬ lv (.bin .imp a b) < l by rw [HV.out]; exact hlt), HT.out])
    have i1 : decide ((0 : Int) < (l : Int)) = false := decide_eq_false (by omega)
    have i2 : decide (0 < l) = false := decide_eq_false hlt
    clear hlt
    go_enter Tryz.func111, Tryz.ntmps111
    have HX0 := HB0
    go_wp2_with fail
    refine (spec_l02True _).mono ?_
    rintro e w5 ⟨u5, rfl, hu5, hb5⟩
    have HX5 := Lib.hid (bthen HX0.out hb5)
    have HE5 := Lib.hid (HQ.out _ HX5.out u5 hu5.sl)
    clear hu5 hb5
    go_wp2_with fail
    refine HE5.out.mono ?_
    rintro e w6 ⟨rfl, hb6⟩
    have HX6 := Lib.hid (bthen HX5.out hb6)
    clear hb6
    clear HX0
    go_wp2_with fail
    refine (H2.out _ HX6.out).mono ?_
    rintro e w7 ⟨u7, rfl, hu7, rfl⟩
    have hk7 := hu7 _ (HS.out.below HX6.out)
    obtain ⟨A7, c7, rfl⟩ := hk7.opn
    obtain ⟨b7, o7, y7, rfl, hb7, g70, g71⟩ := kd_cell hk7
    rw [HKB.out] at g70
    have hp7 := enc_pos b
    have HX0 := HX6
    clear hk7 hu7
    generalize (enc b).length = m7 at *
    go_wp2_with fail
    refine (H1.out _ HX0.out).mono ?_
    rintro e w1 ⟨u1, rfl, hu1, rfl⟩
    have HU1 := Lib.hid (HA.out _ u1 (hu1 _ (HS.out.below HX0.out)))
    clear hu1
    go_wp2_with fail
    refine HU1.out.mono ?_
    rintro e w2 ⟨rfl, hb2⟩
    have HX2 := Lib.hid (bthen HX0.out hb2)
    clear hb2
    go_wp2_with fail
    refine (H2.out _ HX2.out).mono ?_
    rintro e w3 ⟨u2, rfl, hu2, rfl⟩
    have HU2 := Lib.hid (HB.out _ u2 (hu2 _ (HS.out.below HX2.out)))
    clear hu2
    go_wp2_with fail
    refine HU2.out.mono ?_
    rintro e w4 ⟨rfl, hb4⟩
    have HX4 := Lib.hid (bthen HX2.out hb4)
    clear hb4
    go_wp2
    go_ret
    exact ⟨by rw [HE.out]; rfl, HX4.out⟩
set_option maxRecDepth 100000 in
theorem sp_neg (a b : Fm) (iha : SpT a) (hf : isfl b = true) (hfa : isfl a = false) : SpT (.bin .imp a b) := by
  intro l v w h hl hok
  have hok1 : a.ok = true := by have := hok; simp [Fm.ok] at this; exact this.1
  have hla : (enc a).length ≤ 1048576 := by simp [enc] at hl; omega
  have sz1 := wtb_size a 3
  obtain ⟨ta, hta⟩ : ∃ ta, wrp (lv a) 3 (tbx a) = ta := ⟨_, rfl⟩
  have HT : Hid (tbx (.bin .imp a b) = (⟨#[126]⟩ : ByteArray) ++ ta) := Lib.hid (by (try rw [← hta]); simp only [tbx, hf, hfa]; rfl)
  have HV : Hid (lv (.bin .imp a b) = 3) := Lib.hid (by simp only [lv, hf]; rfl)
  have h' : Sl cN w v ((4, 0) :: (enc a ++ enc b)) := h
  have HS := Lib.hid h'
  have H1 := Lib.hid (fun W (hW : Below w.heap.size w W) => left_g v (4, 0) a (enc b) W (h'.below hW) hl)
  have H2 := Lib.hid (fun W (hW : Below w.heap.size w W) => right_g v (4, 0) a b W (h'.below hW) hl)
  have HA := Lib.hid (fun W u (hu : Sl cN W u (enc a)) => iha 3 u W hu hla hok1)
  rw [hta] at HA sz1
  have s1 : ¬ 9223372036854775807 < 1 + ta.size := by omega
  have s3 : ¬ 9223372036854775807 < 1 + (1 + ta.size) := by omega
  have s4 : ¬ 9223372036854775807 < 1 + (1 + ta.size) + 1 := by omega
  have HQ := Lib.hid (fun W (hW : Below w.heap.size w W) u (hu : Sl cN W u [(4, 0), (1, 0), (1, 0)]) => spec_l02Equal v u (enc (.bin .imp a b)) _ W (h.below hW) hu (by omega) (by simp))
  rw [eq_true_imp, hf, hfa] at HQ
  have hbf : b = .fls := (isfl_iff b).1 hf
  have HKB : Hid (kd b = 1) := Lib.hid (by rw [hbf]; rfl)
  obtain ⟨A, c, rfl⟩ := h.opn
  obtain ⟨b', o, rfl, hb, h00, h01⟩ := (show Sl cN w (.slice A (enc (.bin .imp a b)).length c) ((4, 0) :: (enc a ++ enc b)) from h).atN0
  have hp := enc_pos (.bin .imp a b)
  clear h h' sz1 hta hl hf hfa hbf
  generalize (enc (.bin .imp a b)).length = m at *
  have HB0 : Hid (Below w.heap.size w w) := Lib.hid (Below.refl _ _)
  by_cases hlt : 3 < l
  · have HE : Hid (wrp (lv (.bin .imp a b)) l (tbx (.bin .imp a b)) = ((⟨#[40]⟩ : ByteArray) ++ ((⟨#[126]⟩ : ByteArray) ++ ta)) ++ (⟨#[41]⟩ : ByteArray)) := Lib.hid (by rw [wrp_yes _ (show lv (.bin .imp a b) < l by rw [HV.out]; exact hlt), HT.out])
    have i1 : decide ((3 : Int) < (l : Int)) = true := decide_eq_true (by omega)
    have i2 : decide (3 < l) = true := decide_eq_true hlt
    clear hlt
    go_enter Tryz.func111, Tryz.ntmps111
    have HX0 := HB0
    go_wp2_with fail
    refine (spec_l02True _).mono ?_
    rintro e w5 ⟨u5, rfl, hu5, hb5⟩
    have HX5 := Lib.hid (bthen HX0.out hb5)
    have HE5 := Lib.hid (HQ.out _ HX5.out u5 hu5.sl)
    clear hu5 hb5
    go_wp2_with fail
    refine HE5.out.mono ?_
    rintro e w6 ⟨rfl, hb6⟩
    have HX6 := Lib.hid (bthen HX5.out hb6)
    clear hb6
    clear HX0
    go_wp2_with fail
    refine (H2.out _ HX6.out).mono ?_
    rintro e w7 ⟨u7, rfl, hu7, rfl⟩
    have hk7 := hu7 _ (HS.out.below HX6.out)
    obtain ⟨A7, c7, rfl⟩ := hk7.opn
    obtain ⟨b7, o7, y7, rfl, hb7, g70, g71⟩ := kd_cell hk7
    rw [HKB.out] at g70
    have hp7 := enc_pos b
    clear hk7 hu7
    generalize (enc b).length = m7 at *
    go_wp2_with fail
    refine (H1.out _ HX6.out).mono ?_
    rintro e w1 ⟨u1, rfl, hu1, rfl⟩
    have HU1 := Lib.hid (HA.out _ u1 (hu1 _ (HS.out.below HX6.out)))
    clear hu1
    go_wp2_with fail
    refine HU1.out.mono ?_
    rintro e w2 ⟨rfl, hb2⟩
    have HX2 := Lib.hid (bthen HX6.out hb2)
    clear hb2
    go_wp2
    go_ret
    exact ⟨by rw [HE.out]; rfl, HX2.out⟩
  · have HE : Hid (wrp (lv (.bin .imp a b)) l (tbx (.bin .imp a b)) = (⟨#[126]⟩ : ByteArray) ++ ta) := Lib.hid (by rw [wrp_no _ (show ¬ lv (.bin .imp a b) < l by rw [HV.out]; exact hlt), HT.out])
    have i1 : decide ((3 : Int) < (l : Int)) = false := decide_eq_false (by omega)
    have i2 : decide (3 < l) = false := decide_eq_false hlt
    clear hlt
    go_enter Tryz.func111, Tryz.ntmps111
    have HX0 := HB0
    go_wp2_with fail
    refine (spec_l02True _).mono ?_
    rintro e w5 ⟨u5, rfl, hu5, hb5⟩
    have HX5 := Lib.hid (bthen HX0.out hb5)
    have HE5 := Lib.hid (HQ.out _ HX5.out u5 hu5.sl)
    clear hu5 hb5
    go_wp2_with fail
    refine HE5.out.mono ?_
    rintro e w6 ⟨rfl, hb6⟩
    have HX6 := Lib.hid (bthen HX5.out hb6)
    clear hb6
    clear HX0
    go_wp2_with fail
    refine (H2.out _ HX6.out).mono ?_
    rintro e w7 ⟨u7, rfl, hu7, rfl⟩
    have hk7 := hu7 _ (HS.out.below HX6.out)
    obtain ⟨A7, c7, rfl⟩ := hk7.opn
    obtain ⟨b7, o7, y7, rfl, hb7, g70, g71⟩ := kd_cell hk7
    rw [HKB.out] at g70
    have hp7 := enc_pos b
    clear hk7 hu7
    generalize (enc b).length = m7 at *
    go_wp2_with fail
    refine (H1.out _ HX6.out).mono ?_
    rintro e w1 ⟨u1, rfl, hu1, rfl⟩
    have HU1 := Lib.hid (HA.out _ u1 (hu1 _ (HS.out.below HX6.out)))
    clear hu1
    go_wp2_with fail
    refine HU1.out.mono ?_
    rintro e w2 ⟨rfl, hb2⟩
    have HX2 := Lib.hid (bthen HX6.out hb2)
    clear hb2
    go_wp2
    go_ret
    exact ⟨by rw [HE.out]; rfl, HX2.out⟩
set_option maxRecDepth 100000 in
theorem sp_tru (a b : Fm) (iha : SpT a) (hf : isfl b = true) (hfa : isfl a = true) : SpT (.bin .imp a b) := by
  intro l v w h hl hok
  have hok1 : a.ok = true := by have := hok; simp [Fm.ok] at this; exact this.1
  have hla : (enc a).length ≤ 1048576 := by simp [enc] at hl; omega
  have sz1 := wtb_size a 3
  obtain ⟨ta, hta⟩ : ∃ ta, wrp (lv a) 3 (tbx a) = ta := ⟨_, rfl⟩
  have HT : Hid (tbx (.bin .imp a b) = (⟨#[84]⟩ : ByteArray)) := Lib.hid (by (try rw [← hta]); simp only [tbx, hf, hfa]; rfl)
  have HV : Hid (lv (.bin .imp a b) = 3) := Lib.hid (by simp only [lv, hf]; rfl)
  have h' : Sl cN w v ((4, 0) :: (enc a ++ enc b)) := h
  have HS := Lib.hid h'
  have H1 := Lib.hid (fun W (hW : Below w.heap.size w W) => left_g v (4, 0) a (enc b) W (h'.below hW) hl)
  have H2 := Lib.hid (fun W (hW : Below w.heap.size w W) => right_g v (4, 0) a b W (h'.below hW) hl)
  have HA := Lib.hid (fun W u (hu : Sl cN W u (enc a)) => iha 3 u W hu hla hok1)
  rw [hta] at HA sz1
  have s1 : ¬ 9223372036854775807 < 1 + ta.size := by omega
  have s3 : ¬ 9223372036854775807 < 1 + (1 + ta.size) := by omega
  have s4 : ¬ 9223372036854775807 < 1 + (1 + ta.size) + 1 := by omega
  have HQ := Lib.hid (fun W (hW : Below w.heap.size w W) u (hu : Sl cN W u [(4, 0), (1, 0), (1, 0)]) => spec_l02Equal v u (enc (.bin .imp a b)) _ W (h.below hW) hu (by omega) (by simp))
  rw [eq_true_imp, hf, hfa] at HQ
  have hbf : b = .fls := (isfl_iff b).1 hf
  have HKB : Hid (kd b = 1) := Lib.hid (by rw [hbf]; rfl)
  obtain ⟨A, c, rfl⟩ := h.opn
  obtain ⟨b', o, rfl, hb, h00, h01⟩ := (show Sl cN w (.slice A (enc (.bin .imp a b)).length c) ((4, 0) :: (enc a ++ enc b)) from h).atN0
  have hp := enc_pos (.bin .imp a b)
  clear h h' sz1 hta hl hf hfa hbf
  generalize (enc (.bin .imp a b)).length = m at *
  have HB0 : Hid (Below w.heap.size w w) := Lib.hid (Below.refl _ _)
  by_cases hlt : 3 < l
  · have HE : Hid (wrp (lv (.bin .imp a b)) l (tbx (.bin .imp a b)) = ((⟨#[40]⟩ : ByteArray) ++ ((⟨#[84]⟩ : ByteArray))) ++ (⟨#[41]⟩ : ByteArray)) := Lib.hid (by rw [wrp_yes _ (show lv (.bin .imp a b) < l by rw [HV.out]; exact hlt), HT.out])
    have i1 : decide ((3 : Int) < (l : Int)) = true := decide_eq_true (by omega)
    have i2 : decide (3 < l) = true := decide_eq_true hlt
    clear hlt
    go_enter Tryz.func111, Tryz.ntmps111
    have HX0 := HB0
    go_wp2_with fail
    refine (spec_l02True _).mono ?_
    rintro e w5 ⟨u5, rfl, hu5, hb5⟩
    have HX5 := Lib.hid (bthen HX0.out hb5)
    have HE5 := Lib.hid (HQ.out _ HX5.out u5 hu5.sl)
    clear hu5 hb5
    go_wp2_with fail
    refine HE5.out.mono ?_
    rintro e w6 ⟨rfl, hb6⟩
    have HX6 := Lib.hid (bthen HX5.out hb6)
    clear hb6
    clear HX0
    go_wp2
    go_ret
    exact ⟨by rw [HE.out]; rfl, HX6.out⟩
  · have HE : Hid (wrp (lv (.bin .imp a b)) l (tbx (.bin .imp a b)) = (⟨#[84]⟩ : ByteArray)) := Lib.hid (by rw [wrp_no _ (show ¬ lv (.bin .imp a b) < l by rw [HV.out]; exact hlt), HT.out])
    have i1 : decide ((3 : Int) < (l : Int)) = false := decide_eq_false (by omega)
    have i2 : decide (3 < l) = false := decide_eq_false hlt
    clear hlt
    go_enter Tryz.func111, Tryz.ntmps111
    have HX0 := HB0
    go_wp2_with fail
    refine (spec_l02True _).mono ?_
    rintro e w5 ⟨u5, rfl, hu5, hb5⟩
    have HX5 := Lib.hid (bthen HX0.out hb5)
    have HE5 := Lib.hid (HQ.out _ HX5.out u5 hu5.sl)
    clear hu5 hb5
    go_wp2_with fail
    refine HE5.out.mono ?_
    rintro e w6 ⟨rfl, hb6⟩
    have HX6 := Lib.hid (bthen HX5.out hb6)
    clear hb6
    clear HX0
    go_wp2
    go_ret
    exact ⟨by rw [HE.out]; rfl, HX6.out⟩
theorem spec_l02Write (f : Fm) : SpT f := by
  induction f with
  | var s => exact sp_var s
  | fls => exact sp_fls
  | un k a ih => cases k; exact sp_box a ih; exact sp_dia a ih
  | bin k a b iha ihb =>
    cases k
    · exact sp_and a b iha ihb
    · exact sp_or a b iha ihb
    · cases hf : isfl b
      · exact sp_imp a b iha ihb hf
      · cases hfa : isfl a
        · exact sp_neg a b iha hf hfa
        · exact sp_tru a b iha hf hfa
theorem spec_l02Text (f : Fm) (v : Value) (w : World) (h : Sl cN w v (enc f)) (hl : (enc f).length ≤ 1048576) (hok : f.ok = true) :
    Calls Tryz.prog 81 #[v] w fun e w' => e = .returned (.string (txt f)) ∧ Below w.heap.size w w' := by
  have HT := Lib.hid (spec_l02Write f 0 v w h hl hok)
  clear h
  go_enter Tryz.func81, Tryz.ntmps81
  go_wp2_with fail
  refine HT.out.mono ?_
  rintro e w1 ⟨rfl, hb⟩
  have HB := Lib.hid hb
  clear hb
  go_wp2
  go_ret
  exact ⟨rfl, HB.out⟩
end Go.Proofs.YtboldkahppdmbaaGreatDoor
