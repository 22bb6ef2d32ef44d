/- Contracts of chapter 2: the text of a formula, of the program. -/
import Derived.Test.YtaigiopoogbbbaaGreatY10
import Derived.Test.YtaigiopoogbbbaaGreatY14
import Derived.Test.YtaigiopoogbbbaaGreatY15
namespace Go.Proofs.YtaigiopoogbbbaaGreat
open Go.RowKit
set_option linter.unusedVariables false
set_option linter.unusedSimpArgs false
theorem part_gQ (v : Value) (xs : List Nd) (i j : Nat) (w : World) (h : Sl cN w v xs) (hl : xs.length ≤ 1048576) (hi : i < j) (hj : j ≤ xs.length) (hp : pe (xs.drop i) 1 i = j) :
    Calls Tryz.prog 76 #[v, .int .i64 i] w fun e w' => ∃ u, e = .returned u ∧ (∀ W0, Sl cN W0 v xs → Sl cN W0 u ((xs.drop i).take (j - i))) ∧ w = w' := by
  obtain ⟨A, c, rfl⟩ := h.opn
  obtain ⟨-, hc, hm⟩ := h.cap
  have HP := Lib.hid hp; clear hp
  have HC := Lib.hid (fun W0 (h0 : Sl cN W0 (.slice A xs.length c) xs) => h0.cut (i := i) (j := j) (c' := j - i) (by omega) hj (Nat.le_refl _) (by omega))
  go_enter Tryz.func76, Tryz.ntmps76
  go_wp2_with fail
  refine (impl_partEnd _ xs i _ h (by omega) (by omega)).mono ?_
  rintro e w1 ⟨rfl, rfl⟩
  rw [HP.out]
  go_wp2_with fail
  refine (impl_partEnd _ xs i _ h (by omega) (by omega)).mono ?_
  rintro e w1 ⟨rfl, rfl⟩
  rw [HP.out]
  have hji : ¬ j = i := by omega
  go_wp2
  go_ret
  exact ⟨_, rfl, HC.out, rfl⟩
theorem first_gQ (v : Value) (n : Nd) (f : Fm) (rest : List Nd) (w : World) (h : Sl cN w v (n :: (enc f ++ rest))) (hl : (n :: (enc f ++ rest)).length ≤ 1048576) :
    Calls Tryz.prog 67 #[v] w fun e w' => ∃ u, e = .returned u ∧ (∀ W0, Sl cN W0 v (n :: (enc f ++ rest)) → Sl cN W0 u (enc f)) ∧ w = w' := by
  have hp := part_gQ v _ 1 (1 + (enc f).length) w h hl (by have := enc_pos f; omega) (by simp; omega) (pe_first n f rest)
  rw [Nat.add_sub_cancel_left, take_enc] at hp
  have HP := Lib.hid hp; clear hp
  go_enter Tryz.func67, Tryz.ntmps67
  go_wp2_with fail
  refine HP.out.mono ?_
  rintro e w1 ⟨u, rfl, hs, rfl⟩
  have HS := Lib.hid hs; clear hs
  go_wp2
  go_ret
  exact ⟨_, rfl, HS.out, rfl⟩
theorem second_gQ (v : Value) (n : Nd) (f g : Fm) (rest : List Nd) (w : World) (h : Sl cN w v (n :: (enc f ++ (enc g ++ rest)))) (hl : (n :: (enc f ++ (enc g ++ rest))).length ≤ 1048576) :
    Calls Tryz.prog 68 #[v] w fun e w' => ∃ u, e = .returned u ∧ (∀ W0, Sl cN W0 v (n :: (enc f ++ (enc g ++ rest))) → Sl cN W0 u (enc g)) ∧ w = w' := by
  have hp := part_gQ v _ (1 + (enc f).length) (1 + (enc f).length + (enc g).length) w h hl (by have := enc_pos g; omega) (by simp; omega) (pe_second n f g rest)
  rw [Nat.add_sub_cancel_left, Nat.add_comm 1 (enc f).length, take_enc2] at hp
  have HP := Lib.hid hp; clear hp
  have h1 := impl_partEnd v _ 1 w h (by omega) (by omega)
  rw [show ((1 : Nat) : Int) = 1 from rfl, pe_first n f (enc g ++ rest), Nat.add_comm 1 (enc f).length] at h1
  have H1 := Lib.hid h1; clear h1
  go_enter Tryz.func68, Tryz.ntmps68
  go_wp2_with fail
  refine H1.out.mono ?_
  rintro e w1 ⟨rfl, rfl⟩
  go_wp2_with fail
  refine HP.out.mono ?_
  rintro e w1 ⟨u, rfl, hs, rfl⟩
  have HS := Lib.hid hs; clear hs
  go_wp2
  go_ret
  exact ⟨_, rfl, HS.out, rfl⟩
def kd : Fm → Int | .var s => 0 | .fls => 1 | .bin k a b => k.i | .un k a => k.i
theorem kd_cell {w : World} {A : Option Addr} {n c : Nat} {f : Fm} (h : Sl cN w (.slice A n c) (enc f)) : ∃ b o y, A = some ⟨b, o, none⟩ ∧ b < w.heap.size ∧ w.cell? ⟨b, o, none⟩ = some (.int .i64 (kd f)) ∧ w.cell? ⟨b, o + 1, none⟩ = some (.int .i64 y) := by
  cases f with
  | var s => obtain ⟨b, o, hA, hb, h0, h1⟩ := h.atN0; exact ⟨b, o, _, hA, hb, h0, h1⟩
  | fls => obtain ⟨b, o, hA, hb, h0, h1⟩ := (show Sl cN w (.slice A n c) [(1, 0)] from h).atN0; exact ⟨b, o, _, hA, hb, h0, h1⟩
  | bin k a b => obtain ⟨b', o, hA, hb, h0, h1⟩ := (show Sl cN w (.slice A n c) ((k.i, 0) :: (enc a ++ enc b)) from h).atN0; exact ⟨b', o, _, hA, hb, h0, h1⟩
  | un k a => obtain ⟨b', o, hA, hb, h0, h1⟩ := (show Sl cN w (.slice A n c) ((k.i, 0) :: enc a) from h).atN0; exact ⟨b', o, _, hA, hb, h0, h1⟩
theorem enc_pos' (f : Fm) : 1 ≤ (enc f).length := enc_pos f
theorem impl_isFalsum (f : Fm) (v : Value) (w : World) (h : Sl cN w v (enc f)) :
    Calls Tryz.prog 70 #[v] w fun e w' => e = .returned (.bool (isfl f)) ∧ w = w' := by
  obtain ⟨A, c, rfl⟩ := h.opn
  obtain ⟨b, o, y, rfl, hb, h0, h1⟩ := kd_cell h
  have hp := enc_pos f
  have hz : (kd f == 1) = isfl f := by
    cases f with
    | bin k a b => cases k <;> rfl
    | un k a => cases k <;> rfl
    | _ => rfl
  have HZ := Lib.hid hz
  clear h hz
  generalize isfl f = z at *
  generalize kd f = k at *
  obtain ⟨m, hm⟩ : ∃ m, (enc f).length = m := ⟨_, rfl⟩
  rw [hm] at hp ⊢
  clear hm
  go_enter Tryz.func70, Tryz.ntmps70
  go_wp2
  go_ret
  exact ⟨by rw [← HZ.out]; rfl, rfl⟩
theorem impl_isNegation_imp (a b : Fm) (v : Value) (w : World) (h : Sl cN w v (enc (.bin .imp a b))) (hl : (enc (.bin .imp a b)).length ≤ 1048576) :
    Calls Tryz.prog 69 #[v] w fun e w' => e = .returned (.bool (isfl b)) ∧ w = w' := by
  obtain ⟨A, c, rfl⟩ := h.opn
  obtain ⟨b', o, y, rfl, hb, h0, h1⟩ := kd_cell h
  have h' : Sl cN w (.slice (some ⟨b', o, none⟩) (enc (.bin .imp a b)).length c) ((4, 0) :: (enc a ++ (enc b ++ []))) := by rw [List.append_nil]; exact h
  have HS := Lib.hid (second_gQ _ (4, 0) a b [] w h' (by rw [List.append_nil]; exact hl))
  have HF := Lib.hid (fun u (hu : Sl cN w u (enc b)) => impl_isFalsum b u w hu)
  have HH := Lib.hid h'
  have hp := enc_pos (.bin .imp a b)
  have hk : w.cell? ⟨b', o, none⟩ = some (.int .i64 4) := h0
  clear h h' h0 hl
  generalize (enc (.bin .imp a b)).length = m at *
  go_enter Tryz.func69, Tryz.ntmps69
  go_wp2_with fail
  refine HS.out.mono ?_
  rintro e w1 ⟨u, rfl, hu, rfl⟩
  have HU := Lib.hid (HF.out u (hu w HH.out))
  clear hu
  go_wp2_with fail
  refine HU.out.mono ?_
  rintro e w1 ⟨rfl, rfl⟩
  go_wp2
  go_ret
  exact ⟨rfl, rfl⟩
theorem impl_isNegation_no (f : Fm) (v : Value) (w : World) (h : Sl cN w v (enc f)) (hk : ¬ kd f = 4) :
    Calls Tryz.prog 69 #[v] w fun e w' => e = .returned (.bool false) ∧ w = w' := by
  obtain ⟨A, c, rfl⟩ := h.opn
  obtain ⟨b', o, y, rfl, hb, h0, h1⟩ := kd_cell h
  have hp := enc_pos f
  have hk' : (kd f == 4) = false := by simpa using hk
  clear h hk
  generalize kd f = k at *
  generalize (enc f).length = m at *
  go_enter Tryz.func69, Tryz.ntmps69
  go_wp2
  go_ret
  exact ⟨rfl, rfl⟩
theorem impl_levelOf (f : Fm) (v : Value) (w : World) (h : Sl cN w v (enc f)) (hl : (enc f).length ≤ 1048576) :
    Calls Tryz.prog 66 #[v] w fun e w' => e = .returned (.int .i64 (lv f : Nat)) ∧ w = w' := by
  obtain ⟨A, c, rfl⟩ := h.opn
  obtain ⟨b', o, y, rfl, hb, h0, h1⟩ := kd_cell h
  have hp := enc_pos f
  by_cases hk : kd f = 4
  · obtain ⟨a, b, rfl⟩ : ∃ a b, f = .bin .imp a b := by
      cases f with
      | bin k a b => cases k <;> first | exact ⟨a, b, rfl⟩ | (simp [kd, BK.i] at hk)
      | un k a => cases k <;> simp [kd, UK.i] at hk
      | var s => simp [kd] at hk
      | fls => simp [kd] at hk
    have HN := Lib.hid (impl_isNegation_imp a b _ w h hl)
    have h00 : w.cell? ⟨b', o, none⟩ = some (.int .i64 4) := h0
    have HE : Hid (lv (.bin .imp a b) = if isfl b then 3 else 0) := Lib.hid rfl
    clear h h0 hk hl
    generalize (enc (.bin .imp a b)).length = m at *
    generalize isfl b = z at *
    cases z
    all_goals
      go_enter Tryz.func66, Tryz.ntmps66
      go_wp2_with fail
      refine HN.out.mono ?_
      rintro e w1 ⟨rfl, rfl⟩
      go_wp2
      go_ret
      exact ⟨by rw [HE.out]; rfl, rfl⟩
  · have hk4 : (kd f == 4) = false := by simpa using hk
    have HE : Hid ((lv f : Int) = if (kd f == 3) = true then 1 else if (kd f == 2) = true then 2 else 3) := Lib.hid (by
      cases f with
      | bin k a b => cases k <;> first | rfl | exact absurd rfl hk
      | un k a => cases k <;> rfl
      | var s => rfl
      | fls => rfl)
    clear h hk hl
    generalize (enc f).length = m at *
    generalize kd f = k at *
    by_cases h3 : (k == 3) = true
    · have HE2 : Hid ((lv f : Int) = 1) := Lib.hid (by rw [HE.out, if_pos h3])
      clear HE
      go_enter Tryz.func66, Tryz.ntmps66
      go_wp2
      go_ret
      exact ⟨by rw [HE2.out]; rfl, rfl⟩
    · have h3' : (k == 3) = false := by simpa using h3
      by_cases h2 : (k == 2) = true
      · have HE2 : Hid ((lv f : Int) = 2) := Lib.hid (by rw [HE.out, if_neg h3, if_pos h2])
        clear HE h3
        go_enter Tryz.func66, Tryz.ntmps66
        go_wp2
        go_ret
        exact ⟨by rw [HE2.out]; rfl, rfl⟩
      · have h2' : (k == 2) = false := by simpa using h2
        have HE2 : Hid ((lv f : Int) = 3) := Lib.hid (by rw [HE.out, if_neg h3, if_neg h2])
        clear HE h3 h2
        go_enter Tryz.func66, Tryz.ntmps66
        go_wp2
        go_ret
        exact ⟨by rw [HE2.out]; rfl, rfl⟩
def TxD (f : Fm) : Prop := ∀ (l : Nat) (v : Value) (w : World), ¬ lv f < l → Sl cN w v (enc f) → (enc f).length ≤ 1048576 → f.ok = true →
  Calls Tryz.prog 63 #[v, .int .i64 l] w fun e w' => e = .returned (.string (tbx f)) ∧ ∃ n, w' = w.drewN n
def TxOK (f : Fm) : Prop := ∀ (l : Nat) (v : Value) (w : World), Sl cN w v (enc f) → (enc f).length ≤ 1048576 → f.ok = true →
  Calls Tryz.prog 63 #[v, .int .i64 l] w fun e w' => e = .returned (.string (wrp (lv f) l (tbx f))) ∧ ∃ n, w' = w.drewN n
set_option maxRecDepth 100000 in
theorem TxD.all {f : Fm} (hd : TxD f) : TxOK f := by
  intro l v w h hl hok
  by_cases hlt : lv f < l
  · have HL := Lib.hid (impl_levelOf f v w h hl)
    have HD := Lib.hid (hd 0 v w (by omega) h hl hok)
    have HE : Hid (wrp (lv f) l (tbx f) = ((⟨#[40]⟩ : ByteArray) ++ tbx f) ++ (⟨#[41]⟩ : ByteArray)) := Lib.hid (by unfold wrp; rw [if_pos hlt])
    have hsz := tb_size f
    obtain ⟨A, c, rfl⟩ := h.opn
    have hlt' : decide (lv f < l) = true := decide_eq_true hlt
    have s1 : ¬ 9223372036854775807 < 1 + (tbx f).size := by omega
    have s2 : ¬ 9223372036854775807 < 1 + (tbx f).size + 1 := by omega
    clear h hlt hsz
    generalize lv f = q at *
    generalize tbx f = t at *
    go_enter Tryz.func63, Tryz.ntmps63
    go_wp2_with fail
    refine HL.out.mono ?_
    rintro e w1 ⟨rfl, rfl⟩
    go_wp2_with fail
    refine HD.out.mono ?_
    rintro e w1 ⟨rfl, n, rfl⟩
    go_wp2
    go_ret
    exact ⟨by rw [HE.out]; rfl, n, rfl⟩
  · rw [show wrp (lv f) l (tbx f) = tbx f by unfold wrp; rw [if_neg hlt]]
    exact hd l v w hlt h hl hok
theorem drewN_add (w : World) (n m : Nat) : (w.drewN n).drewN m = w.drewN (n + m) := by simp [World.drewN, Nat.add_assoc]
theorem lvlt {a b : Nat} (h : ¬ a < b) : decide (a < b) = false := decide_eq_false h
theorem tx_fls : TxD .fls := by
  intro l v w hn h hl hok
  have HL := Lib.hid (impl_levelOf .fls v w h hl)
  obtain ⟨A, c, rfl⟩ := h.opn
  obtain ⟨b', o, y, rfl, hb, h0, h1⟩ := kd_cell h
  have h00 : w.cell? ⟨b', o, none⟩ = some (.int .i64 1) := h0
  have hn' := lvlt hn
  clear h h0 hn
  simp only [enc, List.length_cons, List.length_nil] at *
  generalize lv .fls = q at *
  go_enter Tryz.func63, Tryz.ntmps63
  go_wp2_with fail
  refine HL.out.mono ?_
  rintro e w1 ⟨rfl, rfl⟩
  go_wp2
  go_ret
  exact ⟨rfl, 0, rfl⟩
set_option maxRecDepth 100000 in
theorem tx_var (s : Nat) : TxD (.var s) := by
  intro l v w hn h hl hok
  have hs : s ≤ 5 := by have := hok; simp only [Fm.ok, decide_eq_true_eq] at this; omega
  have HL := Lib.hid (impl_levelOf (.var s) v w h hl)
  obtain ⟨A, c, rfl⟩ := h.opn
  obtain ⟨b', o, rfl, hb, h00, h01⟩ := (show Sl cN w (.slice A (enc (.var s)).length c) [(0, (s : Int))] from h).atN0
  have hn' := lvlt hn
  clear h hn
  simp only [enc, List.length_cons, List.length_nil] at *
  generalize lv (.var s) = q at *
  go_enter Tryz.func63, Tryz.ntmps63
  go_wp2_with fail
  refine HL.out.mono ?_
  rintro e w1 ⟨rfl, rfl⟩
  go_wp2
  go_quiet (fail)
  go_wp2
  go_ret
  exact ⟨rfl, _, rfl⟩
def unT : UK → ByteArray | .box => ⟨#[91, 93]⟩ | .dia => ⟨#[60, 62]⟩
set_option maxRecDepth 100000 in
theorem tx_un (k : UK) (a : Fm) (iha : TxOK a) : TxD (.un k a) := by
  intro l v w hn h hl hok
  have HL := Lib.hid (impl_levelOf (.un k a) v w h hl)
  obtain ⟨A, c, rfl⟩ := h.opn
  obtain ⟨b', o, y, rfl, hb, h0, h1⟩ := kd_cell h
  have hn' := lvlt hn
  have hp := enc_pos (.un k a)
  have sz1 := wtb_size a 3
  have hlen : (enc (.un k a)).length = 1 + (enc a).length := by simp [enc]; omega
  have hF1 : Sl cN w (.slice (some ⟨b', o, none⟩) (enc (.un k a)).length c) ((k.i, 0) :: (enc a ++ [])) := by rw [List.append_nil]; exact h
  have H1 := Lib.hid (first_gQ _ (k.i, 0) a [] w hF1 (by simp; omega))
  have HA := Lib.hid (fun u (hu : Sl cN w u (enc a)) => iha 3 u w hu (by omega) hok)
  have G1 := Lib.hid hF1
  obtain ⟨ta, hta⟩ : ∃ ta, wrp (lv a) 3 (tbx a) = ta := ⟨_, rfl⟩
  rw [hta] at HA sz1
  have HE : Hid (tbx (.un k a) = unT k ++ ta) := Lib.hid (by rw [← hta]; cases k <;> rfl)
  have s1 : ¬ 9223372036854775807 < 2 + ta.size := by omega
  clear h hn sz1 hF1 hl hta hlen
  obtain ⟨m, hm⟩ : ∃ m, (enc (.un k a)).length = m := ⟨_, rfl⟩
  rw [hm] at HL hp H1 G1 ⊢
  clear hm
  obtain ⟨q, hq⟩ : ∃ q, lv (.un k a) = q := ⟨_, rfl⟩
  rw [hq] at HL hn'
  clear hq
  cases k
  · have h00 : w.cell? ⟨b', o, none⟩ = some (.int .i64 5) := h0
    clear h0
    go_enter Tryz.func63, Tryz.ntmps63
    go_wp2_with fail
    refine HL.out.mono ?_
    rintro e w1 ⟨rfl, rfl⟩
    go_wp2_with fail
    refine H1.out.mono ?_
    rintro e w1 ⟨u1, rfl, hu1, rfl⟩
    have HU1 := Lib.hid (HA.out u1 (hu1 w G1.out))
    clear hu1
    go_wp2_with fail
    refine HU1.out.mono ?_
    rintro e w1 ⟨rfl, n, rfl⟩
    go_wp2
    go_ret
    exact ⟨by rw [HE.out]; rfl, n, rfl⟩
  · have h00 : w.cell? ⟨b', o, none⟩ = some (.int .i64 6) := h0
    clear h0
    go_enter Tryz.func63, Tryz.ntmps63
    go_wp2_with fail
    refine HL.out.mono ?_
    rintro e w1 ⟨rfl, rfl⟩
    go_wp2_with fail
    refine H1.out.mono ?_
    rintro e w1 ⟨u1, rfl, hu1, rfl⟩
    have HU1 := Lib.hid (HA.out u1 (hu1 w G1.out))
    clear hu1
    go_wp2_with fail
    refine HU1.out.mono ?_
    rintro e w1 ⟨rfl, n, rfl⟩
    go_wp2
    go_ret
    exact ⟨by rw [HE.out]; rfl, n, rfl⟩
set_option maxRecDepth 100000 in
theorem tx_and (a b : Fm) (iha : TxOK a) (ihb : TxOK b) : TxD (.bin .and a b) := by
  intro l v w hn h hl hok
  have HL := Lib.hid (impl_levelOf (.bin .and a b) v w h hl)
  obtain ⟨A, c, rfl⟩ := h.opn
  obtain ⟨b', o, y, rfl, hb, h0, h1⟩ := kd_cell h
  have h00 : w.cell? ⟨b', o, none⟩ = some (.int .i64 2) := h0
  have hn' := lvlt hn
  have hp := enc_pos (.bin .and a b)
  have sz1 := wtb_size a 2
  have sz2 := wtb_size b 3
  have hlen : (enc (.bin .and a b)).length = 1 + ((enc a).length + (enc b).length) := by simp [enc]; omega
  have hF1 : Sl cN w (.slice (some ⟨b', o, none⟩) (enc (.bin .and a b)).length c) ((2, 0) :: (enc a ++ enc b)) := h
  have hF2 : Sl cN w (.slice (some ⟨b', o, none⟩) (enc (.bin .and a b)).length c) ((2, 0) :: (enc a ++ (enc b ++ []))) := by rw [List.append_nil]; exact h
  have H1 := Lib.hid (first_gQ _ (2, 0) a (enc b) w hF1 (by simp; omega))
  have H2 := Lib.hid (fun n => second_gQ _ (2, 0) a b [] (w.drewN n) (hF2.drewN n) (by simp; omega))
  have HA := Lib.hid (fun u (hu : Sl cN w u (enc a)) => iha 2 u w hu (by omega) (by have := hok; simp [Fm.ok] at this; exact this.1))
  have HB := Lib.hid (fun n u (hu : Sl cN (w.drewN n) u (enc b)) => ihb 3 u (w.drewN n) hu (by omega) (by have := hok; simp [Fm.ok] at this; exact this.2))
  have G1 := Lib.hid hF1
  have G2 := Lib.hid (fun n => hF2.drewN n)
  obtain ⟨ta, hta⟩ : ∃ ta, wrp (lv a) 2 (tbx a) = ta := ⟨_, rfl⟩
  obtain ⟨tc, htc⟩ : ∃ tc, wrp (lv b) 3 (tbx b) = tc := ⟨_, rfl⟩
  rw [hta] at HA sz1
  rw [htc] at HB sz2
  have HE : Hid (tbx (.bin .and a b) = (ta ++ (⟨#[38]⟩ : ByteArray)) ++ tc) := Lib.hid (by rw [← hta, ← htc]; rfl)
  have s1 : ¬ 9223372036854775807 < ta.size + 1 := by omega
  have s2 : ¬ 9223372036854775807 < ta.size + 1 + tc.size := by omega
  have s3 : ¬ 9223372036854775807 < (ta ++ (⟨#[38]⟩ : ByteArray)).size + tc.size := by rw [ByteArray.size_append]; have : (⟨#[38]⟩ : ByteArray).size = 1 := rfl; omega
  clear h h0 hn sz1 sz2 hF1 hF2 hl hta htc hlen
  obtain ⟨m, hm⟩ : ∃ m, (enc (.bin .and a b)).length = m := ⟨_, rfl⟩
  rw [hm] at HL hp H1 H2 G1 G2 ⊢
  clear hm
  obtain ⟨q, hq⟩ : ∃ q, lv (.bin .and a b) = q := ⟨_, rfl⟩
  rw [hq] at HL hn'
  clear hq
  go_enter Tryz.func63, Tryz.ntmps63
  go_wp2_with fail
  refine HL.out.mono ?_
  rintro e w1 ⟨rfl, rfl⟩
  go_wp2_with fail
  refine H1.out.mono ?_
  rintro e w1 ⟨u1, rfl, hu1, rfl⟩
  have HU1 := Lib.hid (HA.out u1 (hu1 w G1.out))
  clear hu1
  go_wp2_with fail
  refine HU1.out.mono ?_
  rintro e w1 ⟨rfl, n, rfl⟩
  go_wp2_with fail
  refine (H2.out n).mono ?_
  rintro e w1 ⟨u2, rfl, hu2, rfl⟩
  have HU2 := Lib.hid (HB.out n u2 (hu2 _ (G2.out n)))
  clear hu2
  go_wp2_with fail
  refine HU2.out.mono ?_
  rintro e w1 ⟨rfl, n2, rfl⟩
  go_wp2
  go_ret
  exact ⟨by rw [HE.out]; rfl, n + n2, rfl⟩
set_option maxRecDepth 100000 in
theorem tx_or (a b : Fm) (iha : TxOK a) (ihb : TxOK b) : TxD (.bin .or a b) := by
  intro l v w hn h hl hok
  have HL := Lib.hid (impl_levelOf (.bin .or a b) v w h hl)
  obtain ⟨A, c, rfl⟩ := h.opn
  obtain ⟨b', o, y, rfl, hb, h0, h1⟩ := kd_cell h
  have h00 : w.cell? ⟨b', o, none⟩ = some (.int .i64 3) := h0
  have hn' := lvlt hn
  have hp := enc_pos (.bin .or a b)
  have sz1 := wtb_size a 1
  have sz2 := wtb_size b 2
  have hlen : (enc (.bin .or a b)).length = 1 + ((enc a).length + (enc b).length) := by simp [enc]; omega
  have hF1 : Sl cN w (.slice (some ⟨b', o, none⟩) (enc (.bin .or a b)).length c) ((3, 0) :: (enc a ++ enc b)) := h
  have hF2 : Sl cN w (.slice (some ⟨b', o, none⟩) (enc (.bin .or a b)).length c) ((3, 0) :: (enc a ++ (enc b ++ []))) := by rw [List.append_nil]; exact h
  have H1 := Lib.hid (first_gQ _ (3, 0) a (enc b) w hF1 (by simp; omega))
  have H2 := Lib.hid (fun n => second_gQ _ (3, 0) a b [] (w.drewN n) (hF2.drewN n) (by simp; omega))
  have HA := Lib.hid (fun u (hu : Sl cN w u (enc a)) => iha 1 u w hu (by omega) (by have := hok; simp [Fm.ok] at this; exact this.1))
  have HB := Lib.hid (fun n u (hu : Sl cN (w.drewN n) u (enc b)) => ihb 2 u (w.drewN n) hu (by omega) (by have := hok; simp [Fm.ok] at this; exact this.2))
  have G1 := Lib.hid hF1
  have G2 := Lib.hid (fun n => hF2.drewN n)
  obtain ⟨ta, hta⟩ : ∃ ta, wrp (lv a) 1 (tbx a) = ta := ⟨_, rfl⟩
  obtain ⟨tc, htc⟩ : ∃ tc, wrp (lv b) 2 (tbx b) = tc := ⟨_, rfl⟩
  rw [hta] at HA sz1
  rw [htc] at HB sz2
  have HE : Hid (tbx (.bin .or a b) = (ta ++ (⟨#[124]⟩ : ByteArray)) ++ tc) := Lib.hid (by rw [← hta, ← htc]; rfl)
  have s1 : ¬ 9223372036854775807 < ta.size + 1 := by omega
  have s2 : ¬ 9223372036854775807 < ta.size + 1 + tc.size := by omega
  have s3 : ¬ 9223372036854775807 < (ta ++ (⟨#[124]⟩ : ByteArray)).size + tc.size := by rw [ByteArray.size_append]; have : (⟨#[124]⟩ : ByteArray).size = 1 := rfl; omega
  clear h h0 hn sz1 sz2 hF1 hF2 hl hta htc hlen
  obtain ⟨m, hm⟩ : ∃ m, (enc (.bin .or a b)).length = m := ⟨_, rfl⟩
  rw [hm] at HL hp H1 H2 G1 G2 ⊢
  clear hm
  obtain ⟨q, hq⟩ : ∃ q, lv (.bin .or a b) = q := ⟨_, rfl⟩
  rw [hq] at HL hn'
  clear hq
  go_enter Tryz.func63, Tryz.ntmps63
  go_wp2_with fail
  refine HL.out.mono ?_
  rintro e w1 ⟨rfl, rfl⟩
  go_wp2_with fail
  refine H1.out.mono ?_
  rintro e w1 ⟨u1, rfl, hu1, rfl⟩
  have HU1 := Lib.hid (HA.out u1 (hu1 w G1.out))
  clear hu1
  go_wp2_with fail
  refine HU1.out.mono ?_
  rintro e w1 ⟨rfl, n, rfl⟩
  go_wp2_with fail
  refine (H2.out n).mono ?_
  rintro e w1 ⟨u2, rfl, hu2, rfl⟩
  have HU2 := Lib.hid (HB.out n u2 (hu2 _ (G2.out n)))
  clear hu2
  go_wp2_with fail
  refine HU2.out.mono ?_
  rintro e w1 ⟨rfl, n2, rfl⟩
  go_wp2
  go_ret
  exact ⟨by rw [HE.out]; rfl, n + n2, rfl⟩
set_option maxRecDepth 100000 in
theorem tx_imp (a b : Fm) (iha : TxOK a) (ihb : TxOK b) (hf : isfl b = false) : TxD (.bin .imp a b) := by
  intro l v w hn h hl hok
  have HL := Lib.hid (impl_levelOf (.bin .imp a b) v w h hl)
  have HN := Lib.hid (hf ▸ impl_isNegation_imp a b v w h hl)
  obtain ⟨A, c, rfl⟩ := h.opn
  obtain ⟨b', o, y, rfl, hb, h0, h1⟩ := kd_cell h
  have h00 : w.cell? ⟨b', o, none⟩ = some (.int .i64 4) := h0
  have hn' := lvlt hn
  have hp := enc_pos (.bin .imp a b)
  have sz1 := wtb_size a 1
  have sz2 := wtb_size b 0
  have hlen : (enc (.bin .imp a b)).length = 1 + ((enc a).length + (enc b).length) := by simp [enc]; omega
  have hF1 : Sl cN w (.slice (some ⟨b', o, none⟩) (enc (.bin .imp a b)).length c) ((4, 0) :: (enc a ++ enc b)) := h
  have hF2 : Sl cN w (.slice (some ⟨b', o, none⟩) (enc (.bin .imp a b)).length c) ((4, 0) :: (enc a ++ (enc b ++ []))) := by rw [List.append_nil]; exact h
  have H1 := Lib.hid (first_gQ _ (4, 0) a (enc b) w hF1 (by simp; omega))
  have H2 := Lib.hid (fun n => second_gQ _ (4, 0) a b [] (w.drewN n) (hF2.drewN n) (by simp; omega))
  have HA := Lib.hid (fun u (hu : Sl cN w u (enc a)) => iha 1 u w hu (by omega) (by have := hok; simp [Fm.ok] at this; exact this.1))
  have HB := Lib.hid (fun n u (hu : Sl cN (w.drewN n) u (enc b)) => ihb 0 u (w.drewN n) hu (by omega) (by have := hok; simp [Fm.ok] at this; exact this.2))
  have G1 := Lib.hid hF1
  have G2 := Lib.hid (fun n => hF2.drewN n)
  obtain ⟨ta, hta⟩ : ∃ ta, wrp (lv a) 1 (tbx a) = ta := ⟨_, rfl⟩
  obtain ⟨tc, htc⟩ : ∃ tc, wrp (lv b) 0 (tbx b) = tc := ⟨_, rfl⟩
  rw [hta] at HA sz1
  rw [htc] at HB sz2
  have HE : Hid (tbx (.bin .imp a b) = (ta ++ (⟨#[62]⟩ : ByteArray)) ++ tc) := Lib.hid (by rw [← hta, ← htc]; simp only [tbx, hf]; rfl)
  have s1 : ¬ 9223372036854775807 < ta.size + 1 := by omega
  have s2 : ¬ 9223372036854775807 < ta.size + 1 + tc.size := by omega
  have s3 : ¬ 9223372036854775807 < (ta ++ (⟨#[62]⟩ : ByteArray)).size + tc.size := by rw [ByteArray.size_append]; have : (⟨#[62]⟩ : ByteArray).size = 1 := rfl; omega
  clear h h0 hn sz1 sz2 hF1 hF2 hl hta htc hlen
  obtain ⟨m, hm⟩ : ∃ m, (enc (.bin .imp a b)).length = m := ⟨_, rfl⟩
  rw [hm] at HL HN hp H1 H2 G1 G2 ⊢
  clear hm
  obtain ⟨q, hq⟩ : ∃ q, lv (.bin .imp a b) = q := ⟨_, rfl⟩
  rw [hq] at HL hn'
  clear hq
  go_enter Tryz.func63, Tryz.ntmps63
  go_wp2_with fail
  refine HL.out.mono ?_
  rintro e w1 ⟨rfl, rfl⟩
  go_wp2_with fail
  refine HN.out.mono ?_
  rintro e w1 ⟨rfl, rfl⟩
  go_wp2_with fail
  refine H1.out.mono ?_
  rintro e w1 ⟨u1, rfl, hu1, rfl⟩
  have HU1 := Lib.hid (HA.out u1 (hu1 w G1.out))
  clear hu1
  go_wp2_with fail
  refine HU1.out.mono ?_
  rintro e w1 ⟨rfl, n, rfl⟩
  go_wp2_with fail
  refine (H2.out n).mono ?_
  rintro e w1 ⟨u2, rfl, hu2, rfl⟩
  have HU2 := Lib.hid (HB.out n u2 (hu2 _ (G2.out n)))
  clear hu2
  go_wp2_with fail
  refine HU2.out.mono ?_
  rintro e w1 ⟨rfl, n2, rfl⟩
  go_wp2
  go_ret
  exact ⟨by rw [HE.out]; rfl, n + n2, rfl⟩
set_option maxRecDepth 100000 in
theorem tx_neg (a b : Fm) (iha : TxOK a) (hf : isfl b = true) : TxD (.bin .imp a b) := by
  intro l v w hn h hl hok
  have HL := Lib.hid (impl_levelOf (.bin .imp a b) v w h hl)
  have HN := Lib.hid (hf ▸ impl_isNegation_imp a b v w h hl)
  obtain ⟨A, c, rfl⟩ := h.opn
  obtain ⟨b', o, y, rfl, hb, h0, h1⟩ := kd_cell h
  have h00 : w.cell? ⟨b', o, none⟩ = some (.int .i64 4) := h0
  have hn' := lvlt hn
  have hp := enc_pos (.bin .imp a b)
  have sz1 := wtb_size a 3
  have hlen : (enc (.bin .imp a b)).length = 1 + ((enc a).length + (enc b).length) := by simp [enc]; omega
  have hF1 : Sl cN w (.slice (some ⟨b', o, none⟩) (enc (.bin .imp a b)).length c) ((4, 0) :: (enc a ++ enc b)) := h
  have H1 := Lib.hid (first_gQ _ (4, 0) a (enc b) w hF1 (by simp; omega))
  have HA := Lib.hid (fun u (hu : Sl cN w u (enc a)) => iha 3 u w hu (by omega) (by have := hok; simp [Fm.ok] at this; exact this.1))
  have HI := Lib.hid (fun u (hu : Sl cN w u (enc a)) => impl_isFalsum a u w hu)
  have G1 := Lib.hid hF1
  obtain ⟨ta, hta⟩ : ∃ ta, wrp (lv a) 3 (tbx a) = ta := ⟨_, rfl⟩
  rw [hta] at HA sz1
  have HE : Hid (tbx (.bin .imp a b) = if isfl a then ⟨#[84]⟩ else (⟨#[126]⟩ : ByteArray) ++ ta) := Lib.hid (by rw [← hta]; simp only [tbx, hf]; rfl)
  have s1 : ¬ 9223372036854775807 < 1 + ta.size := by omega
  clear h h0 hn sz1 hF1 hl hta hlen hf
  obtain ⟨m, hm⟩ : ∃ m, (enc (.bin .imp a b)).length = m := ⟨_, rfl⟩
  rw [hm] at HL HN hp H1 G1 ⊢
  clear hm
  obtain ⟨q, hq⟩ : ∃ q, lv (.bin .imp a b) = q := ⟨_, rfl⟩
  rw [hq] at HL hn'
  clear hq
  obtain ⟨z, hz⟩ : ∃ z, isfl a = z := ⟨_, rfl⟩
  rw [hz] at HI HE
  clear hz
  cases z
  all_goals
    go_enter Tryz.func63, Tryz.ntmps63
    go_wp2_with fail
    refine HL.out.mono ?_
    rintro e w1 ⟨rfl, rfl⟩
    go_wp2_with fail
    refine HN.out.mono ?_
    rintro e w1 ⟨rfl, rfl⟩
    go_wp2_with fail
    refine H1.out.mono ?_
    rintro e w1 ⟨u1, rfl, hu1, rfl⟩
    have HI1 := Lib.hid (HI.out u1 (hu1 w G1.out))
    clear hu1
    go_wp2_with fail
    refine HI1.out.mono ?_
    rintro e w1 ⟨rfl, rfl⟩
  · go_wp2_with fail
    refine H1.out.mono ?_
    rintro e w1 ⟨u2, rfl, hu2, rfl⟩
    have HU1 := Lib.hid (HA.out u2 (hu2 w G1.out))
    clear hu2
    go_wp2_with fail
    refine HU1.out.mono ?_
    rintro e w1 ⟨rfl, n, rfl⟩
    go_wp2
    go_ret
    exact ⟨by rw [HE.out]; rfl, n, rfl⟩
  · go_wp2
    go_ret
    exact ⟨by rw [HE.out]; rfl, 0, rfl⟩
theorem impl_textAt (f : Fm) : TxOK f := by
  induction f with
  | var s => exact (tx_var s).all
  | fls => exact tx_fls.all
  | un k a ih => exact (tx_un k a ih).all
  | bin k a b iha ihb =>
    cases k
    · exact (tx_and a b iha ihb).all
    · exact (tx_or a b iha ihb).all
    · cases hf : isfl b
      · exact (tx_imp a b iha ihb hf).all
      · exact (tx_neg a b iha hf).all
theorem impl_text (f : Fm) (v : Value) (w : World) (h : Sl cN w v (enc f)) (hl : (enc f).length ≤ 1048576) (hok : f.ok = true) :
    Calls Tryz.prog 53 #[v] w fun e w' => e = .returned (.string (txt f)) ∧ ∃ n, w' = w.drewN n := by
  have HT := Lib.hid (impl_textAt f 0 v w h hl hok)
  clear h
  go_enter Tryz.func53, Tryz.ntmps53
  go_wp2_with fail
  refine HT.out.mono ?_
  rintro e w1 ⟨rfl, n, rfl⟩
  go_wp2
  go_ret
  exact ⟨rfl, n, rfl⟩
end Go.Proofs.YtaigiopoogbbbaaGreat
