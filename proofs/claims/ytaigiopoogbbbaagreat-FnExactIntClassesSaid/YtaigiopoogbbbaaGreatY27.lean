/- Joined of several texts. -/
import Derived.Test.YtaigiopoogbbbaaGreatY26
import Derived.Test.YtaigiopoogbbbaaGreatY24
namespace Go.Proofs.YtaigiopoogbbbaaGreat
/- Contracts of the program: arrow at three formulas. -/
open Go.RowKit
set_option linter.unusedVariables false
set_option linter.unusedSimpArgs false
/-- the three states of the loop of arrow at three formulas -/
def ArT (w : World) (xs ys zs : List Nd) (o i : Value) (wr : World) : Prop :=
  (i = .int .i64 1 ∧ Sl cN w o zs ∧ wr = w) ∨ (i = .int .i64 0 ∧ Ow cN 46 w.heap.size wr o ([(4, 0)] ++ ys ++ zs) ∧ Below w.heap.size w wr) ∨
  (i = .int .i64 (-1) ∧ Ow cN 46 w.heap.size wr o ([(4, 0)] ++ xs ++ ([(4, 0)] ++ ys ++ zs)) ∧ Below w.heap.size w wr)
set_option maxRecDepth 100000 in
theorem impl_arrow3 (v : Value) (xs ys zs : List Nd) (w : World) (h : Sl2 cN w v [xs, ys, zs]) (hl : xs.length ≤ 1000) (hl' : ys.length ≤ 1000) (hl2 : zs.length ≤ 1000) :
    Calls Tryz.prog 98 #[v] w fun e w' => ∃ r, e = .returned r ∧ Ow cN 46 w.heap.size w' r ([(4, 0)] ++ xs ++ ([(4, 0)] ++ ys ++ zs)) ∧ Below w.heap.size w w' := by
  obtain ⟨A, c, rfl⟩ := h.opn
  obtain ⟨b, o, A0, n0, c0, rfl, hb, hc0, hs0⟩ := h.at_ (k := 0) (by simp)
  obtain ⟨b', o', A1, n1, c1, hA, hb', hc1, hs1⟩ := h.at_ (k := 1) (by simp)
  injection hA with hA
  injection hA with h1 h2 _
  subst h1
  subst h2
  obtain ⟨b', o', A2, n2, c2, hA, hb', hc2, hs2⟩ := h.at_ (k := 2) (by simp)
  injection hA with hA
  injection hA with h1 h2 _
  subst h1
  subst h2
  simp only [List.getElem_cons_zero, List.getElem_cons_succ, Nat.add_zero, List.length_cons, List.length_nil, Nat.zero_add] at hc0 hc1 hc2 hs0 hs1 hs2 ⊢
  have S0 := Lib.hid hs0
  have S1 := Lib.hid hs1
  have S2 := Lib.hid hs2
  have C0 := Lib.hid hc0
  have HBb := Lib.hid hb
  clear h hs0 hs1 hs2 hc0 hb'
  go_enter Tryz.func98, Tryz.ntmps98
  go_wp2
  go_loopw [3, 4] (fun o i wr => ArT w xs ys zs o i wr) (fun _ i _ => (intOf i + 1).toNat)
  case atStart => exact .inl ⟨rfl, S2.out, rfl⟩
  case round =>
    clear hc2
    rcases hrel with ⟨rfl, hs, rfl⟩ | ⟨rfl, ho, hb2⟩ | ⟨rfl, ho, hb2⟩
    · have HS := Lib.hid hs
      clear hs
      go_wp2_with fail
      refine (impl_join 4 _ _ _ _ _ S1.out HS.out (by omega) (by omega)).mono ?_
      rintro e w1 ⟨r, rfl, ho, hb1⟩
      have O := Lib.hid ho
      have HB := Lib.hid hb1
      clear ho hb1
      go_wp2
      go_roundw
      case rel => exact .inr (.inl ⟨rfl, O.out, HB.out⟩)
      case measure => simp [intOf]
    · have O := Lib.hid ho
      have HB := Lib.hid hb2
      have hc0 := (hb2.cell (p := ⟨b, o, none⟩) HBb.out).trans C0.out
      have hbr : b < wr.heap.size := Nat.lt_of_lt_of_le HBb.out hb2.size
      have T0 := Lib.hid (S0.out.below hb2)
      have hz := hb2.size
      clear ho hb2 hc1 hb
      go_wp2_with fail
      refine (impl_join 4 _ _ _ _ _ T0.out O.out.sl (by omega) (by simp <;> omega)).mono ?_
      rintro e w1 ⟨r, rfl, ho, hb1⟩
      have O1 := Lib.hid (ho.mono hz)
      have HB1 := Lib.hid (bthen HB.out hb1)
      clear ho hb1
      go_wp2
      go_roundw
      case rel => exact .inr (.inr ⟨rfl, O1.out, HB1.out⟩)
      case measure => simp [intOf]
    · have O := Lib.hid ho
      have HB := Lib.hid hb2
      clear ho hb2
      go_wp2
      go_ret
      exact ⟨_, rfl, O.out, HB.out⟩
/- Plain law of keys: a sequent's key tells its texts. No program in sight. -/
open Go.RowKit
set_option linter.unusedVariables false
set_option linter.unusedSimpArgs false
theorem t8_app (a b : ByteArray) : t8 (a ++ b) = t8 a ++ t8 b := by
  unfold t8
  rw [ByteArray.data_append, Array.toList_append]
/-- neither mark -/
def okB (t : ByteArray) : Prop := ∀ x ∈ t8 t, x ≠ 47 ∧ x ≠ 59
theorem okB.app {a b : ByteArray} (h : okB a) (k : okB b) : okB (a ++ b) := fun x hx => by
  rw [t8_app] at hx
  exact (List.mem_append.1 hx).elim (h x) (k x)
theorem okB.wrp {a b : Nat} {t : ByteArray} (h : okB t) : okB (wrp a b t) := by
  unfold Go.Proofs.YtaigiopoogbbbaaGreat.wrp
  split
  · exact ((show okB ⟨#[40]⟩ by unfold okB t8; decide).app h).app (show okB ⟨#[41]⟩ by unfold okB t8; decide)
  · exact h
theorem okB_tbx : ∀ f : Fm, f.ok = true → okB (tbx f)
  | .var s, h => by
    simp only [Fm.ok] at h
    have hs : s ≤ 5 := by simpa using h
    have : s = 0 ∨ s = 1 ∨ s = 2 ∨ s = 3 ∨ s = 4 ∨ s = 5 := by omega
    rcases this with rfl | rfl | rfl | rfl | rfl | rfl <;> (unfold okB t8 tbx ltr; decide)
  | .fls, _ => by unfold okB t8 tbx; decide
  | .un .box a, h => by
    unfold tbx
    exact (show okB ⟨#[91, 93]⟩ by unfold okB t8; decide).app (okB_tbx a (by simpa [Fm.ok] using h)).wrp
  | .un .dia a, h => by
    unfold tbx
    exact (show okB ⟨#[60, 62]⟩ by unfold okB t8; decide).app (okB_tbx a (by simpa [Fm.ok] using h)).wrp
  | .bin .and a b, h => by
    simp only [Fm.ok, Bool.and_eq_true] at h
    unfold tbx
    exact ((okB_tbx a h.1).wrp.app (show okB ⟨#[38]⟩ by unfold okB t8; decide)).app (okB_tbx b h.2).wrp
  | .bin .or a b, h => by
    simp only [Fm.ok, Bool.and_eq_true] at h
    unfold tbx
    exact ((okB_tbx a h.1).wrp.app (show okB ⟨#[124]⟩ by unfold okB t8; decide)).app (okB_tbx b h.2).wrp
  | .bin .imp a b, h => by
    simp only [Fm.ok, Bool.and_eq_true] at h
    unfold tbx
    split
    · split
      · unfold okB t8; decide
      · exact (show okB ⟨#[126]⟩ by unfold okB t8; decide).app (okB_tbx a h.1).wrp
    · exact ((okB_tbx a h.1).wrp.app (show okB ⟨#[62]⟩ by unfold okB t8; decide)).app (okB_tbx b h.2).wrp
theorem okB_txt (f : Fm) (h : f.ok = true) : okB (txt f) := by
  rw [txt_tb]; exact okB_tbx f h
/-- the bytes of texts with marks -/
def kb (L : List T8) : T8 := L.flatMap fun s => s ++ [47]
theorem cut_mark {m : UInt8} : ∀ {a b r q : T8}, (∀ x ∈ a, x ≠ m) → (∀ x ∈ b, x ≠ m) → a ++ m :: r = b ++ m :: q → a = b ∧ r = q
  | [], [], r, q, _, _, h => by injection h with _ h; exact ⟨rfl, h⟩
  | [], y :: b, r, q, _, hb, h => by injection h with h _; exact absurd h.symm (hb y (List.mem_cons_self ..))
  | x :: a, [], r, q, ha, _, h => by injection h with h _; exact absurd h (ha x (List.mem_cons_self ..))
  | x :: a, y :: b, r, q, ha, hb, h => by
    injection h with h1 h2
    obtain ⟨e1, e2⟩ := cut_mark (fun z hz => ha z (List.mem_cons_of_mem _ hz)) (fun z hz => hb z (List.mem_cons_of_mem _ hz)) h2
    exact ⟨by rw [h1, e1], e2⟩
def ok8 (s : T8) : Prop := ∀ x ∈ s, x ≠ 47 ∧ x ≠ 59
theorem kb_inj : ∀ {L M : List T8} {r q : T8}, (∀ s ∈ L, ok8 s) → (∀ s ∈ M, ok8 s) → kb L ++ 59 :: r = kb M ++ 59 :: q → L = M ∧ r = q
  | [], [], r, q, _, _, h => by injection h with _ h; exact ⟨rfl, h⟩
  | [], t :: M, r, q, _, hM, h => by
    have ht := hM t (List.mem_cons_self ..)
    cases t with
    | nil => simp [kb] at h
    | cons x t =>
      simp only [kb, List.flatMap_nil, List.flatMap_cons, List.nil_append, List.cons_append, List.append_assoc] at h
      injection h with h _
      exact absurd h.symm (ht x (List.mem_cons_self ..)).2
  | s :: L, [], r, q, hL, _, h => by
    have hs := hL s (List.mem_cons_self ..)
    cases s with
    | nil => simp [kb] at h
    | cons x s =>
      simp only [kb, List.flatMap_nil, List.flatMap_cons, List.nil_append, List.cons_append, List.append_assoc] at h
      injection h with h _
      exact absurd h (hs x (List.mem_cons_self ..)).2
  | s :: L, t :: M, r, q, hL, hM, h => by
    have e : ∀ (s : T8) (L : List T8) (r : T8), kb (s :: L) ++ 59 :: r = s ++ 47 :: (kb L ++ 59 :: r) := fun s L r => by simp [kb]
    rw [e, e] at h
    obtain ⟨e1, e2⟩ := cut_mark (fun x hx => (hL s (List.mem_cons_self ..) x hx).1) (fun x hx => (hM t (List.mem_cons_self ..) x hx).1) h
    obtain ⟨e3, e4⟩ := kb_inj (fun z hz => hL z (List.mem_cons_of_mem _ hz)) (fun z hz => hM z (List.mem_cons_of_mem _ hz)) e2
    exact ⟨by rw [e1, e3], e4⟩
/- The key of a goal tells the goal. -/
open Go.RowKit
set_option linter.unusedVariables false
set_option linter.unusedSimpArgs false
theorem t8_kf : ∀ (L : List ByteArray) (z : ByteArray), t8 (kf z L) = t8 z ++ kb (L.map t8)
  | [], z => by simp [kf, kb]
  | s :: L, z => by
    show t8 (kf (z ++ (s ++ ⟨#[47]⟩)) L) = _
    rw [t8_kf L, t8_app, t8_app]
    show t8 z ++ (t8 s ++ [47]) ++ kb (L.map t8) = t8 z ++ kb (t8 s :: L.map t8)
    simp [kb]
/-- the key of a goal -/
def keyG (L : List Fm) (c : Fm) : ByteArray := kf (kf ⟨#[]⟩ (L.map txt) ++ ⟨#[59]⟩) [txt c]
theorem keyG_b (L : List Fm) (c : Fm) : t8 (keyG L c) = kb (tx L) ++ 59 :: (t1 c ++ [47]) := by
  unfold keyG
  rw [t8_kf, t8_app, t8_kf]
  have e0 : t8 ⟨#[]⟩ = [] := rfl
  have e1 : t8 ⟨#[59]⟩ = [59] := rfl
  have e2 : (L.map txt).map t8 = tx L := by rw [List.map_map]; rfl
  rw [e0, e1, e2]
  simp [kb, t1]
theorem keyG_inj {L M : List Fm} {c d : Fm} (hL : ∀ f ∈ L, f.ok = true) (hM : ∀ f ∈ M, f.ok = true) (hc : c.ok = true) (hd : d.ok = true) (h : keyG L c = keyG M d) : L = M ∧ c = d := by
  have h1 := congrArg t8 h
  rw [keyG_b, keyG_b] at h1
  have hx : ∀ {K : List Fm}, (∀ f ∈ K, f.ok = true) → ∀ s ∈ tx K, ok8 s := fun hK s hs => by
    obtain ⟨f, hf, rfl⟩ := List.mem_map.1 hs
    exact okB_txt f (hK f hf)
  obtain ⟨e1, e2⟩ := kb_inj (hx hL) (hx hM) h1
  exact ⟨tx_inj hL hM e1, t1_inj hc hd (List.append_cancel_right e2)⟩
/- Plain law of a memory: there are few goals over a closure. No program in sight. -/
open Go.RowKit
set_option linter.unusedVariables false
set_option linter.unusedSimpArgs false
theorem nodup_lt : ∀ (n : Nat) (l : List Nat), l.Nodup → (∀ x ∈ l, x < n) → l.length ≤ n
  | 0, l, _, h => by
    cases l with
    | nil => exact Nat.le_refl _
    | cons x l => exact absurd (h x (List.mem_cons_self ..)) (by omega)
  | n + 1, l, hd, h => by
    have h1 := nodup_lt n (l.erase n) (hd.erase n) fun x hx => by
      have h2 := (hd.mem_erase_iff).1 hx
      have := h x h2.2
      have := h2.1
      omega
    have h2 : l.length ≤ (l.erase n).length + 1 := by
      rw [List.length_erase]
      split <;> omega
    omega
theorem find_at (C : List Fm) (f : Fm) (h : f ∈ C) : ∃ i, i < C.length ∧ C.getD i .fls = f := by
  obtain ⟨i, hi, e⟩ := List.mem_iff_getElem.1 h
  exact ⟨i, hi, by rw [List.getD_eq_getElem?_getD, List.getElem?_eq_getElem hi]; exact e⟩
noncomputable def gmask (C L : List Fm) : Nat := msk (fun i => @decide (C.getD i .fls ∈ L) (Classical.propDecidable _)) C.length
open Classical in
/-- a goal over a list, as a number -/
noncomputable def gcode (C : List Fm) (g : List Fm × Fm) : Nat := gmask C g.1 * C.length + (if h : ∃ i, i < C.length ∧ C.getD i .fls = g.2 then h.choose else 0)
def Gd (C : List Fm) (g : List Fm × Fm) : Prop := Srt g.1 ∧ (∀ f ∈ g.1, f.ok = true ∧ f ∈ C) ∧ g.2 ∈ C
theorem gcode_lt {C : List Fm} {g : List Fm × Fm} (h : Gd C g) : gcode C g < 2 ^ C.length * C.length := by
  have hx := find_at C g.2 h.2.2
  unfold gcode
  rw [dif_pos hx]
  have h1 : gmask C g.1 < 2 ^ C.length := msk_lt _ _
  have h2 := hx.choose_spec.1
  generalize hx.choose = k at *
  generalize gmask C g.1 = m at *
  have h3 : m * C.length + C.length ≤ 2 ^ C.length * C.length := by
    have := Nat.mul_le_mul_right C.length (show m + 1 ≤ 2 ^ C.length from h1)
    rw [Nat.add_mul, Nat.one_mul] at this
    exact this
  generalize 2 ^ C.length * C.length = z at *
  generalize m * C.length = y at *
  omega
theorem gcode_inj {C : List Fm} {g k : List Fm × Fm} (hg : Gd C g) (hk : Gd C k) (h : gcode C g = gcode C k) : g = k := by
  have hx := find_at C g.2 hg.2.2
  have hy := find_at C k.2 hk.2.2
  unfold gcode at h
  rw [dif_pos hx, dif_pos hy] at h
  have e1 := hx.choose_spec
  have e2 := hy.choose_spec
  generalize hx.choose = i at *
  generalize hy.choose = j at *
  generalize hm : gmask C g.1 = m at h
  generalize hq : gmask C k.1 = q at h
  have hn : 0 < C.length := by omega
  have h1 : i = j := by
    have := congrArg (fun n => n % C.length) h
    rw [Nat.mul_comm m, Nat.mul_comm q, Nat.mul_add_mod, Nat.mul_add_mod, Nat.mod_eq_of_lt e1.1, Nat.mod_eq_of_lt e2.1] at this
    exact this
  subst h1
  have h2 : m = q := Nat.eq_of_mul_eq_mul_right hn (by omega)
  have h3 : ∀ x, x ∈ g.1 ↔ x ∈ k.1 := fun x => by
    have hxy : x ∈ C → (x ∈ g.1 ↔ x ∈ k.1) := fun hC => by
      obtain ⟨n, hn, e⟩ := find_at C x hC
      have h4 := congrArg (fun z => z.testBit n) ((hm.trans h2).trans hq.symm)
      unfold gmask at h4
      simp only [msk_testBit, decide_eq_true hn, Bool.true_and, e, decide_eq_decide] at h4
      exact h4
    exact ⟨fun h => (hxy (hg.2.1 x h).2).1 h, fun h => (hxy (hk.2.1 x h).2).2 h⟩
  have h4 : tx g.1 = tx k.1 := asc8_eq _ _ hg.1 hk.1 fun a => by
    unfold tx
    rw [List.mem_map, List.mem_map]
    exact ⟨fun ⟨f, hf, e⟩ => ⟨f, (h3 f).1 hf, e⟩, fun ⟨f, hf, e⟩ => ⟨f, (h3 f).2 hf, e⟩⟩
  have h5 := tx_inj (fun f hf => (hg.2.1 f hf).1) (fun f hf => (hk.2.1 f hf).1) h4
  obtain ⟨L, c⟩ := g
  obtain ⟨M, d⟩ := k
  simp only at h5 e1 e2
  rw [h5, ← e1.2, ← e2.2]
theorem goals_few {C : List Fm} (hC : C.length ≤ 40) {G : List (List Fm × Fm)} (hd : G.Nodup) (hG : ∀ g ∈ G, Gd C g) : G.length ≤ 43980465111040 := by
  have h1 : (G.map (gcode C)).Nodup := by
    unfold List.Nodup
    rw [List.pairwise_map]
    exact List.Pairwise.imp_of_mem (fun ha hb hne e => hne (gcode_inj (hG _ ha) (hG _ hb) e)) hd
  have h2 := nodup_lt (2 ^ C.length * C.length) _ h1 fun x hx => by
    obtain ⟨g, hg, rfl⟩ := List.mem_map.1 hx
    exact gcode_lt (hG g hg)
  rw [List.length_map] at h2
  have h3 : 2 ^ C.length * C.length ≤ 2 ^ 40 * 40 := Nat.mul_le_mul (Nat.pow_le_pow_right (by omega) hC) hC
  exact Nat.le_trans h2 (Nat.le_trans h3 (by decide))
end Go.Proofs.YtaigiopoogbbbaaGreat
