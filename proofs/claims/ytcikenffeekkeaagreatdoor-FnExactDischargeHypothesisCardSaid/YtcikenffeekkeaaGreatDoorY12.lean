/- Joined of several texts. -/
import Derived.Test.YtcikenffeekkeaaGreatDoorY11
import Derived.Test.YtcikenffeekkeaaGreatDoorY07
import Derived.Test.YtcikenffeekkeaaGreatDoorY03
import Derived.Test.YtcikenffeekkeaaGreatDoorY06
namespace Go.Proofs.YtcikenffeekkeaaGreatDoor
/- Lists of lines of a proof: how they lie. -/
open Go.RowKit
set_option linter.unusedVariables false
set_option linter.unusedSimpArgs false
/-- the numbers of a line -/
abbrev L3 := Int × Int × Int
def Ln.k3 (l : Ln) : L3 := (l.r, l.f, l.s)
def mkLn (x : L3) (xs : List Nd) : Ln := ⟨x.1, x.2.1, x.2.2, xs⟩
def cLn : Cod (L3 × Hd) := ⟨4, fun x => [.int .i64 x.1.1, .int .i64 x.1.2.1, .int .i64 x.1.2.2, x.2.val], fun _ => rfl, by decide, fun _ u hu => by
  simp only [List.mem_cons, List.not_mem_nil, or_false] at hu
  rcases hu with rfl | rfl | rfl | rfl <;> rfl⟩
theorem ty_line : Ty Tryz.prog 26 46 (.agg #[.int .i64 0, .int .i64 0, .int .i64 0, .slice none 0 0]) 4 48 := Ty.mk' Tryz.underlying26 (by kernel_rfl) rfl (by decide)
/-- frames of the call's own: all lists apart, below H -/
def ObL (B H : Nat) (w : World) (v : Value) (fs : List Ln) : Prop :=
  ∃ hs : List (L3 × Hd), Ob cLn 46 B H w v hs ∧ hs.length = fs.length ∧ ∀ i (p : i < hs.length) (q : i < fs.length), hs[i].1 = fs[i].k3 ∧ Ob cN 75 B H w hs[i].2.val fs[i].x ∧
    ∀ k, hs[i].2.val.ownBlock = some k → v.ownBlock ≠ some k ∧ ∀ j (r : j < hs.length), j ≠ i → hs[j].2.val.ownBlock ≠ some k
/-- frames that are read -/
def SlL (w : World) (v : Value) (fs : List Ln) : Prop :=
  ∃ hs : List (L3 × Hd), Sl cLn w v hs ∧ hs.length = fs.length ∧ ∀ i (p : i < hs.length) (q : i < fs.length), hs[i].1 = fs[i].k3 ∧ Sl cN w hs[i].2.val fs[i].x
theorem ObL.sl {B H : Nat} {w : World} {v : Value} {fs : List Ln} (h : ObL B H w v fs) : SlL w v fs := by
  obtain ⟨hs, h1, h2, h3⟩ := h
  exact ⟨hs, h1.sl, h2, fun i p q => ⟨(h3 i p q).1, (h3 i p q).2.1.sl⟩⟩
theorem SlL.opn {w : World} {v : Value} {fs : List Ln} (h : SlL w v fs) : ∃ A c, v = .slice A fs.length c := by
  obtain ⟨hs, h1, h2, -⟩ := h
  rw [← h2]; exact h1.opn
theorem ObL.opn {B H : Nat} {w : World} {v : Value} {fs : List Ln} (h : ObL B H w v fs) : ∃ A c, v = .slice A fs.length c := h.sl.opn
theorem SlL.below {w w' : World} {v : Value} {fs : List Ln} (h : SlL w v fs) (hb : Below w.heap.size w w') : SlL w' v fs := by
  obtain ⟨hs, h1, h2, h3⟩ := h
  exact ⟨hs, h1.below hb, h2, fun i p q => ⟨(h3 i p q).1, (h3 i p q).2.below hb⟩⟩
theorem ObL.below {B H : Nat} {w w' : World} {v : Value} {fs : List Ln} (h : ObL B H w v fs) (hb : Below w.heap.size w w') : ObL B H w' v fs := by
  obtain ⟨hs, h1, h2, h3⟩ := h
  exact ⟨hs, h1.below hb, h2, fun i p q => ⟨(h3 i p q).1, (h3 i p q).2.1.below hb, (h3 i p q).2.2⟩⟩
theorem ObL.keep {B H B' H' : Nat} {w w' : World} {v : Value} {fs : List Ln} (h : ObL B H w v fs) (k : Keep B' H' w w') (hd : H ≤ B' ∨ H' ≤ B) : ObL B H w' v fs := by
  obtain ⟨hs, h1, h2, h3⟩ := h
  exact ⟨hs, h1.keep k hd, h2, fun i p q => ⟨(h3 i p q).1, (h3 i p q).2.1.keep k hd, (h3 i p q).2.2⟩⟩
theorem ObL.nil (B H : Nat) (w : World) : ObL B H w (.slice none 0 0) [] := ⟨[], ⟨Ow.nil _ _, fun k hk => by cases hk⟩, rfl, fun i p => by simp at p⟩
theorem ObL.mono {B B' H : Nat} {w : World} {v : Value} {fs : List Ln} (h : ObL B H w v fs) (hB : B' ≤ B) : ObL B' H w v fs := by
  obtain ⟨hs, h1, h2, h3⟩ := h
  exact ⟨hs, ⟨h1.1.mono hB, h1.2⟩, h2, fun i p q => ⟨(h3 i p q).1, ⟨(h3 i p q).2.1.1.mono hB, (h3 i p q).2.1.2⟩, (h3 i p q).2.2⟩⟩
theorem ObL.top {B H H' : Nat} {w : World} {v : Value} {fs : List Ln} (h : ObL B H w v fs) (hH : H ≤ H') : ObL B H' w v fs := by
  obtain ⟨hs, h1, h2, h3⟩ := h
  exact ⟨hs, ⟨h1.1, fun k hk => Nat.lt_of_lt_of_le (h1.2 k hk) hH⟩, h2, fun i p q => ⟨(h3 i p q).1, ⟨(h3 i p q).2.1.1, fun k hk => Nat.lt_of_lt_of_le ((h3 i p q).2.1.2 k hk) hH⟩, (h3 i p q).2.2⟩⟩
/-- one frame more, whose list is younger than all of them -/
theorem ObL.push {B : Nat} {w0 w : World} {v : Value} {fs : List Ln} (h : ObL B w0.heap.size w0 v fs) (hb : Below w0.heap.size w0 w) {A : Option Addr} {n c : Nat} {xs : List Nd} (hu : Ow cN 75 w0.heap.size w (.slice A n c) xs) (hB : B ≤ w0.heap.size) (x : L3) :
    ∃ hs : List (L3 × Hd), Ow cLn 46 B w v hs ∧ hs.length = fs.length ∧ ∀ w' v' W, w.grownBy W none → W.heap.size = w.heap.size + 1 → Ow cLn 46 B w' v' (hs ++ [(x, ⟨A, n, c⟩)]) → W.grownBy w' v.ownBlock →
      (v'.ownBlock = v.ownBlock ∨ v'.ownBlock = some (w.heap.size + 1)) → ObL B w'.heap.size w' v' (fs ++ [mkLn x xs]) := by
  obtain ⟨hs, h1, h2, h3⟩ := h
  have hsz0 := hb.size
  refine ⟨hs, h1.1.below hb, h2, fun w' v' W hw hWz ho hg hat => ?_⟩
  have hsz : w.heap.size < w'.heap.size := by have := hg.size; omega
  have hv : ∀ k, v.ownBlock = some k → k < w0.heap.size := fun k hk => h1.2 k hk
  have key : ∀ (u : Value) (ys : List Nd), Ow cN 75 B w u ys → (∀ k, u.ownBlock = some k → k < w.heap.size ∧ v.ownBlock ≠ some k) →
      Ob cN 75 B w'.heap.size w' u ys ∧ ∀ k, u.ownBlock = some k → v'.ownBlock ≠ some k := by
    intro u ys hu hk
    refine ⟨⟨(hu.kept hw ?_).kept hg ?_, fun k e => by have := (hk k e).1; omega⟩, fun k e e3 => ?_⟩
    · cases hq : u.ownBlock with
      | none => exact .inl rfl
      | some k => exact .inr (by simp)
    · cases hq : u.ownBlock with
      | none => exact .inl rfl
      | some k => exact .inr fun e => (hk k hq).2 e.symm
    · rcases hat with e2 | e2
      · exact (hk k e).2 (e2 ▸ e3)
      · rw [e2] at e3; injection e3 with e3; have := (hk k e).1; omega
  have hnew : ∀ k, (Value.slice A n c).ownBlock = some k → w0.heap.size ≤ k ∧ k < w.heap.size := fun k hk => hu.block k hk
  have hold : ∀ i (p : i < hs.length), ∀ k, hs[i].2.val.ownBlock = some k → k < w0.heap.size := fun i p k hk => (h3 i p (by omega)).2.1.2 k hk
  have e3 : ∀ (p : hs.length < (hs ++ [(x, (⟨A, n, c⟩ : Hd))]).length), (hs ++ [(x, (⟨A, n, c⟩ : Hd))])[hs.length] = (x, ⟨A, n, c⟩) := fun p => by simp
  refine ⟨_, ⟨ho, fun k hk => (ho.block k hk).2⟩, by simp [h2], fun i p q => ?_⟩
  by_cases hi : i < hs.length
  · have e1 : (hs ++ [(x, (⟨A, n, c⟩ : Hd))])[i] = hs[i] := List.getElem_append_left hi
    have e2 : (fs ++ [mkLn x xs])[i] = fs[i]'(by omega) := List.getElem_append_left (by omega)
    obtain ⟨a1, a2, a3⟩ := h3 i hi (by omega)
    have kk := key _ _ (a2.1.below hb) (fun k hk => ⟨by have := hold i hi k hk; omega, (a3 k hk).1⟩)
    rw [e1, e2]
    refine ⟨a1, kk.1, fun k hk => ⟨kk.2 k hk, fun j r hj => ?_⟩⟩
    by_cases hjl : j < hs.length
    · rw [List.getElem_append_left hjl]
      exact (a3 k hk).2 j hjl hj
    · have : j = hs.length := by simp at r; omega
      subst this
      rw [e3]
      intro e
      have q1 := (hnew k e).1
      have q2 := hold i hi k hk
      omega
  · have hi' : i = hs.length := by simp at p; omega
    subst hi'
    have e2 : (fs ++ [mkLn x xs])[hs.length] = mkLn x xs := by
      rw [List.getElem_append_right (by omega)]; simp [h2]
    rw [e3, e2]
    have kk := key (.slice A n c) xs (hu.mono hB) (fun k hk => ⟨(hnew k hk).2, fun e => by have := hv k e; have := (hnew k hk).1; omega⟩)
    refine ⟨rfl, kk.1, fun k hk => ⟨kk.2 k hk, fun j r hj => ?_⟩⟩
    have hjl : j < hs.length := by simp at r; omega
    rw [List.getElem_append_left hjl]
    intro e
    have q1 := (hnew k hk).1
    have q2 := hold j hjl k e
    omega
theorem SlL.at_ {w : World} {A : Option Addr} {n c : Nat} {fs : List Ln} (h : SlL w (.slice A n c) fs) {k : Nat} (hk : k < fs.length) :
    ∃ b o Ai ci, A = some ⟨b, o, none⟩ ∧ b < w.heap.size ∧ w.cell? ⟨b, o + k * 4, none⟩ = some (.int .i64 fs[k].r) ∧ w.cell? ⟨b, o + k * 4 + 1, none⟩ = some (.int .i64 fs[k].f) ∧ w.cell? ⟨b, o + k * 4 + 2, none⟩ = some (.int .i64 fs[k].s) ∧
      w.cell? ⟨b, o + k * 4 + 3, none⟩ = some (.slice Ai fs[k].x.length ci) ∧ Sl cN w (.slice Ai fs[k].x.length ci) fs[k].x := by
  obtain ⟨hs, h1, h2, h3⟩ := h
  have hk' : k < hs.length := by omega
  obtain ⟨b, o, e1, hb, hc⟩ := h1.cell hk'
  obtain ⟨a1, a2⟩ := h3 k hk' hk
  have c0 := hc 0 (.int .i64 hs[k].1.1) rfl
  have c1 := hc 1 (.int .i64 hs[k].1.2.1) rfl
  have c2 := hc 2 (.int .i64 hs[k].1.2.2) rfl
  have c3 := hc 3 hs[k].2.val rfl
  obtain ⟨Ai, ci, e2⟩ := a2.opn
  rw [e2] at a2 c3
  rw [a1] at c0 c1 c2
  exact ⟨b, o, Ai, ci, e1, hb, c0, c1, c2, c3, a2⟩
/- The laws' own functions on lists of lines: sizes, equality, copies. -/
open Go.RowKit
set_option linter.unusedVariables false
set_option linter.unusedSimpArgs false
def xsL (ls : List Ln) : List (List Nd) := ls.map (·.x)
theorem xsL_len (ls : List Ln) : (xsL ls).length = ls.length := List.length_map ..
theorem xsL_get (ls : List Ln) (j : Nat) (h : j < ls.length) : (xsL ls)[j]'(by rw [xsL_len]; exact h) = ls[j].x := List.getElem_map ..
/-- counted: the lines, and their nodes -/
def totL (ls : List Ln) : Nat := tot (xsL ls)
theorem totL_len (ls : List Ln) : ls.length ≤ totL ls := by unfold totL tot; rw [xsL_len]; omega
theorem totL_get (ls : List Ln) (j : Nat) (h : j < ls.length) : ls[j].x.length ≤ totL ls := by
  have := sumL_get (xsL ls) j (by rw [xsL_len]; exact h)
  rw [xsL_get ls j h] at this
  unfold totL tot
  omega
theorem law_szLine (r f s : Int) (v : Value) (xs : List Nd) (l : Int) (w : World) (h : Sl cN w v xs) (hl : -1 ≤ l ∧ l ≤ 1048576) :
    Calls Tryz.prog 16 #[.agg #[.int .i64 r, .int .i64 f, .int .i64 s, v], .int .i64 l] w fun e w' => e = .returned (.int .i64 (szL l xs.length)) ∧ Below w.heap.size w w' := by
  obtain ⟨A, c, rfl⟩ := h.opn
  have hb := below_alloc' w (.cells #[.int .i64 r, .int .i64 f, .int .i64 s, .slice A xs.length c] 41)
  have HS := Lib.hid (sz_nodeS _ xs l _ (h.below hb) hl)
  have hk := Blk.new w 41 #[.int .i64 r, .int .i64 f, .int .i64 s, .slice A xs.length c]
  have k3 := hk.cell 3
  have lp := hk.lt
  have HB := Lib.hid hb
  clear h hb hk
  by_cases hn : l - xs.length < 0
  · rw [szL_neg hn] at HS ⊢
    go_enter Tryz.func16, Tryz.ntmps16
    go_wp2_with fail
    refine HS.out.mono ?_
    rintro e w1 ⟨rfl, rfl⟩
    go_wp2
    go_ret
    exact ⟨rfl, HB.out⟩
  · rw [szL_pos hn] at HS ⊢
    have hq : decide (l - (xs.length : Int) < 0) = false := decide_eq_false hn
    go_enter Tryz.func16, Tryz.ntmps16
    go_wp2_with fail
    refine HS.out.mono ?_
    rintro e w1 ⟨rfl, rfl⟩
    go_wp2
    go_ret
    exact ⟨rfl, HB.out⟩
theorem u_sz_LineS (v : Value) (ls : List Ln) (l : Int) (w : World) (h : SlL w v ls) (hl : -1 ≤ l ∧ l ≤ 1048576) :
    Calls Tryz.prog 5 #[v, .int .i64 l] w fun e w' => e = .returned (.int .i64 (szL l (totL ls))) ∧ Below w.heap.size w w' := by
  have hlen : ls.length ≤ 9223372036854775807 := by
    obtain ⟨hs, ⟨A', c', h1, h2, h3, -⟩, h4, -⟩ := h
    omega
  obtain ⟨A, c, rfl⟩ := h.opn
  by_cases hn : l - ls.length < 0
  · have hz : szL l (totL ls) = -1 := szL_neg (by have := totL_len ls; omega)
    rw [hz]
    clear hz h
    go_enter Tryz.func5, Tryz.ntmps5
    go_wp2
    go_ret
    exact ⟨rfl, Below.refl _ _⟩
  · have H := Lib.hid h
    have hT : totL ls = ls.length + sumL (xsL ls) := by unfold totL tot; rw [xsL_len]
    have HT := Lib.hid hT
    have hln : ls.length ≤ 1048576 := by omega
    have hn' : decide (l - (ls.length : Int) < 0) = false := decide_eq_false hn
    have e2 : 0 ≤ l - ls.length - sumL (xsL ls) → szL l (totL ls) = l - ls.length - sumL (xsL ls) := fun hh => by rw [szL_pos (show ¬ l - ((totL ls : Nat) : Int) < 0 by rw [hT]; omega), hT]; omega
    have E2 := Lib.hid e2
    clear h hT e2
    go_enter Tryz.func5, Tryz.ntmps5
    go_wp2
    go_loopw [1, 5] (fun q i wr => ∃ j : Nat, j ≤ ls.length ∧ i = .int .i64 j ∧ q = .int .i64 (l - ls.length - sumL ((xsL ls).take j)) ∧ 0 ≤ l - ls.length - sumL ((xsL ls).take j) ∧ Below w.heap.size w wr) (fun _ i _ => ls.length - (intOf i).toNat)
    case atStart => exact ⟨0, Nat.zero_le _, rfl, by simp [sumL], by simp [sumL]; omega, Below.refl _ _⟩
    case round =>
      obtain ⟨j, hj, rfl, rfl, hge, hbw⟩ := hrel
      have HBW := Lib.hid hbw
      by_cases hlt : j < ls.length
      · obtain ⟨b, o, Ai, ci, rfl, hb, c0, c1, c2, c3, hs⟩ := (H.out.below hbw).at_ hlt
        have hlx : j < (xsL ls).length := by rw [xsL_len]; exact hlt
        have hsu := sumL_succ (xsL ls) j hlx
        have hsl := sumL_take (xsL ls) (j + 1)
        obtain ⟨y, hy⟩ : ∃ y : Nat, sumL ((xsL ls).take j) = y := ⟨_, rfl⟩
        obtain ⟨m, hm⟩ : ∃ m : Nat, (ls[j]'hlt).x.length = m := ⟨_, rfl⟩
        have hcon := Lib.hid (law_szLine (ls[j]'hlt).r (ls[j]'hlt).f (ls[j]'hlt).s _ _ (l - ls.length - (y : Int)) wr hs (by omega))
        rw [hm] at c3 hcon
        rw [hy] at hge ⊢
        have HS : Hid (sumL ((xsL ls).take (j + 1)) = y + m) := Lib.hid (by rw [hsu, hy, xsL_get ls j hlt, hm])
        have HL : Hid (y + m ≤ sumL (xsL ls)) := Lib.hid (by have := hsl; rw [HS.out] at this; exact this)
        clear hsu hsl hy hs hbw hm
        generalize (ls[j]'hlt).r = r at *
        generalize (ls[j]'hlt).f = f at *
        generalize (ls[j]'hlt).s = s at *
        by_cases hq : l - ls.length - (y : Int) - m < 0
        · have hz : szL (l - ls.length - (y : Int)) m = -1 := szL_neg hq
          rw [hz] at hcon
          go_wp2_with fail
          refine hcon.out.mono ?_
          rintro e w1 ⟨rfl, hb1⟩
          have HB1 := Lib.hid (bthen HBW.out hb1)
          clear hb1
          go_wp2
          go_ret
          have e3 : szL l (totL ls) = -1 := szL_neg (by rw [HT.out]; have := HL.out; omega)
          exact ⟨by rw [e3]; rfl, HB1.out⟩
        · have hz : szL (l - ls.length - (y : Int)) m = l - ls.length - (y : Int) - m := szL_pos hq
          rw [hz] at hcon
          have hq' : decide (l - (ls.length : Int) - (y : Int) - (m : Int) < 0) = false := decide_eq_false hq
          go_wp2_with fail
          refine hcon.out.mono ?_
          rintro e w1 ⟨rfl, hb1⟩
          have HB1 := Lib.hid (bthen HBW.out hb1)
          clear hb1 c0 c1 c2 c3
          go_wp2
          go_roundw
          case rel => exact ⟨j + 1, by omega, by go_num, by rw [HS.out]; go_num, by rw [HS.out]; omega, HB1.out⟩
          case measure => simp [intOf]; omega
      · obtain rfl : j = ls.length := by omega
        have e1 : (xsL ls).take ls.length = xsL ls := by rw [← xsL_len]; exact List.take_length
        rw [e1] at hge ⊢
        clear e1
        go_wp2
        go_ret
        exact ⟨by rw [E2.out hge]; rfl, HBW.out⟩
theorem law_eqLine (r f s : Int) (v u : Value) (xs : List Nd) (w : World) (hx : Sl cN w v xs) (hy : Sl cN w u xs) (hn : xs.length ≤ 268435456) :
    Calls Tryz.prog 26 #[.agg #[.int .i64 r, .int .i64 f, .int .i64 s, v], .agg #[.int .i64 r, .int .i64 f, .int .i64 s, u]] w fun e w' => e = .returned (.bool true) ∧ Below w.heap.size w w' := by
  obtain ⟨A, c, rfl⟩ := hx.opn
  obtain ⟨B, d, rfl⟩ := hy.opn
  have hb1 := below_alloc' w (.cells #[.int .i64 r, .int .i64 f, .int .i64 s, .slice A xs.length c] 46)
  have hb2 := below_alloc' (w.alloc (.cells #[.int .i64 r, .int .i64 f, .int .i64 s, .slice A xs.length c] 46)) (.cells #[.int .i64 r, .int .i64 f, .int .i64 s, .slice B xs.length d] 46)
  have HE := Lib.hid (u_eq_SN _ _ xs _ ((hx.below hb1).below hb2) ((hy.below hb1).below hb2) hn)
  have HB := Lib.hid (bthen hb1 hb2)
  clear hx hy hb1 hb2
  go_enter Tryz.func26, Tryz.ntmps26
  go_wp2_with fail
  refine HE.out.mono ?_
  rintro e w1 ⟨rfl, hb⟩
  have HB1 := Lib.hid (bthen HB.out hb)
  clear hb
  go_wp2
  go_ret
  exact ⟨rfl, HB1.out⟩
set_option maxRecDepth 100000 in
theorem u_eq_LineS (v u : Value) (ls : List Ln) (w : World) (hx : SlL w v ls) (hy : SlL w u ls) (hn : totL ls ≤ 268435456) :
    Calls Tryz.prog 10 #[v, u] w fun e w' => e = .returned (.bool true) ∧ Below w.heap.size w w' := by
  obtain ⟨A, c, rfl⟩ := hx.opn
  obtain ⟨B, d, rfl⟩ := hy.opn
  have hln : ls.length ≤ 268435456 := Nat.le_trans (totL_len ls) hn
  have HX := Lib.hid hx
  have HY := Lib.hid hy
  have HG : Hid (∀ j (h : j < ls.length), ls[j].x.length ≤ 268435456) := Lib.hid (fun j h => Nat.le_trans (totL_get ls j h) hn)
  clear hx hy hn
  go_enter Tryz.func10, Tryz.ntmps10
  go_wp2
  go_loopw [5] (fun i wr => ∃ j : Nat, j ≤ ls.length ∧ i = .int .i64 j ∧ Below w.heap.size w wr) (fun i _ => ls.length - (intOf i).toNat)
  case atStart => exact ⟨0, Nat.zero_le _, rfl, Below.refl _ _⟩
  case round =>
    obtain ⟨j, hj, rfl, hb⟩ := hrel
    have HB := Lib.hid hb
    by_cases hlt : j < ls.length
    · obtain ⟨b, o, Ai, ci, e1, hbl, c0, c1, c2, c3, hs⟩ := (HX.out.below hb).at_ hlt
      obtain ⟨b', o', Ai', ci', e1', hbl', d0, d1, d2, d3, hs'⟩ := (HY.out.below hb).at_ hlt
      subst e1
      subst e1'
      have HC := Lib.hid (fun X (hX : Below wr.heap.size wr X) => law_eqLine (ls[j]'hlt).r (ls[j]'hlt).f (ls[j]'hlt).s _ _ _ X (hs.below hX) (hs'.below hX) (HG.out j hlt))
      generalize (ls[j]'hlt).x.length = m at *
      generalize (ls[j]'hlt).r = r at *
      generalize (ls[j]'hlt).f = f at *
      generalize (ls[j]'hlt).s = s at *
      clear hb hs hs'
      go_upto_region 6 with fail
      refine wp_region_sched (Below wr.heap.size wr) 10 [0, 1, 2, 3, 4, 5, 6, 7, 9] [0, 1, 2, 3, 4, 5, 6, 7, 8, 9] (by kernel_rfl) (by kernel_rfl) (Below.refl _ _).drew ?_
      repeat
        apply wpSched_q rfl rfl
        case h =>
          intro w' hI K hK
          have c0' := (hI.cell (p := ⟨b, o + j * 4, none⟩) hbl).trans c0
          have c1' := (hI.cell (p := ⟨b, o + j * 4 + 1, none⟩) hbl).trans c1
          have c2' := (hI.cell (p := ⟨b, o + j * 4 + 2, none⟩) hbl).trans c2
          have c3' := (hI.cell (p := ⟨b, o + j * 4 + 3, none⟩) hbl).trans c3
          have d0' := (hI.cell (p := ⟨b', o' + j * 4, none⟩) hbl').trans d0
          have d1' := (hI.cell (p := ⟨b', o' + j * 4 + 1, none⟩) hbl').trans d1
          have d2' := (hI.cell (p := ⟨b', o' + j * 4 + 2, none⟩) hbl').trans d2
          have d3' := (hI.cell (p := ⟨b', o' + j * 4 + 3, none⟩) hbl').trans d3
          simp only [quietV, stillV]
          go_simp
          exact hK
        go_simp
      refine wpSched_r rfl rfl ?_ (Below.refl _ _).drew
      intro K hK hI
      go_simp
      refine (HC.out _ hI).mono ?_
      rintro e w2 ⟨rfl, hb2⟩
      have hI2 := hI.trans (hb2.mono hI.size)
      refine hK _ _ hI2 ?_
      clear hK K
      have HB2 := Lib.hid (bthen HB.out hI2)
      clear hI hI2 hb2 c0 c1 c2 c3 d0 d1 d2 d3
      repeat
        apply wpSched_q rfl rfl
        case h =>
          intro w' hI K hK
          simp only [quietV, stillV]
          go_simp
          exact hK
        go_simp
      refine wpSched_nil ?_
      try simp only [List.drop_succ_cons, List.drop_zero, List.drop_nil]
      go_wp2
      go_roundw
      case rel => exact ⟨j + 1, by omega, by go_num, HB2.out⟩
      case measure => simp [intOf]; omega
    · clear hb
      obtain rfl : j = ls.length := by omega
      go_wp2
      go_ret
      exact ⟨rfl, HB.out⟩
end Go.Proofs.YtcikenffeekkeaaGreatDoor
