/- Joined of several texts. -/
import Derived.Test.YtcikenffeekkeaaGreatDoorY15
import Derived.Test.YtcikenffeekkeaaGreatDoorY04
import Derived.Test.YtcikenffeekkeaaGreatDoorY11
import Derived.Test.YtcikenffeekkeaaGreatDoorY05
import Derived.Test.YtcikenffeekkeaaGreatDoorY07
import Derived.Deep.RegionHeld3
import Derived.Deep.QuietTactic
import Derived.BigQuiet
import Derived.Laws.StructEq
namespace Go.Proofs.YtcikenffeekkeaaGreatDoor
/- The laws' own functions on lists of lines: marks held; lines that came in. -/
open Go.RowKit
set_option linter.unusedVariables false
set_option linter.unusedSimpArgs false
set_option maxRecDepth 100000 in
theorem u_held_LineS (v : Value) (ls : List Ln) (k : Int) (w : World) (h : SlL w v (numLn k ls)) (hl : totL ls ≤ 1048576) (hk : 0 ≤ k ∧ k ≤ 67108864) :
    Calls Tryz.prog 14 #[v, .int .i64 k] w fun e w' => e = .returned (.int .i64 (k + szM ls)) ∧ Below w.heap.size w w' := by
  obtain ⟨A, c, rfl⟩ := h.opn
  have hNL := numLn_length k ls
  rw [hNL] at h ⊢
  have hln : ls.length ≤ 1048576 := Nat.le_trans (totL_len ls) hl
  have HH := Lib.hid h
  have HG := Lib.hid (fun j (h : j < ls.length) => Nat.le_trans (totL_get ls j h) hl)
  have HS := Lib.hid (fun j (h : j < ls.length) => szM_succ ls j h)
  have HT : Hid (∀ j, szM (ls.take j) ≤ 3145728) := Lib.hid (fun j => by have := szM_take ls j; have := szM_le ls; omega)
  have HNG := Lib.hid (fun j (h : j < ls.length) => numLn_get k ls j h)
  have HTE : Hid (szM (ls.take ls.length) = szM ls) := Lib.hid (by rw [List.take_length])
  have HNL := Lib.hid hNL
  clear hl h hNL
  go_enter Tryz.func14, Tryz.ntmps14
  go_wp2
  go_loopw [1, 5] (fun q i wr => ∃ j : Nat, j ≤ ls.length ∧ i = .int .i64 j ∧ q = .int .i64 (k + szM (ls.take j)) ∧ Below w.heap.size w wr) (fun _ i _ => ls.length - (intOf i).toNat)
  case atStart => exact ⟨0, Nat.zero_le _, rfl, by simp [szM], Below.refl _ _⟩
  case round =>
    obtain ⟨j, hj, rfl, rfl, hb⟩ := hrel
    have HB := Lib.hid hb
    by_cases hlt : j < ls.length
    · obtain ⟨b, o, Ai, ci, e1, hbl, c0, c1, c2, c3, hs⟩ := (HH.out.below hb).at_ (k := j) (by rw [HNL.out]; exact hlt)
      subst e1
      rw [HNG.out j hlt] at c0 c1 c2 c3 hs
      unfold nLn at c0 c1 c2 c3 hs
      dsimp only at c0 c1 c2 c3 hs
      rw [numN_length] at c3 hs
      have hT := HT.out j
      have hSu := HS.out j hlt
      have hG := HG.out j hlt
      obtain ⟨y, hy⟩ : ∃ y : Int, k + (szM (ls.take j) : Int) = y := ⟨_, rfl⟩
      have hy0 : 0 ≤ y ∧ y ≤ 70254592 := by omega
      have HNX : Hid (k + (szM (ls.take (j + 1)) : Int) = y + 1 + 1 + 1 + 2 * (ls[j].x.length : Int)) := Lib.hid (by rw [hSu, ← hy]; push_cast; omega)
      rw [hy] at c0 c1 c2 hs ⊢
      generalize ls[j].x.length = m at *
      have HHe := Lib.hid (u_held_SN (.slice Ai m ci) m (y + 1 + 1 + 1) wr hs (by omega) (by omega))
      have hge : ¬ (y + 1 + 1 + 1 + 2 * (m : Int) < 0) := by omega
      clear hb hs hy hSu
      go_wp2_with fail
      refine HHe.out.mono ?_
      rintro e w2 ⟨rfl, hb2⟩
      have HB2 := Lib.hid (bthen HB.out hb2)
      clear hb2 c0 c1 c2 c3
      go_wp2
      go_roundw
      case rel => exact ⟨j + 1, by omega, by go_num, by rw [HNX.out], HB2.out⟩
      case measure => simp [intOf]; omega
    · obtain rfl : j = ls.length := by omega
      rw [HTE.out]
      clear hb
      go_wp2
      go_ret
      exact ⟨rfl, HB.out⟩
open Go.RowKit Go.ChangeShapes Go.WideShapes Go.Deep in
/-- a slice of lines that came in -/
theorem open_SLn {H : Type} {enc : TypeId × Value → H} {P : Program} {w : World} {base : Nat} {spare : Nat → Bool} {held : Bool} {t e e2 : TypeId} {f0 f1 f2 f3 g0 g1 : Field} (ht : P.underlying t = some (.slice e)) (he : P.underlying e = some (.struct #[f0, f1, f2, f3])) (hone : oneCellFields P #[f0, f1, f2, f3] = true) (hC : P.cellsOf e = 4)
    (h0 : P.underlying f0.type = some (.int .i64)) (h1 : P.underlying f1.type = some (.int .i64)) (h2 : P.underlying f2.type = some (.int .i64)) (h3 : P.underlying f3.type = some (.slice e2)) (he2 : P.underlying e2 = some (.struct #[g0, g1])) (hone2 : oneCellFields P #[g0, g1] = true) (hC2 : P.cellsOf e2 = 2)
    (k0 : P.underlying g0.type = some (.int .i64)) (k1 : P.underlying g1.type = some (.int .i64)) {fuel : Nat} {v : Value} {x : DataW H × List MemPlace}
    (h : DataW.trod enc P w base spare held fuel t [v] = some x) : ∃ ls : List Ln, SlL w v ls := by
  rcases open_slice_fields ht he hone hC h with ⟨hcs, _⟩ | ⟨a, len, cap, m, D, Pl, hcs, -, hl, hm, hmm, -, hi⟩
  · injection hcs with hv _
    subst hv
    exact ⟨[], [], Sl.nil, rfl, fun i p => by simp at p⟩
  · injection hcs with hv _
    subst hv
    have hml : len ≤ m := by rw [hmm]; split <;> omega
    have hex : ∀ i, i < len → ∃ (q : L3 × Hd) (xs : List Nd), (∀ j u, (cLn.cells q)[j]? = some u → w.cell? (a.add (i * 4 + j)) = some u) ∧ Sl cN w q.2.val xs := by
      intro i hil
      obtain ⟨ys, n, _, _, _, hf⟩ := hi i (by omega)
      obtain ⟨v0, y0, hc0, _, ht0⟩ := hf 0 f0 rfl
      obtain ⟨v1, y1, hc1, _, ht1⟩ := hf 1 f1 rfl
      obtain ⟨v2, y2, hc2, _, ht2⟩ := hf 2 f2 rfl
      obtain ⟨v3, y3, hc3, _, ht3⟩ := hf 3 f3 rfl
      obtain ⟨n0, e0, _⟩ := DataW.trod_int h0 ht0
      obtain ⟨n1, e1, _⟩ := DataW.trod_int h1 ht1
      obtain ⟨n2, e2, _⟩ := DataW.trod_int h2 ht2
      injection e0 with e0 _
      injection e1 with e1 _
      injection e2 with e2 _
      subst e0; subst e1; subst e2
      obtain ⟨xs, hs⟩ := open_SN h3 he2 hone2 hC2 k0 k1 ht3
      obtain ⟨A, c, hv⟩ := hs.opn
      rw [hv] at hc3 hs
      refine ⟨((n0, n1, n2), ⟨A, xs.length, c⟩), xs, fun j u hu => ?_, hs⟩
      match j, hu with
      | 0, hu => injection hu with hu; subst hu; simpa using hc0
      | 1, hu => injection hu with hu; subst hu; simpa using hc1
      | 2, hu => injection hu with hu; subst hu; simpa using hc2
      | 3, hu =>
        injection hu with hu
        subst hu
        have hc3' : w.cell? (a.add (i * 4 + 3)) = some (.slice A xs.length c) := by simpa using hc3
        exact hc3'
      | j + 4, hu => simp [cLn] at hu
    obtain ⟨hs, ls, e1, e2', h3'⟩ : ∃ (hs : List (L3 × Hd)) (ls : List Ln), hs.length = len ∧ ls.length = len ∧ ∀ i (p : i < hs.length) (q : i < ls.length), (∀ j u, (cLn.cells hs[i])[j]? = some u → w.cell? (a.add (i * 4 + j)) = some u) ∧ hs[i].1 = ls[i].k3 ∧ Sl cN w hs[i].2.val ls[i].x := by
      clear hi hml hm hl hmm h
      induction len with
      | zero => exact ⟨[], [], rfl, rfl, fun i p => by simp at p⟩
      | succ l ih =>
        obtain ⟨hs, ls, e1, e2', h3'⟩ := ih fun i hi => hex i (by omega)
        obtain ⟨q, xs, g1', g2⟩ := hex l (by omega)
        refine ⟨hs ++ [q], ls ++ [mkLn q.1 xs], by simp [e1], by simp [e2'], fun i p r => ?_⟩
        by_cases hil : i < hs.length
        · rw [List.getElem_append_left hil, List.getElem_append_left (by omega)]
          exact h3' i hil (by omega)
        · have : i = l := by simp at p; omega
          subst this
          have a1 : (hs ++ [q])[i] = q := by simp [e1]
          have a2 : (ls ++ [mkLn q.1 xs])[i] = mkLn q.1 xs := by simp [e2']
          rw [a1, a2]
          exact ⟨g1', rfl, g2⟩
    refine ⟨ls, hs, sl_of_cells (K := cLn) e1.symm hl hm fun k u hu => ?_, by omega, fun i p q => (h3' i p q).2⟩
    have hkl : k < hs.length * 4 := by
      have := (List.getElem?_eq_some_iff.1 hu).1
      rwa [flat_length] at this
    have hq : k / 4 < hs.length := by omega
    have hr : k % 4 < 4 := Nat.mod_lt _ (by decide)
    have hh := flat_get (K := cLn) hs (k / 4) hq (k % 4) hr
    have hk : k / 4 * 4 + k % 4 = k := by omega
    rw [show k / 4 * cLn.size + k % 4 = k from hk, hu] at hh
    have := (h3' (k / 4) hq (by omega)).1 (k % 4) u hh.symm
    rwa [hk] at this
/- Plain law of Hilbert proofs: the state of a matching, node by node. No program in sight. -/
open Go.RowKit
set_option linter.unusedVariables false
set_option linter.unusedSimpArgs false
/-- a matching in which i nodes of the one and j of the other are done -/
def Mt (R : Option Img) (xs ys : List Nd) (i j : Nat) (σ : Img) : Prop :=
  ∃ fs gs, xs.drop i = encs fs ∧ ys.drop j = encs gs ∧ i ≤ xs.length ∧ j ≤ ys.length ∧ fs.length = gs.length ∧ (∀ x ∈ fs, x.ok = true) ∧ matL fs gs σ = R
theorem Mt.start (f g : Fm) (hok : f.ok = true) : Mt (matL [f] [g] fun _ => none) (enc f) (enc g) 0 0 fun _ => none :=
  ⟨[f], [g], by simp [encs], by simp [encs], Nat.zero_le _, Nat.zero_le _, rfl, fun x hx => by rw [List.mem_singleton.1 hx]; exact hok, rfl⟩
theorem encs_nil {l : List Fm} (h : encs l = []) : l = [] := by
  cases l with
  | nil => rfl
  | cons x l =>
    obtain ⟨r, hr⟩ := encs_hd x l
    rw [hr] at h; cases h
theorem Mt.done {R : Option Img} {xs ys : List Nd} {i j : Nat} {σ : Img} (h : Mt R xs ys i j σ) (hi : i = xs.length) : R = some σ ∧ j = ys.length := by
  obtain ⟨fs, gs, h1, h2, h3, h4, h5, h6, h7⟩ := h
  subst hi
  rw [List.drop_length] at h1
  have hf := encs_nil h1.symm
  subst hf
  have hg : gs = [] := by cases gs with | nil => rfl | cons x l => simp at h5
  subst hg
  refine ⟨h7.symm, ?_⟩
  have h8 : (ys.drop j).length = 0 := by rw [h2]; rfl
  rw [List.length_drop] at h8
  omega
theorem drop_hd {xs : List Nd} {i : Nat} {n : Nd} {r : List Nd} (h : xs.drop i = n :: r) : ∃ hi : i < xs.length, xs[i] = n ∧ xs.drop (i + 1) = r := by
  have hi : i < xs.length := by
    refine Classical.byContradiction fun hn => ?_
    rw [List.drop_eq_nil_of_le (by omega)] at h; cases h
  rw [List.drop_eq_getElem_cons hi] at h
  injection h with h1 h2
  exact ⟨hi, h1, h2⟩
theorem Mt.step {R : Option Img} {xs ys : List Nd} {i j : Nat} {σ : Img} (h : Mt R xs ys i j σ) (hi : i < xs.length) :
    ∃ hj : j < ys.length, ((xs[i].1 ≠ 0 ∧ (ys[j] ≠ xs[i] → R = none) ∧ (ys[j] = xs[i] → Mt R xs ys (i + 1) (j + 1) σ)) ∨
      ∃ (s : Nat) (y : Fm), s ≤ 5 ∧ xs[i] = (0, (s : Int)) ∧ (ys.drop j).take (enc y).length = enc y ∧ pe (ys.drop j) 1 j = ((j + (enc y).length : Nat) : Int) ∧ j + (enc y).length ≤ ys.length ∧
        (∀ g, σ s = some g → (enc g = enc y → Mt R xs ys (i + 1) (j + (enc y).length) σ) ∧ (enc g ≠ enc y → R = none)) ∧ (σ s = none → Mt R xs ys (i + 1) (j + (enc y).length) (σ.put s y))) := by
  obtain ⟨fs, gs, h1, h2, h3, h4, h5, h6, h7⟩ := h
  cases fs with
  | nil =>
    have : (xs.drop i).length = 0 := by rw [h1]; rfl
    rw [List.length_drop] at this; omega
  | cons x fs =>
    cases gs with
    | nil => simp at h5
    | cons y gs =>
      obtain ⟨r, hr⟩ := encs_hd y gs
      obtain ⟨hj, hyj, hyr⟩ := drop_hd (h2.trans hr)
      refine ⟨hj, ?_⟩
      have h6x := h6 x (List.mem_cons_self ..)
      by_cases hx : ∃ s, x = .var s
      · obtain ⟨s, rfl⟩ := hx
        rw [encs_var] at h1
        obtain ⟨hi', hxi, hxr⟩ := drop_hd h1
        have hs : s ≤ 5 := by simpa [Fm.ok] using h6x
        have e2 : ys.drop j = enc y ++ encs gs := h2
        have e3 : (enc y).length ≤ ys.length - j := by
          have := congrArg List.length e2
          rw [List.length_drop, List.length_append] at this; omega
        have e4 : ys.drop (j + (enc y).length) = encs gs := by rw [← List.drop_drop, e2, List.drop_left]
        rw [mat_var] at h7
        refine .inr ⟨s, y, hs, hxi, by rw [e2, List.take_left], by rw [e2, pe_enc1]; push_cast; rfl, by omega, fun g hg => ?_, fun hn => ?_⟩
        · rw [hg] at h7
          simp only at h7
          refine ⟨fun e => ?_, fun e => ?_⟩
          · rw [if_pos e] at h7
            exact ⟨fs, gs, hxr, e4, by omega, by omega, by simpa using h5, fun z hz => h6 z (List.mem_cons_of_mem _ hz), h7⟩
          · rw [if_neg e] at h7
            exact h7.symm
        · rw [hn] at h7
          exact ⟨fs, gs, hxr, e4, by omega, by omega, by simpa using h5, fun z hz => h6 z (List.mem_cons_of_mem _ hz), h7⟩
      · obtain ⟨hne, heq⟩ := mat_step x y fs gs σ (fun s e => hx ⟨s, e⟩)
        obtain ⟨r1, hr1⟩ := encs_hd x fs
        obtain ⟨hi', hxi, hxr⟩ := drop_hd (h1.trans hr1)
        have hyh : ys[j] = hd1 y := hyj
        refine .inl ⟨?_, fun e => ?_, fun e => ?_⟩
        · rw [hxi]
          cases x with
          | var s => exact absurd ⟨s, rfl⟩ hx
          | fls => simp [hd1]
          | bin k a b => cases k <;> simp [hd1, BK.i]
          | un k a => cases k <;> simp [hd1, UK.i]
        · rw [hxi, hyh] at e
          rw [← h7]; exact hne e
        · rw [hxi, hyh] at e
          obtain ⟨ps, qs, p1, p2, p3, p5, p4⟩ := heq e
          have q1 : xs.drop (i + 1) = encs (ps ++ fs) := by
            have := h1.trans p1
            exact (drop_hd this).2.2
          have q2 : ys.drop (j + 1) = encs (qs ++ gs) := by
            have := h2.trans p2
            exact (drop_hd this).2.2
          refine ⟨ps ++ fs, qs ++ gs, q1, q2, by omega, by omega, by simp at h5; simp [p3, h5], ?_, by rw [← p4]; exact h7⟩
          intro z hz
          rcases List.mem_append.1 hz with hz | hz
          · exact p5 h6x z hz
          · exact h6 z (List.mem_cons_of_mem _ hz)
/- Joined of several texts: M33, 33g, 33h, 33i, 33r, 33s, 33t. -/
open Go.RowKit
set_option linter.unusedVariables false
set_option linter.unusedSimpArgs false
/- Plain words of chapter 33: guarded variables, the ranks of the fixed points. No program in sight. -/
/-- is a variable guarded? -/
def gd : Fm → Nat → Bool
  | .var s, v => s != v
  | .fls, _ => true
  | .bin _ a b, v => gd a v && gd b v
  | .un _ _, _ => true
/-- the lists of the parts below the first node -/
def kids : Fm → List Fm
  | .bin _ a b => [a, b]
  | .un _ a => [a]
  | _ => []
def vcode (xs : List Nd) (v : Int) : Int := if isF xs then (if inR v 0 5 then 0 else 2) else 1
theorem vcode_zero {xs : List Nd} {v : Int} (h : vcode xs v = 0) : (∃ f : Fm, f.ok = true ∧ xs = enc f ∧ (enc f).length ≤ 40) ∧ ∃ s : Nat, v = s ∧ s ≤ 5 := by
  unfold vcode at h
  by_cases h1 : isF xs = true
  · by_cases h2 : inR v 0 5 = true
    · have := inR_iff.1 h2
      exact ⟨(isF_iff xs).1 h1, v.toNat, by omega, by omega⟩
    · rw [if_pos h1, if_neg h2] at h; exact absurd h (by decide)
  · rw [if_neg h1] at h; exact absurd h (by decide)
theorem vcode_ok {xs : List Nd} {s : Nat} (h : isF xs = true) (hs : s ≤ 5) : vcode xs s = 0 := by
  unfold vcode
  rw [if_pos h, if_pos (inR_true (by omega) (by omega))]
/-- no variable but one -/
def only (xs : List Nd) (s : Nat) : Bool := decide (andnot (vmask xs) (2 ^ s) = 0)
theorem only_mems : ∀ m : Nat, m < 64 → ∀ s : Nat, s < 6 → decide (andnot m (2 ^ s) = 0) = (decide ((mems m).length = 0) || (decide ((mems m).length = 1) && decide ((mems m).headD 7 = (s : Int)))) := by decide +kernel
/-- the ranks of the fixed points below some rank -/
def fpS (f : Fm) : Nat → Nat
  | 0 => 0
  | n + 1 => fpS f n ||| (msk (rk f (fpS f n)) 61 &&& 2 ^ n)
theorem fpS_lt (f : Fm) (n : Nat) : fpS f n < 2 ^ 61 := by
  induction n with
  | zero => exact (by decide : (0 : Nat) < 2 ^ 61)
  | succ n ih => exact Nat.or_lt_two_pow ih (Nat.lt_of_le_of_lt Nat.and_le_left (msk_lt _ _))
theorem fpS_bit (f : Fm) (n i : Nat) (hn : n < 61) : (fpS f (n + 1)).testBit i = ((fpS f n).testBit i || (decide (i = n) && rk f (fpS f n) n)) := by
  rw [fpS, Nat.testBit_or, Nat.testBit_and, msk_testBit, Nat.testBit_two_pow]
  by_cases h : i = n
  · subst h
    simp [hn]
  · have h' : ¬ n = i := fun e => h e.symm
    simp [h, h']
theorem fpS_out (f : Fm) (n i : Nat) (h : n ≤ i) (hn : n ≤ 61) : (fpS f n).testBit i = false := by
  induction n with
  | zero => simp [fpS]
  | succ n ih => rw [fpS_bit f n i (by omega), ih (by omega) (by omega), decide_eq_false (by omega)]; rfl
theorem fpS_msk (f : Fm) : fpS f 61 = msk (fpS f 61).testBit 61 := msk_eq 61 _ (fpS_lt f 61) fun _ _ => rfl
/- Contracts of chapter 33: guarded variables, of the program. -/
theorem Sl2.nil {α : Type} {K : Cod α} {w : World} : Sl2 K w (.slice none 0 0) ([] : List (List α)) := ⟨[], Sl.nil, rfl, fun i a => by simp at a⟩
/- Contracts of chapter 33: guarded variables, of the program; slices.IndexFunc and slices.ContainsFunc at lists of nodes, by the index. -/
/-- the first index at which p holds, or -1 -/
def fidx (p : Nat → Bool) (n : Nat) : Int := match (List.range n).find? p with | some i => (i : Int) | none => -1
theorem fidx_some {p : Nat → Bool} {n j : Nat} (hj : j < n) (h : ∀ i < j, p i = false) (hp : p j = true) : fidx p n = j := by
  have hf : (List.range n).find? p = some j := by
    rw [List.find?_eq_some_iff_append]
    refine ⟨hp, List.range j, List.range' (j + 1) (n - 1 - j), ?_, fun a ha => by rw [h a (List.mem_range.1 ha)]; rfl⟩
    obtain ⟨d, hd⟩ : ∃ d, n - 1 - j = d := ⟨_, rfl⟩
    rw [hd, ← List.range'_succ, List.range_eq_range', List.range_eq_range', show n = j + (d + 1) by omega]
    have := List.range'_append (s := 0) (m := j) (n := d + 1) (step := 1)
    rw [← this]
    simp
  unfold fidx
  rw [hf]
theorem fidx_none {p : Nat → Bool} {n : Nat} (h : ∀ i < n, p i = false) : fidx p n = -1 := by
  have hf : (List.range n).find? p = none := by
    rw [List.find?_eq_none]
    intro i hi
    rw [h i (List.mem_range.1 hi)]
    decide
  unfold fidx
  rw [hf]
theorem fidx_range (p : Nat → Bool) (n : Nat) : -1 ≤ fidx p n ∧ fidx p n < n := by
  unfold fidx
  cases hf : (List.range n).find? p with
  | none => simp; omega
  | some i =>
    have := List.mem_range.1 (List.mem_of_find?_eq_some hf)
    simp
    omega
theorem fidx_any (p : Nat → Bool) (n : Nat) : decide (0 ≤ fidx p n) = (List.range n).any p := by
  cases h : (List.range n).any p
  · rw [fidx_none fun i hi => by
      have := List.any_eq_false.1 h i (List.mem_range.2 hi)
      simpa using this]
    rfl
  · have hf : ∃ j, (List.range n).find? p = some j := by
      obtain ⟨x, hx, hp⟩ := List.any_eq_true.1 h
      cases hq : (List.range n).find? p with
      | none => exact absurd hp (by have := List.find?_eq_none.1 hq x hx; exact this)
      | some j => exact ⟨j, rfl⟩
    obtain ⟨j, hj⟩ := hf
    unfold fidx
    rw [hj]
    simp
theorem any_range {α : Type} (l : List α) (d : α) (p : α → Bool) : (List.range l.length).any (fun i => p (l.getD i d)) = l.any p := by
  rw [Bool.eq_iff_iff, List.any_eq_true, List.any_eq_true]
  constructor
  · rintro ⟨i, hi, h⟩
    have hi := List.mem_range.1 hi
    rw [List.getD_eq_getElem?_getD, List.getElem?_eq_getElem hi] at h
    exact ⟨_, List.getElem_mem hi, h⟩
  · rintro ⟨x, hx, h⟩
    obtain ⟨i, hi, rfl⟩ := List.getElem_of_mem hx
    exact ⟨i, List.mem_range.2 hi, by rw [List.getD_eq_getElem?_getD, List.getElem?_eq_getElem hi]; exact h⟩
theorem slices_IndexFunc_nodes' (v : Value) (xss : List (List Nd)) (k : FuncId) (cap : Array Value) (p : Nat → Bool) (w : World) (h : Sl2 cN w v xss) (hl : xss.length ≤ 1073741824)
    (hk : ∀ (args : Array Value) (w : World), (callFunc k args).run Tryz.prog w = .ok (.enter k args) w)
    (hf : ∀ w', Below w.heap.size w w' → ∀ (u : Value) (i : Nat) (hi : i < xss.length), Sl cN w' u xss[i] → Calls Tryz.prog k (#[u] ++ cap) w' fun e w'' => e = .returned (.bool (p i)) ∧ Below w'.heap.size w' w'') :
    Calls Tryz.prog 77 #[v, .func (.func k) #[] cap] w fun e w' => e = .returned (.int .i64 (fidx p xss.length)) ∧ Below w.heap.size w w' := by
  obtain ⟨A, c, rfl⟩ := h.opn
  have HF := Lib.hid hf; clear hf
  go_enter Tryz.func77, Tryz.ntmps77
  go_wp2
  go_loopw [8] (fun i wr => ∃ j : Nat, j ≤ xss.length ∧ i = .int .i64 j ∧ (∀ i < j, p i = false) ∧ Below w.heap.size w wr) (fun i _ => xss.length - (intOf i).toNat)
  case atStart => exact ⟨0, Nat.zero_le _, rfl, fun i hi => by omega, Below.refl _ _⟩
  case round =>
    obtain ⟨j, hj, rfl, hh, hb⟩ := hrel
    have Hh := Lib.hid hh; clear hh
    by_cases hlt : j < xss.length
    · obtain ⟨b, o, Ai, ni, ci, rfl, hbl, hc0, hs⟩ := (h.below hb).at_ hlt
      have HS := Lib.hid hs; clear hs
      go_wp2_with fail
      refine (HF.out wr hb _ j hlt HS.out).mono ?_
      rintro e w1 ⟨rfl, hb1⟩
      have HB : Hid (Below w.heap.size w w1) := Lib.hid (hb.trans (hb1.mono hb.size))
      clear hb1 hb
      by_cases hp : p j = true
      · have HE := Lib.hid (fidx_some hlt Hh.out hp)
        rw [hp]
        have HP := Lib.hid hp; clear hp
        go_wp2
        go_ret
        exact ⟨by rw [HE.out]; rfl, HB.out⟩
      · rw [Bool.not_eq_true] at hp
        rw [hp]
        have HP := Lib.hid hp; clear hp
        go_wp2
        go_roundw
        case rel => exact ⟨j + 1, by omega, by go_num, fun i hi => (Nat.lt_or_ge i j).elim (fun h => Hh.out i h) (fun h => (show i = j by omega) ▸ HP.out), HB.out⟩
        case measure => simp [intOf]; omega
    · have HE : Hid (fidx p xss.length = -1) := Lib.hid (fidx_none fun i hi => Hh.out i (by omega))
      have HB := Lib.hid hb; clear hb
      go_wp2
      go_ret
      exact ⟨by rw [HE.out]; rfl, HB.out⟩
theorem slices_ContainsFunc_nodes' (v : Value) (xss : List (List Nd)) (k : FuncId) (cap : Array Value) (p : Nat → Bool) (w : World) (h : Sl2 cN w v xss) (hl : xss.length ≤ 1073741824)
    (hk : ∀ (args : Array Value) (w : World), (callFunc k args).run Tryz.prog w = .ok (.enter k args) w)
    (hf : ∀ w', Below w.heap.size w w' → ∀ (u : Value) (i : Nat) (hi : i < xss.length), Sl cN w' u xss[i] → Calls Tryz.prog k (#[u] ++ cap) w' fun e w'' => e = .returned (.bool (p i)) ∧ Below w'.heap.size w' w'') :
    Calls Tryz.prog 61 #[v, .func (.func k) #[] cap] w fun e w' => e = .returned (.bool ((List.range xss.length).any p)) ∧ Below w.heap.size w w' := by
  have HI := Lib.hid (slices_IndexFunc_nodes' v xss k cap p w h hl hk hf)
  have HR := Lib.hid (fidx_any p xss.length)
  clear h hk hf
  go_enter Tryz.func61, Tryz.ntmps61
  go_wp2_with fail
  refine HI.out.mono ?_
  rintro e w1 ⟨rfl, hb⟩
  have HB := Lib.hid hb; clear hb
  go_wp2
  go_ret
  exact ⟨by rw [← HR.out]; rfl, HB.out⟩
theorem run_eqg_node (op : BinOp) (x y : Operand) (xs ys : Array Value) (w : World) : (eqGuard op 75 x y (.agg xs) (.agg ys)).run Tryz.prog w = .ok () w := run_eqGuard_agg w op _ x y xs ys (by kernel_rfl)
theorem run_neq_node (a b c d : Int) (w : World) : (binOp .neq 75 (.agg #[.int .i64 a, .int .i64 b]) (.agg #[.int .i64 c, .int .i64 d])).run Tryz.prog w = .ok (.bool (!(a == c && b == d))) w := by
  have u3 := Tryz.underlying2
  have hS : Tryz.prog.underlying 75 = some (.struct (Tryz.prog.fieldsOf 75)) := by kernel_rfl
  have hp : Tryz.prog.stoodInHeld 75 = false := by kernel_rfl
  rw [run_neq_struct, show (10000 : Nat) = 9999 + 1 from rfl, run_equalIn_agg w 9999 _ _ _ hS hp]
  simp only [Program.fieldsOf, Tryz.underlying75]
  go_simp
  by_cases h1 : a = c <;> by_cases h2 : b = d <;> simp [h1, h2]
def kidBad (f : Fm) (s i : Nat) : Bool := !gd ((kids f).getD i .fls) s
theorem kids_all (f : Fm) (s : Nat) : (!(List.range (kids f).length).any (kidBad f s)) = (kids f).all fun g => gd g s := by
  have h := any_range (kids f) .fls (fun g => !gd g s)
  rw [show (List.range (kids f).length).any (kidBad f s) = (kids f).any fun g => !gd g s from h, List.any_eq_not_all_not, Bool.not_not]
  congr 1
  funext g
  rw [Bool.not_not]
theorem kids_length (f : Fm) : (kids f).length ≤ 2 := by cases f <;> simp [kids]
/- Contracts of chapter 33: guarded variables, of the reference. -/
theorem drop_split {α : Type} {xs ys zs : List α} {j : Nat} (h : xs.drop j = ys ++ zs) : xs.drop (j + ys.length) = zs := by
  rw [← List.drop_drop, h, List.drop_left]
theorem drop_lt {α : Type} {xs : List α} {j : Nat} {y : α} {ys : List α} (h : xs.drop j = y :: ys) : ∃ hj : j < xs.length, xs[j] = y := by
  have hj : j < xs.length := by
    rcases Nat.lt_or_ge j xs.length with h1 | h1
    · exact h1
    · rw [List.drop_of_length_le h1] at h; cases h
  refine ⟨hj, ?_⟩
  rw [List.drop_eq_getElem_cons hj] at h
  exact (List.cons.inj h).1
/- Contracts of chapter 33: the row of a formula below a box or a diamond, and of False. Written by gen33r.py out of the texts on l32Row. -/
def rowOf (s : Nat) : List Bool := (List.range 61).map s.testBit
theorem rowOf_length (s : Nat) : (rowOf s).length = 61 := by simp [rowOf]
def rowv (s : Nat) (f : Fm) : List Bool := (List.range 61).map (rk f s)
theorem rowv_length (s : Nat) (f : Fm) : (rowv s f).length = 61 := by simp [rowv]
theorem rowv_get (s : Nat) (f : Fm) (j : Nat) (h : j < (rowv s f).length) : (rowv s f)[j] = rk f s j := by simp [rowv]
/- Contracts of chapter 33: the row of a formula with two parts. Written by gen33r.py out of the texts on l32Row. -/
/- Contracts of chapter 33: rows and traces of fixed points, of the reference. -/
theorem rowv_var (s t : Nat) : rowv s (.var t) = rowOf s := List.map_congr_left fun n _ => rfl
theorem rowOf_succ (f : Fm) (j : Nat) (h : j < 61) : (rowOf (fpS f j)).set j (rk f (fpS f j) j) = rowOf (fpS f (j + 1)) := by
  apply List.ext_getElem
  · simp [rowOf]
  · intro i h1 h2
    have hi : i < 61 := by simpa [rowOf] using h2
    rw [List.getElem_set]
    simp only [rowOf, List.getElem_map, List.getElem_range]
    rw [fpS_bit f j i h]
    by_cases hij : j = i
    · subst hij
      rw [if_pos rfl, fpS_out f j j (Nat.le_refl _) (by omega)]
      simp
    · rw [if_neg hij, decide_eq_false (fun e => hij e.symm)]
      simp
end Go.Proofs.YtcikenffeekkeaaGreatDoor
