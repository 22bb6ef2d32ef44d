/- Joined of several texts: 32r, 32s, 32t, 32k, 32l, 32m. -/
import Derived.Test.YtcikenffeekkeaaGreatDoorY02
import Derived.Test.YtcikenffeekkeaaGreatDoorY03
import Derived.Deep.RegionHeld3
namespace Go.Proofs.YtcikenffeekkeaaGreatDoor
open Go.RowKit
set_option linter.unusedVariables false
set_option linter.unusedSimpArgs false
/- Contracts of chapter 32: the ranks at which a formula is true, of the program (a mask). -/
theorem enc_un (k : UK) (a : Fm) : enc (.un k a) = (k.i, 0) :: (enc a ++ []) := by simp [enc]
theorem enc_bin (k : BK) (a b : Fm) : enc (.bin k a b) = (k.i, 0) :: (enc a ++ (enc b ++ [])) := by simp [enc]
/-- the first node of a list that is not empty -/
theorem Sl.atN0 {w : World} {A : Option Addr} {n c : Nat} {x : Nd} {xs : List Nd} (h : Sl cN w (.slice A n c) (x :: xs)) :
    ∃ b o, A = some ⟨b, o, none⟩ ∧ b < w.heap.size ∧ w.cell? ⟨b, o, none⟩ = some (.int .i64 x.1) ∧ w.cell? ⟨b, o + 1, none⟩ = some (.int .i64 x.2) := by
  obtain ⟨b, o, hA, hb, h0, h1⟩ := h.atN (k := 0) (by simp)
  exact ⟨b, o, hA, hb, by simpa using h0, by simpa using h1⟩
/- Contracts of chapter 32: the ranks at which a letterless formula is true, of the reference (a row). -/
/-- a formula without variables -/
def Fm.novar : Fm → Bool
  | .var _ => false
  | .fls => true
  | .bin _ a b => a.novar && b.novar
  | .un _ a => a.novar
def row (f : Fm) : List Bool := (List.range 61).map (rk f 0)
theorem row_length (f : Fm) : (row f).length = 61 := by simp [row]
theorem row_get (f : Fm) (j : Nat) (h : j < (row f).length) : (row f)[j] = rk f 0 j := by simp [row]
/-- one more of a row that is being filled -/
theorem set_map_replicate {α : Type} (p : Nat → α) (z : α) (n j : Nat) (h : j < n) : ((List.range j).map p ++ List.replicate (n - j) z).set j (p j) = (List.range (j + 1)).map p ++ List.replicate (n - (j + 1)) z := by
  rw [List.set_append, if_neg (by simp)]
  obtain ⟨m, hm⟩ : ∃ m, n - j = m + 1 := ⟨n - j - 1, by omega⟩
  rw [hm, show n - (j + 1) = m from by omega, List.replicate_succ]
  simp [List.range_succ]
theorem ty_bool : Ty Tryz.prog 124 4 (.bool false) 1 1 := Ty.mk' Tryz.underlying124 (by kernel_rfl) rfl (by decide)
theorem Sl.atB {w : World} {A : Option Addr} {n c : Nat} {xs : List Bool} (h : Sl cB w (.slice A n c) xs) {k : Nat} (hk : k < xs.length) :
    ∃ b o, A = some ⟨b, o, none⟩ ∧ b < w.heap.size ∧ w.cell? ⟨b, o + k, none⟩ = some (.bool xs[k]) := by
  obtain ⟨b, o, hA, hb, hc⟩ := h.cell hk
  have := hc 0 (.bool xs[k]) rfl
  exact ⟨b, o, hA, hb, by simpa [cB] using this⟩
/- Contracts of chapter 32: the row of a formula with two parts, of the reference. -/
/- Contracts of chapter 32: the code of letterless formulas. -/
/-- a slice of slices reads as a list of lists -/
def Sl2 {α : Type} (K : Cod α) (w : World) (v : Value) (xss : List (List α)) : Prop :=
  ∃ hs : List Hd, Sl cH w v hs ∧ hs.length = xss.length ∧ ∀ (i : Nat) (h : i < hs.length) (h' : i < xss.length), Sl K w hs[i].val xss[i]
section
variable {α : Type} {K : Cod α} {w w' : World} {v : Value} {xss : List (List α)}
theorem Sl2.below (h : Sl2 K w v xss) (hb : Below w.heap.size w w') : Sl2 K w' v xss := by
  obtain ⟨hs, h1, h2, h3⟩ := h
  exact ⟨hs, h1.below hb, h2, fun i a b => (h3 i a b).below hb⟩
theorem Sl2.opn (h : Sl2 K w v xss) : ∃ A c, v = .slice A xss.length c := by
  obtain ⟨hs, h1, h2, h3⟩ := h
  rw [← h2]
  exact h1.opn
theorem Sl2.at_ {A : Option Addr} {n c : Nat} (h : Sl2 K w (.slice A n c) xss) {k : Nat} (hk : k < xss.length) :
    ∃ b o Ai ni ci, A = some ⟨b, o, none⟩ ∧ b < w.heap.size ∧ w.cell? ⟨b, o + k, none⟩ = some (.slice Ai ni ci) ∧ Sl K w (.slice Ai ni ci) xss[k] := by
  obtain ⟨hs, h1, h2, h3⟩ := h
  have hk' : k < hs.length := by omega
  obtain ⟨b, o, hA, hb, hc⟩ := h1.cell hk'
  have := hc 0 hs[k].val rfl
  exact ⟨b, o, hs[k].a, hs[k].n, hs[k].c, hA, hb, by simpa [cH, Hd.val] using this, h3 k hk' hk⟩
/-- one slice, laid as a slice of slices -/
theorem Sl2.one {A : Option Addr} {n c : Nat} {xs : List α} (h : Sl K w (.slice A n c) xs) (e : TypeId) : Sl2 K (w.alloc (.cells #[.slice A n c] e)) (.slice (some ⟨w.heap.size, 0, none⟩) 1 1) [xs] := by
  refine ⟨[⟨A, n, c⟩], (Ow.lit (K := cH) (e := e) (B := w.heap.size) [⟨A, n, c⟩] rfl rfl (Nat.le_refl _)).sl, rfl, fun i a b => ?_⟩
  have : i = 0 := by simp at a; omega
  subst this
  exact h.alloc _
theorem Sl2.two {A B : Option Addr} {n c m d : Nat} {xs ys : List α} (h : Sl K w (.slice A n c) xs) (h' : Sl K w (.slice B m d) ys) (e : TypeId) :
    Sl2 K (w.alloc (.cells #[.slice A n c, .slice B m d] e)) (.slice (some ⟨w.heap.size, 0, none⟩) 2 2) [xs, ys] := by
  refine ⟨[⟨A, n, c⟩, ⟨B, m, d⟩], (Ow.lit (K := cH) (e := e) (B := w.heap.size) [⟨A, n, c⟩, ⟨B, m, d⟩] rfl rfl (Nat.le_refl _)).sl, rfl, fun i a b => ?_⟩
  rcases (show i = 0 ∨ i = 1 by simp at a; omega) with rfl | rfl
  · exact h.alloc _
  · exact h'.alloc _
end
/-- the mask of the variables of some formulas -/
def vmasks (xss : List (List Nd)) : Nat := xss.foldl (fun m xs => m ||| vmask xs) 0
theorem vmasks_snoc (xss : List (List Nd)) (xs : List Nd) : vmasks (xss ++ [xs]) = vmasks xss ||| vmask xs := by simp [vmasks]
theorem vmasks_lt (xss : List (List Nd)) (h : ∀ xs ∈ xss, isF xs = true) : vmasks xss < 64 := by
  have key : ∀ (xss : List (List Nd)) (m : Nat), (∀ xs ∈ xss, isF xs = true) → m < 2 ^ 6 → xss.foldl (fun m xs => m ||| vmask xs) m < 2 ^ 6 := by
    intro xss
    induction xss with
    | nil => intro m _ hm; simpa using hm
    | cons x t ih =>
      intro m h hm
      rw [List.foldl_cons]
      exact ih _ (fun y hy => h y (List.mem_cons_of_mem _ hy)) (Nat.or_lt_two_pow hm (vmask_lt x (isF_nodes (h x List.mem_cons_self))))
  unfold vmasks
  simpa using key xss 0 h (by decide)
theorem or_eq_zero (a b : Nat) : a ||| b = 0 ↔ a = 0 ∧ b = 0 := by
  constructor
  · intro h
    have key : ∀ i, (a.testBit i || b.testBit i) = false := fun i => by
      have := congrArg (fun n => n.testBit i) h
      simpa [Nat.testBit_or] using this
    constructor
    · apply Nat.eq_of_testBit_eq; intro i; have := key i; simp at this; simpa using this.1
    · apply Nat.eq_of_testBit_eq; intro i; have := key i; simp at this; simpa using this.2
  · rintro ⟨rfl, rfl⟩; rfl
theorem vmasks_zero (xss : List (List Nd)) : vmasks xss = 0 ↔ xss.all letterless = true := by
  have key : ∀ (xss : List (List Nd)) (m : Nat), xss.foldl (fun m xs => m ||| vmask xs) m = 0 ↔ m = 0 ∧ xss.all letterless = true := by
    intro xss
    induction xss with
    | nil => intro m; simp
    | cons x t ih =>
      intro m
      rw [List.foldl_cons, ih, or_eq_zero, List.all_cons, Bool.and_eq_true]
      simp only [letterless, decide_eq_true_eq]
      constructor
      · rintro ⟨⟨a, b⟩, c⟩; exact ⟨a, b, c⟩
      · rintro ⟨a, b, c⟩; exact ⟨⟨a, b⟩, c⟩
  unfold vmasks
  rw [key]
  simp
/-- the code of formulas that have to be letterless -/
def lcode (xss : List (List Nd)) : Int := if xss.all isF then (if xss.all letterless then 0 else 5) else 1
theorem slices_IndexFunc_nodes (v : Value) (xss : List (List Nd)) (k : FuncId) (cap : Array Value) (p : List Nd → Bool) (w : World) (h : Sl2 cN w v xss) (hl : xss.length ≤ 1073741824)
    (hk : ∀ (args : Array Value) (w : World), (callFunc k args).run Tryz.prog w = .ok (.enter k args) w)
    (hf : ∀ w', Below w.heap.size w w' → ∀ (u : Value) (xs : List Nd), xs ∈ xss → Sl cN w' u xs → Calls Tryz.prog k (#[u] ++ cap) w' fun e w'' => e = .returned (.bool (p xs)) ∧ Below w'.heap.size w' w'') :
    Calls Tryz.prog 77 #[v, .func (.func k) #[] cap] w fun e w' => ∃ r : Int, e = .returned (.int .i64 r) ∧ (decide (0 ≤ r) = xss.any p) ∧ Below w.heap.size w w' := by
  obtain ⟨A, c, rfl⟩ := h.opn
  have HF := Lib.hid hf; clear hf
  go_enter Tryz.func77, Tryz.ntmps77
  go_wp2
  go_loopw [8] (fun i wr => ∃ j : Nat, j ≤ xss.length ∧ i = .int .i64 j ∧ (xss.take j).any p = false ∧ Below w.heap.size w wr) (fun i _ => xss.length - (intOf i).toNat)
  case atStart => exact ⟨0, Nat.zero_le _, rfl, rfl, Below.refl _ _⟩
  case round =>
    obtain ⟨j, hj, rfl, hh, hb⟩ := hrel
    have Hh := Lib.hid hh; clear hh
    by_cases hlt : j < xss.length
    · obtain ⟨b, o, Ai, ni, ci, rfl, hbl, hc0, hs⟩ := (h.below hb).at_ hlt
      have HS := Lib.hid hs; clear hs
      go_wp2_with fail
      refine (HF.out wr hb _ _ (List.getElem_mem hlt) HS.out).mono ?_
      rintro e w1 ⟨rfl, hb1⟩
      have HB : Hid (Below w.heap.size w w1) := Lib.hid (hb.trans (hb1.mono hb.size))
      have HT : Hid ((xss.take (j + 1)).any p = p xss[j]) := by
        show _ = _
        rw [List.take_succ_eq_append_getElem hlt, List.any_append, Hh.out]
        simp
      have HM : xss[j] ∈ xss := List.getElem_mem hlt
      have HA : Hid (p xss[j] = true → xss.any p = true) := fun h1 => List.any_eq_true.2 ⟨_, HM, h1⟩
      clear hb1 hb HM
      by_cases hp : p xss[j] = true
      · rw [hp]
        have HP := Lib.hid hp; clear hp
        go_wp2
        go_ret
        exact ⟨j, rfl, by rw [HA.out HP.out]; simp, HB.out⟩
      · rw [Bool.not_eq_true] at hp
        rw [hp]
        have HP := Lib.hid hp; clear hp
        go_wp2
        go_roundw
        case rel => exact ⟨j + 1, by omega, by go_num, by rw [HT.out, HP.out], HB.out⟩
        case measure => simp [intOf]; omega
    · have HE : Hid (xss.any p = false) := by
        have := Hh.out
        rw [List.take_of_length_le (by omega)] at this
        exact this
      have HB := Lib.hid hb; clear hb
      go_wp2
      go_ret
      exact ⟨-1, rfl, by rw [HE.out]; decide, HB.out⟩
theorem impl_areFormulas_1 (v : Value) (xs : List Nd) (w : World) (h : Sl cN w v xs) (hl : xs.length ≤ 1048576) :
    Calls Tryz.prog 62 #[v] w fun e w' => e = .returned (.bool (!isF xs)) ∧ Below w.heap.size w w' := by
  go_enter Tryz.func62, Tryz.ntmps62
  go_wp2_with fail
  refine (impl_isFormula v xs _ h (by omega)).mono ?_
  rintro e w1 ⟨rfl, hb⟩
  have HB := Lib.hid hb; clear hb
  go_wp2
  go_ret
  exact ⟨rfl, HB.out⟩
theorem en_areFormulas_1 : ∀ (args : Array Value) (w : World), (callFunc 62 args).run Tryz.prog w = .ok (.enter 62 args) w := enters Tryz.func62 (by kernel_rfl) (by kernel_rfl)
theorem impl_areFormulas (v : Value) (xss : List (List Nd)) (w : World) (h : Sl2 cN w v xss) (hl : xss.length ≤ 1073741824) (hls : ∀ xs ∈ xss, xs.length ≤ 1048576) :
    Calls Tryz.prog 41 #[v] w fun e w' => e = .returned (.bool (xss.all isF)) ∧ Below w.heap.size w w' := by
  have hi := slices_IndexFunc_nodes v xss 62 #[] (fun xs => !isF xs) w h hl en_areFormulas_1 (fun w' _ u xs hx hs => by rw [Array.append_empty]; exact impl_areFormulas_1 u xs w' hs (hls xs hx))
  have HI := Lib.hid hi; clear hi
  have HE : Hid (xss.all isF = !xss.any fun xs => !isF xs) := by
    show _ = _
    rw [Bool.eq_iff_iff]
    simp
  clear h hls
  have hc : Calls Tryz.prog 61 #[v, .func (.func 62) #[] #[]] w fun e w' => e = .returned (.bool (xss.any fun xs => !isF xs)) ∧ Below w.heap.size w w' := by
    go_enter Tryz.func61, Tryz.ntmps61
    go_wp2_with fail
    refine HI.out.mono ?_
    rintro e w1 ⟨r, rfl, hr, hb⟩
    have HR := Lib.hid hr; clear hr
    have HB := Lib.hid hb; clear hb
    go_wp2
    go_ret
    exact ⟨by rw [← HR.out]; rfl, HB.out⟩
  have HC := Lib.hid hc; clear hc HI
  go_enter Tryz.func41, Tryz.ntmps41
  go_wp2_with fail
  refine HC.out.mono ?_
  rintro e w1 ⟨rfl, hb⟩
  have HB := Lib.hid hb; clear hb
  go_wp2
  go_ret
  exact ⟨by rw [HE.out]; rfl, HB.out⟩
/- Contracts of chapter 32: the code of letterless formulas, of the reference. -/
/- Contracts of IsTrueAtRank, IsLetterlessTheorem and AreLetterlessEqual, of the program and of the reference. -/
theorem vmask_zero (xs : List Nd) : vmask xs = 0 → ∀ n ∈ xs, n.1 ≠ 0 := by
  have key : ∀ (xs : List Nd) (m : Nat), xs.foldl (fun m n => if n.1 = 0 then m ||| 2 ^ n.2.toNat else m) m = 0 → m = 0 ∧ ∀ n ∈ xs, n.1 ≠ 0 := by
    intro xs
    induction xs with
    | nil => intro m h; exact ⟨h, fun n hn => by cases hn⟩
    | cons x t ih =>
      intro m h
      rw [List.foldl_cons] at h
      obtain ⟨h1, h2⟩ := ih _ h
      by_cases hx : x.1 = 0
      · rw [if_pos hx, or_eq_zero] at h1
        have := Nat.pow_pos (n := x.2.toNat) (show 0 < 2 by decide)
        omega
      · rw [if_neg hx] at h1
        refine ⟨h1, fun n hn => ?_⟩
        rcases List.mem_cons.1 hn with rfl | hn
        · exact hx
        · exact h2 n hn
  intro h
  exact (key xs 0 h).2
theorem novar_of (f : Fm) (h : ∀ n ∈ enc f, n.1 ≠ 0) : f.novar = true := by
  induction f with
  | var s => exact absurd rfl (h (0, (s : Int)) (by simp [enc]))
  | fls => rfl
  | bin k a b iha ihb =>
    simp only [Fm.novar, Bool.and_eq_true]
    exact ⟨iha fun n hn => h n (by simp [enc, hn]), ihb fun n hn => h n (by simp [enc, hn])⟩
  | un k a ih => exact ih fun n hn => h n (by simp [enc, hn])
theorem letterless_fm {xs : List Nd} (h : isF xs = true) (h2 : letterless xs = true) : ∃ f : Fm, xs = enc f ∧ f.novar = true ∧ (enc f).length ≤ 40 := by
  obtain ⟨f, _, rfl, hl⟩ := (isF_iff xs).1 h
  exact ⟨f, rfl, novar_of f (vmask_zero _ (by simpa [letterless] using h2)), hl⟩
theorem lcode_one {xs : List Nd} (h : lcode [xs] = 0) : ∃ f : Fm, xs = enc f ∧ f.novar = true ∧ (enc f).length ≤ 40 := by
  simp only [lcode, List.all_cons, List.all_nil, Bool.and_true] at h
  by_cases h1 : isF xs = true
  · by_cases h2 : letterless xs = true
    · exact letterless_fm h1 h2
    · rw [if_pos h1, if_neg h2] at h; exact absurd h (by decide)
  · rw [if_neg h1] at h; exact absurd h (by decide)
end Go.Proofs.YtcikenffeekkeaaGreatDoor
