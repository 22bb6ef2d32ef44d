/- Contracts of chapter 32: the code of letterless formulas. -/
import Derived.Test.Ytbejakkcdbhmaaa32i
namespace Go.Proofs.Ytbejakkcdbhmaaa
open Go.RowKit
set_option linter.unusedVariables false
set_option linter.unusedSimpArgs false
/-- a slice of slices reads as a list of lists -/
def Sl2 {α : Type} (K : Cod α) (w : World) (v : Value) (xss : List (List α)) : Prop :=
  ∃ hs : List Hd, Sl cH w v hs ∧ hs.length = xss.length ∧ ∀ (i : Nat) (h : i < hs.length) (h' : i < xss.length), Sl K w hs[i].val xss[i]
section
variable {α : Type} {K : Cod α} {w w' : World} {v : Value} {xss : List (List α)}
theorem Sl2.below (h : Sl2 K w v xss) (hb : Below w.heap.size w w') : Sl2 K w' v xss := by
  obtain ⟨hs, h1, h2, h3⟩ := h
  exact ⟨hs, h1.below hb, h2, fun i a b => (h3 i a b).below hb⟩
theorem Sl2.opn (h : Sl2 K w v xss) : ∃ A c, v = .slice A xss.length c := by
  obtain ⟨hs, h1, h2, h3⟩ := h
  rw [← h2]
  exact h1.opn
theorem Sl2.at_ {A : Option Addr} {n c : Nat} (h : Sl2 K w (.slice A n c) xss) {k : Nat} (hk : k < xss.length) :
    ∃ b o Ai ni ci, A = some ⟨b, o, none⟩ ∧ b < w.heap.size ∧ w.cell? ⟨b, o + k, none⟩ = some (.slice Ai ni ci) ∧ Sl K w (.slice Ai ni ci) xss[k] := by
  obtain ⟨hs, h1, h2, h3⟩ := h
  have hk' : k < hs.length := by omega
  obtain ⟨b, o, hA, hb, hc⟩ := h1.cell hk'
  have := hc 0 hs[k].val rfl
  exact ⟨b, o, hs[k].a, hs[k].n, hs[k].c, hA, hb, by simpa [cH, Hd.val] using this, h3 k hk' hk⟩
/-- one slice, laid as a slice of slices -/
theorem Sl2.one {A : Option Addr} {n c : Nat} {xs : List α} (h : Sl K w (.slice A n c) xs) (e : TypeId) : Sl2 K (w.alloc (.cells #[.slice A n c] e)) (.slice (some ⟨w.heap.size, 0, none⟩) 1 1) [xs] := by
  refine ⟨[⟨A, n, c⟩], (Ow.lit (K := cH) (e := e) (B := w.heap.size) [⟨A, n, c⟩] rfl rfl (Nat.le_refl _)).sl, rfl, fun i a b => ?_⟩
  have : i = 0 := by simp at a; omega
  subst this
  exact h.alloc _
theorem Sl2.two {A B : Option Addr} {n c m d : Nat} {xs ys : List α} (h : Sl K w (.slice A n c) xs) (h' : Sl K w (.slice B m d) ys) (e : TypeId) :
    Sl2 K (w.alloc (.cells #[.slice A n c, .slice B m d] e)) (.slice (some ⟨w.heap.size, 0, none⟩) 2 2) [xs, ys] := by
  refine ⟨[⟨A, n, c⟩, ⟨B, m, d⟩], (Ow.lit (K := cH) (e := e) (B := w.heap.size) [⟨A, n, c⟩, ⟨B, m, d⟩] rfl rfl (Nat.le_refl _)).sl, rfl, fun i a b => ?_⟩
  rcases (show i = 0 ∨ i = 1 by simp at a; omega) with rfl | rfl
  · exact h.alloc _
  · exact h'.alloc _
end
/-- the mask of the variables of some formulas -/
def vmasks (xss : List (List Nd)) : Nat := xss.foldl (fun m xs => m ||| vmask xs) 0
theorem vmasks_snoc (xss : List (List Nd)) (xs : List Nd) : vmasks (xss ++ [xs]) = vmasks xss ||| vmask xs := by simp [vmasks]
theorem vmasks_lt (xss : List (List Nd)) (h : ∀ xs ∈ xss, isF xs = true) : vmasks xss < 64 := by
  have key : ∀ (xss : List (List Nd)) (m : Nat), (∀ xs ∈ xss, isF xs = true) → m < 2 ^ 6 → xss.foldl (fun m xs => m ||| vmask xs) m < 2 ^ 6 := by
    intro xss
    induction xss with
    | nil => intro m _ hm; simpa using hm
    | cons x t ih =>
      intro m h hm
      rw [List.foldl_cons]
      exact ih _ (fun y hy => h y (List.mem_cons_of_mem _ hy)) (Nat.or_lt_two_pow hm (vmask_lt x (isF_nodes (h x List.mem_cons_self))))
  unfold vmasks
  simpa using key xss 0 h (by decide)
theorem or_eq_zero (a b : Nat) : a ||| b = 0 ↔ a = 0 ∧ b = 0 := by
  constructor
  · intro h
    have key : ∀ i, (a.testBit i || b.testBit i) = false := fun i => by
      have := congrArg (fun n => n.testBit i) h
      simpa [Nat.testBit_or] using this
    constructor
    · apply Nat.eq_of_testBit_eq; intro i; have := key i; simp at this; simpa using this.1
    · apply Nat.eq_of_testBit_eq; intro i; have := key i; simp at this; simpa using this.2
  · rintro ⟨rfl, rfl⟩; rfl
theorem vmasks_zero (xss : List (List Nd)) : vmasks xss = 0 ↔ xss.all letterless = true := by
  have key : ∀ (xss : List (List Nd)) (m : Nat), xss.foldl (fun m xs => m ||| vmask xs) m = 0 ↔ m = 0 ∧ xss.all letterless = true := by
    intro xss
    induction xss with
    | nil => intro m; simp
    | cons x t ih =>
      intro m
      rw [List.foldl_cons, ih, or_eq_zero, List.all_cons, Bool.and_eq_true]
      simp only [letterless, decide_eq_true_eq]
      constructor
      · rintro ⟨⟨a, b⟩, c⟩; exact ⟨a, b, c⟩
      · rintro ⟨a, b, c⟩; exact ⟨⟨a, b⟩, c⟩
  unfold vmasks
  rw [key]
  simp
/-- the code of formulas that have to be letterless -/
def lcode (xss : List (List Nd)) : Int := if xss.all isF then (if xss.all letterless then 0 else 5) else 1
theorem slices_IndexFunc_nodes (v : Value) (xss : List (List Nd)) (k : FuncId) (cap : Array Value) (p : List Nd → Bool) (w : World) (h : Sl2 cN w v xss) (hl : xss.length ≤ 1073741824)
    (hk : ∀ (args : Array Value) (w : World), (callFunc k args).run Try.prog w = .ok (.enter k args) w)
    (hf : ∀ w', Below w.heap.size w w' → ∀ (u : Value) (xs : List Nd), xs ∈ xss → Sl cN w' u xs → Calls Try.prog k (#[u] ++ cap) w' fun e w'' => e = .returned (.bool (p xs)) ∧ Below w'.heap.size w' w'') :
    Calls Try.prog 176 #[v, .func (.func k) #[] cap] w fun e w' => ∃ r : Int, e = .returned (.int .i64 r) ∧ (decide (0 ≤ r) = xss.any p) ∧ Below w.heap.size w w' := by
  obtain ⟨A, c, rfl⟩ := h.opn
  have HF := Lib.hid hf; clear hf
  go_enter Try.func176, Try.ntmps176
  go_wp2
  go_loopw [8] (fun i wr => ∃ j : Nat, j ≤ xss.length ∧ i = .int .i64 j ∧ (xss.take j).any p = false ∧ Below w.heap.size w wr) (fun i _ => xss.length - (intOf i).toNat)
  case atStart => exact ⟨0, Nat.zero_le _, rfl, rfl, Below.refl _ _⟩
  case round =>
    obtain ⟨j, hj, rfl, hh, hb⟩ := hrel
    have Hh := Lib.hid hh; clear hh
    by_cases hlt : j < xss.length
    · obtain ⟨b, o, Ai, ni, ci, rfl, hbl, hc0, hs⟩ := (h.below hb).at_ hlt
      have HS := Lib.hid hs; clear hs
      go_wp2_with fail
      refine (HF.out wr hb _ _ (List.getElem_mem hlt) HS.out).mono ?_
      rintro e w1 ⟨rfl, hb1⟩
      have HB : Hid (Below w.heap.size w w1) := Lib.hid (hb.trans (hb1.mono hb.size))
      have HT : Hid ((xss.take (j + 1)).any p = p xss[j]) := by
        show _ = _
        rw [List.take_succ_eq_append_getElem hlt, List.any_append, Hh.out]
        simp
      have HM : xss[j] ∈ xss := List.getElem_mem hlt
      have HA : Hid (p xss[j] = true → xss.any p = true) := fun h1 => List.any_eq_true.2 ⟨_, HM, h1⟩
      clear hb1 hb HM
      by_cases hp : p xss[j] = true
      · rw [hp]
        have HP := Lib.hid hp; clear hp
        go_wp2
        go_ret
        exact ⟨j, rfl, by rw [HA.out HP.out]; simp, HB.out⟩
      · rw [Bool.not_eq_true] at hp
        rw [hp]
        have HP := Lib.hid hp; clear hp
        go_wp2
        go_roundw
        case rel => exact ⟨j + 1, by omega, by go_num, by rw [HT.out, HP.out], HB.out⟩
        case measure => simp [intOf]; omega
    · have HE : Hid (xss.any p = false) := by
        have := Hh.out
        rw [List.take_of_length_le (by omega)] at this
        exact this
      have HB := Lib.hid hb; clear hb
      go_wp2
      go_ret
      exact ⟨-1, rfl, by rw [HE.out]; decide, HB.out⟩
theorem impl_areFormulas_1 (v : Value) (xs : List Nd) (w : World) (h : Sl cN w v xs) (hl : xs.length ≤ 1048576) :
    Calls Try.prog 169 #[v] w fun e w' => e = .returned (.bool (!isF xs)) ∧ Below w.heap.size w w' := by
  go_enter Try.func169, Try.ntmps169
  go_wp2_with fail
  refine (impl_isFormula v xs _ h (by omega)).mono ?_
  rintro e w1 ⟨rfl, hb⟩
  have HB := Lib.hid hb; clear hb
  go_wp2
  go_ret
  exact ⟨rfl, HB.out⟩
theorem en_areFormulas_1 : ∀ (args : Array Value) (w : World), (callFunc 169 args).run Try.prog w = .ok (.enter 169 args) w := enters Try.func169 (by kernel_rfl) (by kernel_rfl)
theorem impl_areFormulas (v : Value) (xss : List (List Nd)) (w : World) (h : Sl2 cN w v xss) (hl : xss.length ≤ 1073741824) (hls : ∀ xs ∈ xss, xs.length ≤ 1048576) :
    Calls Try.prog 103 #[v] w fun e w' => e = .returned (.bool (xss.all isF)) ∧ Below w.heap.size w w' := by
  have hi := slices_IndexFunc_nodes v xss 169 #[] (fun xs => !isF xs) w h hl en_areFormulas_1 (fun w' _ u xs hx hs => by rw [Array.append_empty]; exact impl_areFormulas_1 u xs w' hs (hls xs hx))
  have HI := Lib.hid hi; clear hi
  have HE : Hid (xss.all isF = !xss.any fun xs => !isF xs) := by
    show _ = _
    rw [Bool.eq_iff_iff]
    simp
  clear h hls
  have hc : Calls Try.prog 168 #[v, .func (.func 169) #[] #[]] w fun e w' => e = .returned (.bool (xss.any fun xs => !isF xs)) ∧ Below w.heap.size w w' := by
    go_enter Try.func168, Try.ntmps168
    go_wp2_with fail
    refine HI.out.mono ?_
    rintro e w1 ⟨r, rfl, hr, hb⟩
    have HR := Lib.hid hr; clear hr
    have HB := Lib.hid hb; clear hb
    go_wp2
    go_ret
    exact ⟨by rw [← HR.out]; rfl, HB.out⟩
  have HC := Lib.hid hc; clear hc HI
  go_enter Try.func103, Try.ntmps103
  go_wp2_with fail
  refine HC.out.mono ?_
  rintro e w1 ⟨rfl, hb⟩
  have HB := Lib.hid hb; clear hb
  go_wp2
  go_ret
  exact ⟨by rw [HE.out]; rfl, HB.out⟩
theorem impl_variablesIn (v : Value) (xss : List (List Nd)) (w : World) (h : Sl2 cN w v xss) (hl : xss.length ≤ 1073741824) (hf : ∀ xs ∈ xss, isF xs = true) :
    Calls Try.prog 254 #[v] w fun e w' => ∃ u, e = .returned u ∧ Ow cI 2 w.heap.size w' u (mems (vmasks xss)) ∧ Below w.heap.size w w' := by
  obtain ⟨A, c, rfl⟩ := h.opn
  have HF := Lib.hid hf; clear hf
  go_enter Try.func254, Try.ntmps254
  go_wp2
  go_loopw [3, 8] (fun m i wr => ∃ j : Nat, j ≤ xss.length ∧ i = .int .i64 j ∧ m = .int .i64 (vmasks (xss.take j) : Nat) ∧ Below w.heap.size w wr) (fun _ i _ => xss.length - (intOf i).toNat)
  case atStart => exact ⟨0, Nat.zero_le _, rfl, rfl, Below.refl _ _⟩
  case round =>
    obtain ⟨j, hj, rfl, rfl, hb⟩ := hrel
    have hm : vmasks (xss.take j) < 64 := vmasks_lt _ fun n hn => HF.out n (List.mem_of_mem_take hn)
    by_cases hlt : j < xss.length
    · obtain ⟨b, o, Ai, ni, ci, rfl, hbl, hc0, hs⟩ := (h.below hb).at_ hlt
      have hF := HF.out _ (List.getElem_mem hlt)
      have HV : Hid (vmasks (xss.take (j + 1)) = vmasks (xss.take j) ||| vmask xss[j]) := by
        show _ = _
        rw [List.take_succ_eq_append_getElem hlt, vmasks_snoc]
      have hm2 := vmask_lt _ (isF_nodes hF)
      have e2 := i64_or_nat (vmasks (xss.take j)) (vmask xss[j]) (by omega) (by omega)
      have HS := Lib.hid hs; clear hs
      have H2 := Lib.hid hF; clear hF
      go_wp2_with fail
      refine (impl_variableMask _ _ _ HS.out (by have := isF_len H2.out; omega) (isF_nodes H2.out)).mono ?_
      rintro e w1 ⟨rfl, hb1⟩
      have HB : Hid (Below w.heap.size w w1) := Lib.hid (bthen hb hb1)
      clear hb1 hb
      go_wp2
      go_roundw
      case rel => exact ⟨j + 1, by omega, by go_num, by rw [HV.out], HB.out⟩
      case measure => simp [intOf]; omega
    · have ht : xss.take j = xss := List.take_of_length_le (by omega)
      rw [ht] at hm
      have HT := Lib.hid ht; clear ht
      go_wp2_with fail
      rw [HT.out]
      refine (impl_membersOf (vmasks xss) _ (by omega)).mono ?_
      rintro e w1 ⟨u, rfl, ho, hb1⟩
      have O := Lib.hid (ho.mono hb.size); clear ho
      have HB := Lib.hid (bthen hb hb1); clear hb hb1
      go_wp2
      go_ret
      exact ⟨_, rfl, O.out, HB.out⟩
theorem impl_letterlessCode (v : Value) (xss : List (List Nd)) (w : World) (h : Sl2 cN w v xss) (hl : xss.length ≤ 1073741824) (hls : ∀ xs ∈ xss, xs.length ≤ 1048576) :
    Calls Try.prog 198 #[v] w fun e w' => e = .returned (.int .i64 (lcode xss)) ∧ Below w.heap.size w w' := by
  have HF := Lib.hid (impl_areFormulas v xss w h hl hls)
  by_cases hf : xss.all isF = true
  · have hF : ∀ xs ∈ xss, isF xs = true := List.all_eq_true.1 hf
    have HV := Lib.hid (fun w' (hb : Below w.heap.size w w') => impl_variablesIn v xss w' (h.below hb) hl hF)
    have hlen : (mems (vmasks xss)).length ≤ 64 := memsTo_length _ _
    have hm := vmasks_lt xss hF
    have hz := vmasks_zero xss
    have hn := mems_nil (vmasks xss) (by omega)
    rw [hf] at HF
    have HF' := Lib.hid hf
    clear h hls hF hf
    by_cases ha : xss.all letterless = true
    · have e0 : Hid (lcode xss = 0) := by show _ = _; unfold lcode; rw [HF'.out, ha]; rfl
      have hlen0 : (mems (vmasks xss)).length = 0 := by rw [hn.2 (hz.2 ha)]; rfl
      clear hz hn ha hlen
      have HL := Lib.hid hlen0; clear hlen0
      go_enter Try.func198, Try.ntmps198
      go_wp2_with fail
      refine HF.out.mono ?_
      rintro e w1 ⟨rfl, hb⟩
      go_wp2_with fail
      refine (HV.out w1 hb).mono ?_
      rintro e w2 ⟨u, rfl, ho, hb2⟩
      obtain ⟨A, c, rfl⟩ := ho.opn
      rw [HL.out]
      have HB := Lib.hid (bthen hb hb2)
      clear ho hb hb2
      go_wp2
      go_ret
      exact ⟨by rw [e0.out]; rfl, HB.out⟩
    · have e0 : Hid (lcode xss = 5) := by show _ = _; unfold lcode; rw [HF'.out, if_neg ha]; rfl
      have hlen0 : 0 < (mems (vmasks xss)).length := by
        rcases Nat.eq_zero_or_pos (mems (vmasks xss)).length with h0 | h0
        · exact absurd (hz.1 (hn.1 (List.eq_nil_of_length_eq_zero h0))) ha
        · exact h0
      clear hz hn ha
      go_enter Try.func198, Try.ntmps198
      go_wp2_with fail
      refine HF.out.mono ?_
      rintro e w1 ⟨rfl, hb⟩
      go_wp2_with fail
      refine (HV.out w1 hb).mono ?_
      rintro e w2 ⟨u, rfl, ho, hb2⟩
      obtain ⟨A, c, rfl⟩ := ho.opn
      have HB := Lib.hid (bthen hb hb2)
      clear ho hb hb2
      go_wp2
      go_ret
      exact ⟨by rw [e0.out]; rfl, HB.out⟩
  · rw [Bool.not_eq_true] at hf
    have e0 : Hid (lcode xss = 1) := by show _ = _; unfold lcode; rw [hf]; rfl
    rw [hf] at HF
    clear h hls hf
    go_enter Try.func198, Try.ntmps198
    go_wp2_with fail
    refine HF.out.mono ?_
    rintro e w1 ⟨rfl, hb⟩
    have HB := Lib.hid hb
    clear hb
    go_wp2
    go_ret
    exact ⟨by rw [e0.out]; rfl, HB.out⟩
end Go.Proofs.Ytbejakkcdbhmaaa
