/- Joined of two texts: slices.Compare, CompactFunc and SortFunc at lists of numbers; sortedLists. -/
import Derived.Test.YtgdmfihnbbgcoaaGreatDoor14J
import Derived.Shelf.SlSortCmp.Whole1
namespace Go.Proofs.YtgdmfihnbbgcoaaGreatDoor
open Go.RowKit
set_option linter.unusedVariables false
set_option linter.unusedSimpArgs false
/-- a list of lists of numbers, whose headers are the call's own -/
def OwR (t : TypeId) (B : Nat) (w : World) (v : Value) (xss : List (List Int)) : Prop :=
  ∃ hs : List Hd, Ow cH t B w v hs ∧ hs.length = xss.length ∧ ∀ i (a : i < hs.length) (b : i < xss.length), Sl cI w hs[i].val xss[i] ∧ ∀ k, hs[i].val.ownBlock = some k → k < w.heap.size ∧ v.ownBlock ≠ some k
theorem OwR.below {t : TypeId} {B : Nat} {w w' : World} {v : Value} {xss : List (List Int)} (h : OwR t B w v xss) (hb : Below w.heap.size w w') : OwR t B w' v xss := by
  obtain ⟨hs, h1, h2, h3⟩ := h
  exact ⟨hs, h1.below hb, h2, fun i a b => ⟨(h3 i a b).1.below hb, fun k hk => ⟨Nat.lt_of_lt_of_le ((h3 i a b).2 k hk).1 hb.size, ((h3 i a b).2 k hk).2⟩⟩⟩
theorem OwR.sl2 {t : TypeId} {B : Nat} {w : World} {v : Value} {xss : List (List Int)} (h : OwR t B w v xss) : Sl2 cI w v xss := by
  obtain ⟨hs, h1, h2, h3⟩ := h
  exact ⟨hs, h1.sl, h2, fun i a b => (h3 i a b).1⟩
theorem OwR.nil {t : TypeId} {B : Nat} {w : World} : OwR t B w (.slice none 0 0) [] := ⟨[], Ow.nil _ _, rfl, fun i a => (by simp at a)⟩
theorem OwR.push {t : TypeId} {B : Nat} {w : World} {v : Value} {xss : List (List Int)} (h : OwR t B w v xss) {A : Option Addr} {n c : Nat} {row : List Int} (hu : Sl cI w (.slice A n c) row) (hk : ∀ k, (Value.slice A n c).ownBlock = some k → k < w.heap.size ∧ v.ownBlock ≠ some k) :
    ∃ hs : List Hd, Ow cH t B w v hs ∧ hs.length = xss.length ∧ ∀ w' v' W, w.grownBy W none → W.heap.size = w.heap.size + 1 → Ow cH t B w' v' (hs ++ [⟨A, n, c⟩]) → W.grownBy w' v.ownBlock →
      (v'.ownBlock = v.ownBlock ∨ v'.ownBlock = some (w.heap.size + 1)) → OwR t B w' v' (xss ++ [row]) := by
  obtain ⟨hs, h1, h2, h3⟩ := h
  refine ⟨hs, h1, h2, fun w' v' W hw hWz ho hg hat => ?_⟩
  have hsz : w.heap.size < w'.heap.size := by have := hg.size; omega
  have key : ∀ (u : Value) (ys : List Int), Sl cI w u ys → (∀ k, u.ownBlock = some k → k < w.heap.size ∧ v.ownBlock ≠ some k) →
      Sl cI w' u ys ∧ ∀ k, u.ownBlock = some k → k < w'.heap.size ∧ v'.ownBlock ≠ some k := by
    intro u ys hu hk
    refine ⟨(hu.grown hw ?_).grown hg ?_, fun k e => ⟨by have := (hk k e).1; omega, fun e3 => ?_⟩⟩
    · cases hq : u.ownBlock with
      | none => exact .inl rfl
      | some k => exact .inr (by simp)
    · cases hq : u.ownBlock with
      | none => exact .inl rfl
      | some k => exact .inr fun e => (hk k hq).2 e.symm
    · rcases hat with e2 | e2
      · exact (hk k e).2 (e2 ▸ e3)
      · rw [e2] at e3; injection e3 with e3; have := (hk k e).1; omega
  refine ⟨_, ho, by simp [h2], fun i a b => ?_⟩
  by_cases hi : i < hs.length
  · rw [List.getElem_append_left hi, List.getElem_append_left (by omega)]
    exact key _ _ (h3 i hi (by omega)).1 (h3 i hi (by omega)).2
  · have e : i = hs.length := by simp at a; omega
    subst e
    have e2 : (xss ++ [row])[hs.length] = row := by
      rw [List.getElem_append_right (by omega)]; simp [h2]
    have e3 : (hs ++ [(⟨A, n, c⟩ : Hd)])[hs.length] = ⟨A, n, c⟩ := by simp
    rw [e2, e3]
    exact key (.slice A n c) _ hu hk
/-- the order of two lists of numbers -/
def cml : List Nat → List Nat → Int
  | [], [] => 0
  | [], _ :: _ => -1
  | _ :: _, [] => 1
  | x :: a, y :: b => if x < y then -1 else if y < x then 1 else cml a b
theorem cml_refl : ∀ a, cml a a = 0
  | [] => rfl
  | x :: a => by rw [cml, if_neg (by omega), if_neg (by omega), cml_refl a]
theorem cml_lt : ∀ {a b : List Nat}, ltl a b → cml a b = -1 ∧ cml b a = 1
  | x :: a, y :: b, h => by
    rcases h with h | ⟨rfl, h⟩
    · exact ⟨by rw [cml, if_pos h], by rw [cml, if_neg (by omega), if_pos h]⟩
    · exact ⟨by rw [cml, if_neg (by omega), if_neg (by omega), (cml_lt h).1], by rw [cml, if_neg (by omega), if_neg (by omega), (cml_lt h).2]⟩
theorem cml_drop (a b : List Nat) (j : Nat) (ha : j < a.length) (hb : j < b.length) : cml (a.drop j) (b.drop j) = if a.getD j 0 < b.getD j 0 then -1 else if b.getD j 0 < a.getD j 0 then 1 else cml (a.drop (j + 1)) (b.drop (j + 1)) := by
  rw [List.drop_eq_getElem_cons ha, List.drop_eq_getElem_cons hb, cml]
  simp [List.getD_eq_getElem?_getD, ha, hb]
theorem cmp_isNaN_int64 (x : Int) (w : World) : Calls Tryz.prog 167 #[.int .i64 x] w fun e w' => e = .returned (.bool false) ∧ w = w' := by
  go_enter Tryz.func167, Tryz.ntmps167
  go_wp2
  go_ret
  exact ⟨by simp, rfl⟩
theorem cmp_Compare_int64 (x y : Nat) (w : World) :
    Calls Tryz.prog 149 #[.int .i64 x, .int .i64 y] w fun e w' => e = .returned (.int .i64 (if x < y then -1 else if y < x then 1 else 0)) ∧ w = w' := by
  have HN := Lib.hid (fun (z : Int) (W : World) => cmp_isNaN_int64 z W)
  obtain ⟨r, hr⟩ : ∃ r, (if x < y then (-1 : Int) else if y < x then 1 else 0) = r := ⟨_, rfl⟩
  rw [hr]
  have HR := Lib.hid hr
  clear hr
  have hc : (x < y ∧ ¬ y < x) ∨ (¬ x < y ∧ y < x) ∨ (¬ x < y ∧ ¬ y < x) := by omega
  rcases hc with ⟨h1, h2⟩ | ⟨h1, h2⟩ | ⟨h1, h2⟩
  all_goals
    have h3 := HR.out
    first | rw [if_pos h1] at h3 | (rw [if_neg h1] at h3; first | rw [if_pos h2] at h3 | rw [if_neg h2] at h3)
    subst h3
    clear HR
    have h1' : decide ((x : Int) < (y : Int)) = decide (x < y) := by simp
    have h2' : decide ((y : Int) < (x : Int)) = decide (y < x) := by simp
    first | rw [decide_eq_true h1] at h1' | rw [decide_eq_false h1] at h1'
    first | rw [decide_eq_true h2] at h2' | rw [decide_eq_false h2] at h2'
    go_enter Tryz.func149, Tryz.ntmps149
    go_wp2_with fail
    refine (HN.out _ _).mono ?_
    rintro e w2 ⟨rfl, rfl⟩
    go_wp2_with fail
    refine (HN.out _ _).mono ?_
    rintro e w2 ⟨rfl, rfl⟩
    go_wp2
    go_ret
    exact ⟨rfl, rfl⟩
set_option maxRecDepth 100000 in
theorem slices_Compare_int64 (xs ys : List Nat) (v u : Value) (w : World) (hx : Sl cI w v (li xs)) (hy : Sl cI w u (li ys)) (hl : xs.length ≤ 1000) (hl2 : ys.length ≤ 1000) :
    Calls Tryz.prog 115 #[v, u] w fun e w' => e = .returned (.int .i64 (cml xs ys)) ∧ w = w' := by
  obtain ⟨A, c, rfl⟩ := hx.opn
  obtain ⟨B, d, rfl⟩ := hy.opn
  rw [li_length] at hx ⊢
  rw [li_length] at hy ⊢
  have HX := Lib.hid hx
  have HY := Lib.hid hy
  have H0 : Hid (cml xs ys = cml (xs.drop 0) (ys.drop 0)) := Lib.hid rfl
  have HD := Lib.hid (cml_drop xs ys)
  have HA : Hid (∀ j, xs.length ≤ j → j < ys.length → cml (xs.drop j) (ys.drop j) = -1) := Lib.hid fun j h1 h2 => by
    rw [List.drop_eq_nil_of_le h1, List.drop_eq_getElem_cons h2]; rfl
  have HC : Hid (∀ j, xs.length ≤ j → ys.length ≤ j → cml (xs.drop j) (ys.drop j) = 0) := Lib.hid fun j h1 h2 => by
    rw [List.drop_eq_nil_of_le h1, List.drop_eq_nil_of_le h2]; rfl
  have HE : Hid (∀ j, j < xs.length → ys.length ≤ j → cml (xs.drop j) (ys.drop j) = 1) := Lib.hid fun j h1 h2 => by
    rw [List.drop_eq_nil_of_le h2, List.drop_eq_getElem_cons h1]; rfl
  clear hx hy
  generalize cml xs ys = res at *
  go_enter Tryz.func115, Tryz.ntmps115
  go_wp2
  go_loop [5, 6, 7, 8, 11] (fun _ _ _ _ i => ∃ j : Nat, j ≤ xs.length ∧ i = .int .i64 j ∧ res = cml (xs.drop j) (ys.drop j)) (fun _ _ _ _ i => xs.length - (intOf i).toNat)
  case atStart => exact ⟨0, Nat.zero_le _, rfl, H0.out⟩
  case round =>
    obtain ⟨j, hj, rfl, hr⟩ := hrel
    have HR := Lib.hid hr
    clear hr H0
    by_cases hlt : j < xs.length
    · have hx := HX.out
      obtain ⟨b1, o1, e1, hb1, hc1⟩ := li_at4 hx hlt
      subst e1
      by_cases hlt2 : j < ys.length
      · have hy := HY.out
        obtain ⟨b2, o2, e2, hb2, hc2⟩ := li_at4 hy hlt2
        subst e2
        have HDj := Lib.hid (HD.out j hlt hlt2)
        rw [show xs[j] = xs.getD j 0 by simp [List.getD_eq_getElem?_getD, hlt]] at hc1
        rw [show ys[j] = ys.getD j 0 by simp [List.getD_eq_getElem?_getD, hlt2]] at hc2
        generalize xs.getD j 0 = a at *
        generalize ys.getD j 0 = b at *
        have HCm := Lib.hid (cmp_Compare_int64 a b w)
        have hn : decide ((ys.length : Int) ≤ (j : Int)) = false := decide_eq_false (by omega)
        clear hx hy
        rcases Nat.lt_trichotomy a b with h | h | h
        · have HF : Hid (res = -1) := Lib.hid (by rw [HR.out, HDj.out, if_pos h])
          rw [if_pos h] at HCm
          go_wp2_with fail
          refine HCm.out.mono ?_
          rintro e w2 ⟨rfl, rfl⟩
          go_wp2
          go_ret
          exact ⟨by rw [HF.out]; rfl, rfl⟩
        · subst h
          have HF : Hid (res = cml (xs.drop (j + 1)) (ys.drop (j + 1))) := Lib.hid (by rw [HR.out, HDj.out, if_neg (by omega), if_neg (by omega)])
          rw [if_neg (by omega), if_neg (by omega)] at HCm
          go_wp2_with fail
          refine HCm.out.mono ?_
          rintro e w2 ⟨rfl, rfl⟩
          go_wp2
          go_round
          case rel => exact ⟨j + 1, by omega, by go_num, HF.out⟩
          case measure => simp [intOf]; omega
        · have HF : Hid (res = 1) := Lib.hid (by rw [HR.out, HDj.out, if_neg (by omega), if_pos h])
          rw [if_neg (by omega), if_pos h] at HCm
          go_wp2_with fail
          refine HCm.out.mono ?_
          rintro e w2 ⟨rfl, rfl⟩
          go_wp2
          go_ret
          exact ⟨by rw [HF.out]; rfl, rfl⟩
      · have HF : Hid (res = 1) := Lib.hid (by rw [HR.out, HE.out j hlt (by omega)])
        have hn : decide ((ys.length : Int) ≤ (j : Int)) = true := decide_eq_true (by omega)
        clear hx
        go_wp2
        go_ret
        exact ⟨by rw [HF.out]; rfl, rfl⟩
    · obtain rfl : j = xs.length := by omega
      by_cases hlt2 : xs.length < ys.length
      · have HF : Hid (res = -1) := Lib.hid (by rw [HR.out, HA.out _ (Nat.le_refl _) hlt2])
        go_wp2
        go_ret
        exact ⟨by rw [HF.out]; rfl, rfl⟩
      · have HF : Hid (res = 0) := Lib.hid (by rw [HR.out, HC.out _ (Nat.le_refl _) (by omega)])
        go_wp2
        go_ret
        exact ⟨by rw [HF.out]; rfl, rfl⟩
set_option maxRecDepth 100000 in
theorem slices_CompactFunc_asc (xss : List (List Int)) (m : Nat) (hm : m ≤ 1000) (hn : xss.length ≤ 1000) (hlen : ∀ i (hi : i < xss.length), xss[i].length = m) (hne : ∀ i (hi : i + 1 < xss.length), xss[i + 1] ≠ xss[i]) (v : Value) (w : World) (h : Sl2 cI w v xss) :
    Calls Tryz.prog 116 #[v, .func (.func 117) #[] #[]] w fun e w' => e = .returned v ∧ Below w.heap.size w w' := by
  obtain ⟨A, c, rfl⟩ := h.opn
  have HS := Lib.hid h
  have HL := Lib.hid hlen
  have HNe := Lib.hid hne
  clear h hlen hne
  by_cases h2 : xss.length < 2
  · have h2' : (xss.length : Int) < 2 := by omega
    go_enter Tryz.func116, Tryz.ntmps116
    go_wp2
    go_ret
    exact ⟨rfl, Below.refl _ _⟩
  · have h2' : ¬ (xss.length : Int) < 2 := by omega
    go_enter Tryz.func116, Tryz.ntmps116
    go_wp2
    go_loopw [5] (fun i wr => ∃ j : Nat, 1 ≤ j ∧ j ≤ xss.length ∧ i = .int .i64 j ∧ Below w.heap.size w wr) (fun i _ => xss.length - (intOf i).toNat)
    case atStart => exact ⟨1, Nat.le_refl _, by omega, rfl, Below.refl _ _⟩
    case round =>
      obtain ⟨j, hj1, hj, rfl, hb⟩ := hrel
      have HB := Lib.hid hb
      by_cases hlt : j < xss.length
      · have hs := HS.out.below hb
        obtain ⟨p, hp⟩ : ∃ p, p + 1 = j := ⟨j - 1, by omega⟩
        obtain ⟨b, o, A1, n1, c1, e1, hbl, hc1, hs1⟩ := hs.at_ hlt
        obtain ⟨b', o', A2, n2, c2, e2, hbl', hc2, hs2⟩ := hs.at_ (k := p) (by omega)
        subst e1
        injection e2 with e2
        injection e2 with e3 e4
        subst e3
        subst e4
        have hN := HNe.out p (by omega)
        have HEq := Lib.hid (fun W (hW : Below wr.heap.size wr W) => slices_Equal_int64 (.slice A1 n1 c1) (.slice A2 n2 c2) xss[j] xss[p] W (hs1.below hW) (hs2.below hW) (by rw [HL.out]; omega) (by rw [HL.out, HL.out]))
        have hdec : decide (xss[j] = xss[p]) = false := decide_eq_false (by subst hp; exact hN)
        rw [hdec] at HEq
        have hjp : ((j : Nat) : Int) - 1 = ((p : Nat) : Int) := by omega
        have hp2 : p < xss.length := by omega
        have hpw : IntKind.i64.wrap ((p : Nat) : Int) = ((p : Nat) : Int) := IntWalk.i64_in _ ⟨by omega, by omega⟩
        have hpx : ((p : Nat) : Int) < ((xss.length : Nat) : Int) := by omega
        clear hs hs1 hs2 hN hdec hb
        go_upto_region 10 with fail
        refine wp_region_sched (Below wr.heap.size wr) 11 [0, 1, 2, 3, 4, 5, 6, 7, 8, 9] (List.range 11) (by kernel_rfl) (by kernel_rfl) (Below.refl _ _).drew ?_
        simp only [show List.range 11 = [0, 1, 2, 3, 4, 5, 6, 7, 8, 9, 10] from rfl]
        repeat
          apply wpSched_q rfl rfl
          case h =>
            intro w' hI K hK
            have hc1' := (hI.cell (p := ⟨b, o + j, none⟩) hbl).trans hc1
            have hc2' := (hI.cell (p := ⟨b, o + p, none⟩) hbl).trans hc2
            simp only [quietV, stillV]
            go_simp
            exact hK
          go_simp
        refine wpSched_r rfl rfl ?_ (Below.refl _ _).drew
        intro K hK hI
        go_simp
        refine (HEq.out _ hI).mono ?_
        rintro e w2 ⟨rfl, hb2⟩
        have hI2 := hI.trans (hb2.mono hI.size)
        refine hK _ _ hI2 ?_
        clear hK K
        have HB2 := Lib.hid (bthen HB.out hI2)
        clear hI hI2 hb2 hc1 hc2
        refine wpSched_nil ?_
        try simp only [List.drop_succ_cons, List.drop_zero, List.drop_nil]
        go_wp2
        go_roundw
        case rel => exact ⟨j + 1, by omega, by omega, by go_num, HB2.out⟩
        case measure => simp [intOf]; omega
      · obtain rfl : j = xss.length := by omega
        clear hb
        go_wp2
        go_ret
        exact ⟨rfl, HB.out⟩
theorem Sl.keepAt {α : Type} {K : Cod α} {w w' : World} {v : Value} {xs : List α} (h : Sl K w v xs) (hs : w.heap.size ≤ w'.heap.size) (hk : ∀ p : Addr, p.block < w.heap.size → v.ownBlock = some p.block → w'.cell? p = w.cell? p) : Sl K w' v xs := by
  obtain ⟨A, c, rfl, hc, hm, hr⟩ := h
  refine ⟨A, c, rfl, hc, hm, ?_⟩
  rcases hr with hr | ⟨b, o, rfl, hb, hcell⟩
  · exact .inl hr
  · exact .inr ⟨b, o, rfl, by omega, fun k x hx => (hk ⟨b, o + k, none⟩ hb rfl).trans (hcell k x hx)⟩
theorem below_grow_ahead (w : World) (n : Nat) (os : Array Obj) : Below w.heap.size w (Go.Sort.grow (Go.Sort.ahead w n) os) :=
  ⟨rfl, rfl, rfl, by simp [Go.Sort.grow, Go.Sort.ahead], fun k hk => by simp [Go.Sort.grow, Go.Sort.ahead, Array.getElem?_append_left hk]⟩
theorem cml_asc {xss : List (List Nat)} (h : xss.Pairwise ltl) {i j : Nat} (hi : i < xss.length) (hj : j < xss.length) : (cml xss[i] xss[j] < 0) ↔ i < j := by
  rw [List.pairwise_iff_getElem] at h
  rcases Nat.lt_trichotomy i j with h1 | h1 | h1
  · rw [(cml_lt (h i j hi hj h1)).1]; simp [h1]
  · subst h1; rw [cml_refl]; simp
  · rw [(cml_lt (h j i hj hi h1)).2]; simp; omega
/- The shelf's laying, written out by the shelf's own program. -/
def Tryz.lSrt_ren : Go.Shelf.Ren := ⟨fun | 6 => 114 | 15 => 148 | 14 => 147 | 28 => 165 | 29 => 166 | 20 => 157 | 21 => 158 | 22 => 159 | 23 => 160 | 24 => 161 | 25 => 162 | 26 => 163 | 27 => 164 | 46 => 172 | 47 => 173 | 48 => 174 | 49 => 175 | 50 => 176 | 57 => 179 | n => n, fun | 22 => 113 | 24 => 22 | 25 => 129 | 3 => 3 | 39 => 142 | 0 => 0 | 53 => 160 | 55 => 98 | 4 => 4 | 46 => 153 | 45 => 152 | 50 => 157 | 5 => 5 | 9 => 9 | 66 => 166 | 70 => 170 | 76 => 172 | 77 => 173 | n => n, fun | n => n⟩
theorem Tryz.lSrt : Go.Proofs.SlLaysF.n6 Tryz.prog Tryz.lSrt_ren := {
  mixed := by kernel_rfl
  f6 := ⟨Tryz.f114.name, by decide, Tryz.func114.trans (congrArg some (by kernel_rfl))⟩
  f14 := ⟨Tryz.f147.name, by decide, Tryz.func147.trans (congrArg some (by kernel_rfl))⟩
  f15 := Tryz.func148.trans (congrArg some (by kernel_rfl))
  f20 := ⟨Tryz.f157.name, by decide, Tryz.func157.trans (congrArg some (by kernel_rfl))⟩
  f21 := ⟨Tryz.f158.name, by decide, Tryz.func158.trans (congrArg some (by kernel_rfl))⟩
  f22 := ⟨Tryz.f159.name, by decide, Tryz.func159.trans (congrArg some (by kernel_rfl))⟩
  f23 := ⟨Tryz.f160.name, by decide, Tryz.func160.trans (congrArg some (by kernel_rfl))⟩
  f24 := ⟨Tryz.f161.name, by decide, Tryz.func161.trans (congrArg some (by kernel_rfl))⟩
  f25 := ⟨Tryz.f162.name, by decide, Tryz.func162.trans (congrArg some (by kernel_rfl))⟩
  f26 := ⟨Tryz.f163.name, by decide, Tryz.func163.trans (congrArg some (by kernel_rfl))⟩
  f27 := ⟨Tryz.f164.name, by decide, Tryz.func164.trans (congrArg some (by kernel_rfl))⟩
  f28 := Tryz.func165.trans (congrArg some (by kernel_rfl))
  f29 := Tryz.func166.trans (congrArg some (by kernel_rfl))
  f46 := ⟨Tryz.f172.name, by decide, Tryz.func172.trans (congrArg some (by kernel_rfl))⟩
  f47 := Tryz.func173.trans (congrArg some (by kernel_rfl))
  f48 := Tryz.func174.trans (congrArg some (by kernel_rfl))
  f49 := ⟨Tryz.f175.name, by decide, Tryz.func175.trans (congrArg some (by kernel_rfl))⟩
  f50 := ⟨Tryz.f176.name, by decide, Tryz.func176.trans (congrArg some (by kernel_rfl))⟩
  f57 := ⟨Tryz.f179.name, by decide, Tryz.func179.trans (congrArg some (by kernel_rfl))⟩
  t0 := Tryz.underlying0
  a0 := Tryz.isAgg0
  z0 := Tryz.sizeOf0
  v0 := Tryz.zeroValue0
  t3 := Tryz.underlying3
  a3 := Tryz.isAgg3
  z3 := Tryz.sizeOf3
  v3 := Tryz.zeroValue3
  t4 := Tryz.underlying4
  a4 := Tryz.isAgg4
  z4 := Tryz.sizeOf4
  v4 := Tryz.zeroValue4
  t5 := Tryz.underlying5
  a5 := Tryz.isAgg5
  z5 := Tryz.sizeOf5
  v5 := Tryz.zeroValue5
  t9 := Tryz.underlying9
  a9 := Tryz.isAgg9
  z9 := Tryz.sizeOf9
  v9 := Tryz.zeroValue9
  t22 := Tryz.underlying113
  a22 := Tryz.isAgg113
  z22 := Tryz.sizeOf113
  v22 := Tryz.zeroValue113
  a24 := Tryz.isAgg22
  z24 := Tryz.sizeOf22
  t25 := Tryz.underlying129
  a25 := Tryz.isAgg129
  z25 := Tryz.sizeOf129
  v25 := Tryz.zeroValue129
  t39 := Tryz.underlying142
  a39 := Tryz.isAgg142
  z39 := Tryz.sizeOf142
  v39 := Tryz.zeroValue142
  t45 := Tryz.underlying152
  a45 := Tryz.isAgg152
  z45 := Tryz.sizeOf152
  v45 := Tryz.zeroValue152
  t46 := Tryz.underlying153
  a46 := Tryz.isAgg153
  z46 := Tryz.sizeOf153
  v46 := Tryz.zeroValue153
  t50 := Tryz.underlying157
  a50 := Tryz.isAgg157
  z50 := Tryz.sizeOf157
  v50 := Tryz.zeroValue157
  t53 := Tryz.underlying160
  a53 := Tryz.isAgg160
  z53 := Tryz.sizeOf160
  v53 := Tryz.zeroValue160
  t55 := Tryz.underlying98
  a55 := Tryz.isAgg98
  z55 := Tryz.sizeOf98
  v55 := Tryz.zeroValue98
  t66 := Tryz.underlying166
  a66 := Tryz.isAgg166
  z66 := Tryz.sizeOf166
  v66 := Tryz.zeroValue166
  t70 := Tryz.underlying170
  a70 := Tryz.isAgg170
  z70 := Tryz.sizeOf170
  v70 := Tryz.zeroValue170
  t76 := Tryz.underlying172
  a76 := Tryz.isAgg172
  z76 := Tryz.sizeOf172
  v76 := Tryz.zeroValue172
  t77 := Tryz.underlying173
  a77 := Tryz.isAgg173
  z77 := Tryz.sizeOf173
  v77 := Tryz.zeroValue173 }
set_option maxRecDepth 100000 in
set_option maxHeartbeats 1000000 in
theorem slices_SortFunc_asc (xss : List (List Nat)) (hasc : xss.Pairwise ltl) (hn : 0 < xss.length) (hn2 : xss.length ≤ 1000) (hlen : ∀ i (hi : i < xss.length), xss[i].length ≤ 1000) (t : TypeId) (B : Nat) (v : Value) (w : World) (h : OwR t B w v (xss.map li)) :
    Calls Tryz.prog 114 #[v, .func (.func 115) #[] #[]] w fun e w' => e = .returned (.tuple #[]) ∧ Below w.heap.size w w' := by
  obtain ⟨hs, h1, h2, h3⟩ := h
  rw [List.length_map] at h2
  obtain ⟨g, c, rfl, hgB, hgz, hfz, hcell⟩ := h1.form (by omega)
  have hN : ∀ i : Fin xss.length, i.val < hs.length := fun i => by rw [h2]; exact i.isLt
  let enc : Fin xss.length → Value := fun i => (hs[i.val]'(hN i)).val
  let cf : Fin xss.length → Fin xss.length → Int := fun i j => cml (xss[i.val]'i.isLt) (xss[j.val]'j.isLt)
  haveI : Inhabited (Fin xss.length) := ⟨⟨0, hn⟩⟩
  have hcf : ∀ i j, ltOf cf i j = decide (i.val < j.val) := fun i j => by
    unfold ltOf
    exact decide_eq_decide.2 (cml_asc hasc i.isLt j.isLt)
  have hO : Go.Sort.SWO (ltOf cf) := ⟨fun x => by rw [hcf]; simp, fun x y z a b => by rw [hcf] at *; simp at *; omega, fun x y z a b => by rw [hcf] at *; simp at *; omega⟩
  let d : Array (Fin xss.length) := Array.ofFn (fun i => i)
  have hd : d.size = xss.length := Array.size_ofFn
  have hdj : ∀ j (hj : j < xss.length), d[j]! = ⟨j, hj⟩ := fun j hj => by
    rw [getElem!_pos d j (by rw [hd]; exact hj)]
    exact Array.getElem_ofFn _
  have hH : Go.Sort.Holds enc w g 0 d := fun j hj => by
    rw [hd] at hj
    rw [hdj j hj, Nat.zero_add]
    refine ⟨?_, hfz j⟩
    rw [hcell j (by rw [h2]; show j < xss.length * 1; omega)]
    have := flat_get (K := cH) hs j (by omega) 0 (by decide)
    simpa [cH] using this
  have hcmp : CmpLays1 Tryz.prog 115 #[] enc cf g 0 d.size w := fun m os dk hsz x y => by
    have key : ∀ i : Fin xss.length, Sl cI (sortWorld enc w g 0 m dk os) (enc i) (li xss[i.val]) := fun i => by
      obtain ⟨q1, q2⟩ := h3 i.val (hN i) (by simp)
      rw [List.getElem_map] at q1
      refine q1.keepAt (by simp [sortWorld, Go.Sort.grow, Go.Sort.ahead]) fun p hp hpb => ?_
      have hne : p.block ≠ g := fun e => (q2 _ hpb).2 (by rw [e]; rfl)
      unfold sortWorld
      rw [Go.Sort.cell?_grow _ _ _ (by simpa [Go.Sort.ahead] using hp), Go.Sort.cell?_putRow_other _ _ _ _ _ _ (.inl hne)]
      rfl
    exact (slices_Compare_int64 _ _ _ _ _ (key x) (key y) (hlen _ x.isLt) (hlen _ y.isLt)).mono fun e w' ⟨he, hw⟩ => ⟨he, 0, #[], by rw [← hw, Go.Sort.grow_empty]; rfl⟩
  have hS := Any.slices_SortFunc Tryz.lSrt enc (fun x => rfl) cf hO 115 #[] g 0 c d w (fun args w => rfl) hcmp hH hgz (by rw [hd]; omega)
  rw [hd] at hS
  rw [h2]
  refine hS.mono fun e w' ⟨he, d', n, os, hp, hso, hw⟩ => ⟨he, ?_⟩
  have hanti : ∀ x y, ltOf cf x y = false → ltOf cf y x = false → x = y := fun x y a b => by
    rw [hcf] at a b
    simp at a b
    exact Fin.ext (by omega)
  have e1 := Go.Sort.sorted_unique_holds hO hanti d d' (by rw [hd]; exact hp) (by rw [hd]; exact hso)
  have e2 := Go.Sort.sorted_unique_holds hO hanti d d (Go.Sort.permIn_refl d 0 d.size) (fun i j h0 hij hj => by
    rw [hd] at hj
    rw [hdj i (by omega), hdj j hj, hcf]
    simp; omega)
  have e3 : d' = d := Array.toList_inj.1 (e1.trans e2.symm)
  rw [hw, e3]
  unfold sortWorld
  rw [Go.Sort.putRow_self enc (Go.Sort.ahead w n) g 0 d hH]
  exact below_grow_ahead w n os
set_option maxRecDepth 100000 in
set_option maxHeartbeats 1000000 in
theorem impl_sortedLists (xss : List (List Nat)) (m : Nat) (hm : m ≤ 1000) (hasc : xss.Pairwise ltl) (hn : 0 < xss.length) (hn2 : xss.length ≤ 1000) (hlen : ∀ c ∈ xss, c.length = m) (t : TypeId) (B : Nat) (v : Value) (w : World) (h : OwR t B w v (xss.map li)) :
    Calls Tryz.prog 89 #[v] w fun e w' => e = .returned v ∧ Below w.heap.size w w' := by
  obtain ⟨A, c, rfl⟩ := h.sl2.opn
  have HS := Lib.hid (slices_SortFunc_asc xss hasc hn hn2 (fun i hi => by rw [hlen _ (List.getElem_mem hi)]; exact hm) t B _ w h)
  have HC := Lib.hid (fun W (hW : Below w.heap.size w W) => slices_CompactFunc_asc (xss.map li) m hm (by rw [List.length_map]; exact hn2) (fun i hi => by
    rw [List.getElem_map, li_length]
    exact hlen _ (List.getElem_mem _)) (fun i hi e => by
    rw [List.length_map] at hi
    rw [List.getElem_map, List.getElem_map] at e
    have h5 := (List.pairwise_iff_getElem.1 hasc) i (i + 1) (by omega) hi (by omega)
    have e6 : xss[i + 1] = xss[i] := by
      have := congrArg (List.map Int.toNat) e
      simpa [li, Function.comp_def] using this
    have h7 := (cml_lt h5).1
    rw [e6, cml_refl] at h7
    exact absurd h7 (by decide)) _ W (h.below hW).sl2)
  clear h
  generalize (xss.map li).length = n at *
  go_enter Tryz.func89, Tryz.ntmps89
  go_wp2_with fail
  refine HS.out.mono ?_
  rintro e w1 ⟨rfl, hb⟩
  have HB1 := Lib.hid hb
  clear hb
  go_wp2_with fail
  refine (HC.out _ HB1.out).mono ?_
  rintro e w2 ⟨rfl, hb⟩
  have HB2 := Lib.hid (bthen HB1.out hb)
  clear hb
  go_wp2
  go_ret
  exact ⟨rfl, HB2.out⟩
end Go.Proofs.YtgdmfihnbbgcoaaGreatDoor
