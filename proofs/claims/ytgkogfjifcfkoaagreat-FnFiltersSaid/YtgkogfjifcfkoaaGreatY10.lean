/- Heyting algebras: plain words (tables, orders), and contracts of the reference: l18Table, l18Size, l18Leq, l18Order, l18Low, images and inverses of up to thirty elements. -/
import Derived.Test.YtgkogfjifcfkoaaGreatY09
import Derived.Test.YtgkogfjifcfkoaaGreatY07
namespace Go.Proofs.YtgkogfjifcfkoaaGreat
open Go.RowKit
set_option linter.unusedVariables false
set_option linter.unusedSimpArgs false
/-- a relation of at most thirty elements -/
def RelM (ns : List Nat) : Prop := ns.length ≤ 30 ∧ ∀ x ∈ ns, x < 2 ^ ns.length
theorem two_pow_30 {k : Nat} (h : k ≤ 30) : 2 ^ k ≤ 1073741824 := Nat.pow_le_pow_right (n := 2) (by decide) h
theorem RelM.lt {ns : List Nat} (h : RelM ns) (i : Nat) : ns.getD i 0 < 1073741824 := Nat.lt_of_lt_of_le (getD_lt h.2 i) (two_pow_30 h.1)
def rowOk (n : Int) (r : List Int) : Bool := decide ((r.length : Int) = n) && r.all fun x => inR x 0 (n - 1)
/-- a table of n elements -/
def tbH (n : Int) (T : List (List Int)) : Bool := decide ((T.length : Int) = n) && T.all (rowOk n)
/-- an entry of a table -/
def ent (A : List (List Nat)) (x y : Nat) : Nat := (A.getD x []).getD y 0
/-- the order of an algebra, by its meets -/
def ordH (A : List (List Nat)) : List Nat := (List.range A.length).map fun x => msk (fun y => decide (ent A x y = x)) A.length
theorem ordH_length (A : List (List Nat)) : (ordH A).length = A.length := by simp [ordH]
theorem ordH_getD (A : List (List Nat)) {x : Nat} (h : x < A.length) : (ordH A).getD x 0 = msk (fun y => decide (ent A x y = x)) A.length := by
  unfold ordH
  rw [List.getD_eq_getElem?_getD, List.getElem?_map, List.getElem?_range h]
  rfl
theorem ordH_take (A : List (List Nat)) {x : Nat} (h : x < A.length) : (ordH A).take (x + 1) = (ordH A).take x ++ [msk (fun y => decide (ent A x y = x)) A.length] := by
  rw [List.take_succ_eq_append_getElem (by rw [ordH_length]; exact h)]
  congr 2
  simp [ordH]
theorem ordH_rel {A : List (List Nat)} (h : A.length ≤ 30) : RelM (ordH A) := by
  refine ⟨by rw [ordH_length]; exact h, fun x hx => ?_⟩
  unfold ordH at hx
  obtain ⟨i, -, rfl⟩ := List.mem_map.1 hx
  rw [ordH_length]
  exact msk_lt _ _
/-- the least member of a mask in an order -/
def lw (ns : List Nat) (m : Nat) : Option Nat := (List.range ns.length).find? fun x => m.testBit x && decide (andnot m (ns.getD x 0) = 0)
/-- the tables are of the same n elements -/
structure TabN (n : Nat) (A : List (List Nat)) : Prop where
  l : A.length = n
  r : ∀ r ∈ A, r.length = n ∧ ∀ x ∈ r, x < n
theorem tbH_iff {n : Nat} {T : List (List Int)} (h : tbH n T = true) : ∃ A : List (List Nat), T = lil A ∧ TabN n A := by
  unfold tbH at h
  rw [Bool.and_eq_true, decide_eq_true_eq, List.all_eq_true] at h
  have row : ∀ r ∈ T, li (r.map Int.toNat) = r ∧ r.length = n ∧ ∀ x ∈ r, 0 ≤ x ∧ x.toNat < n := fun r hr => by
    have := h.2 r hr
    unfold rowOk at this
    rw [Bool.and_eq_true, decide_eq_true_eq, List.all_eq_true] at this
    have hx : ∀ x ∈ r, 0 ≤ x ∧ x.toNat < n := fun x hx => by have := inR_iff.1 (this.2 x hx); omega
    exact ⟨(li_of fun x hx' => (hx x hx').1).symm, by omega, hx⟩
  refine ⟨T.map fun r => r.map Int.toNat, ?_, by simp; omega, ?_⟩
  · unfold lil
    rw [List.map_map]
    conv => lhs; rw [← List.map_id T]
    exact List.map_congr_left fun r hr => (row r hr).1.symm
  · intro r hr
    obtain ⟨r', hr', rfl⟩ := List.mem_map.1 hr
    refine ⟨by rw [List.length_map]; exact (row r' hr').2.1, fun x hx => ?_⟩
    obtain ⟨y, hy, rfl⟩ := List.mem_map.1 hx
    exact ((row r' hr').2.2 y hy).2
theorem TabN.ent_lt {n : Nat} {A : List (List Nat)} (h : TabN n A) {x y : Nat} (hx : x < n) (hy : y < n) : ent A x y < n := by
  have hm : A.getD x [] ∈ A := by
    rw [List.getD_eq_getElem?_getD, List.getElem?_eq_getElem (by rw [h.l]; exact hx)]
    exact List.getElem_mem _
  obtain ⟨h1, h2⟩ := h.r _ hm
  exact h2 _ (getD_mem (by rw [h1]; exact hy))
set_option maxRecDepth 100000 in
theorem spec_l18Table (v : Value) (T : List (List Int)) (n : Int) (w : World) (h : Sl2 cI w v T) (hl : T.length ≤ 1048576) (hr : ∀ r ∈ T, r.length ≤ 1048576) (hn : 0 ≤ n ∧ n ≤ 1048576) :
    Calls Tryz.prog 111 #[v, .int .i64 n] w fun e w' => e = .returned (.bool (tbH n T)) ∧ w = w' := by
  obtain ⟨A0, c0, rfl⟩ := h.opn
  have HS := Lib.hid h
  have HR := Lib.hid (fun i (hi : i < T.length) => hr _ (List.getElem_mem hi))
  have HIn := Lib.hid (fun x W => spec_l01In x 0 (n - 1) W)
  by_cases hq : (T.length : Int) = n
  · have ET : Hid ((∀ i (hi : i < T.length), rowOk n T[i] = true) → tbH n T = true) := Lib.hid (fun hh => by
      unfold tbH
      rw [decide_eq_true hq, Bool.true_and, List.all_eq_true]
      intro r hr'
      obtain ⟨i, hi, rfl⟩ := List.mem_iff_getElem.1 hr'
      exact hh i hi)
    have EF : Hid (∀ i (hi : i < T.length), rowOk n T[i] = false → tbH n T = false) := Lib.hid (fun i hi hx => by
      unfold tbH
      rw [decide_eq_true hq, Bool.true_and, List.all_eq_false]
      exact ⟨_, List.getElem_mem hi, by rw [hx]; exact Bool.false_ne_true⟩)
    have q1 : ((T.length : Int) == n) = true := beq_iff_eq.2 hq
    have q2 : ((T.length : Int) != n) = false := by rw [bne, q1]; rfl
    have HQ2 := Lib.hid hq
    clear h hr hq
    go_enter Tryz.func111, Tryz.ntmps111
    go_wp2
    go_loop [5] (fun i => ∃ x : Nat, x ≤ T.length ∧ i = .int .i64 x ∧ ∀ i (hi : i < T.length), i < x → rowOk n T[i] = true) (fun i => T.length - (intOf i).toNat)
    case atStart => exact ⟨0, Nat.zero_le _, rfl, fun i _ hi => by omega⟩
    case round =>
      obtain ⟨x, hx, rfl, hh⟩ := hrel
      have HH := Lib.hid hh
      clear hh
      by_cases hlt : x < T.length
      · obtain ⟨b, o, Aj, nj, cj, rfl, hbl, hcj, hsj⟩ := HS.out.at_ (k := x) hlt
        have HFx := Lib.hid (EF.out x hlt)
        have hrl := HR.out x hlt
        have HNx : Hid (rowOk n T[x] = true → ∀ i (hi : i < T.length), i < x + 1 → rowOk n T[i] = true) := Lib.hid (fun hk i hi hix => by
          rcases Nat.lt_or_ge i x with h1 | h1
          · exact HH.out i hi h1
          · obtain rfl : i = x := by omega
            exact hk)
        obtain ⟨r, hre⟩ : ∃ r, T[x] = r := ⟨_, rfl⟩
        rw [hre] at hsj HFx hrl HNx
        clear hre
        have hnj : nj = r.length := by
          obtain ⟨A', c', hv⟩ := hsj.opn
          injection hv
        subst hnj
        have HSJ := Lib.hid hsj
        clear hsj
        by_cases hrn : (r.length : Int) = n
        · have r1 : ((r.length : Int) == n) = true := beq_iff_eq.2 hrn
          have r2 : ((r.length : Int) != n) = false := by rw [bne, r1]; rfl
          have RT : Hid ((∀ i (hi : i < r.length), inR r[i] 0 (n - 1) = true) → rowOk n r = true) := Lib.hid (fun hh => by
            unfold rowOk
            rw [decide_eq_true hrn, Bool.true_and, List.all_eq_true]
            intro z hz
            obtain ⟨i, hi, rfl⟩ := List.mem_iff_getElem.1 hz
            exact hh i hi)
          have RF : Hid (∀ i (hi : i < r.length), inR r[i] 0 (n - 1) = false → rowOk n r = false) := Lib.hid (fun i hi hx => by
            unfold rowOk
            rw [decide_eq_true hrn, Bool.true_and, List.all_eq_false]
            exact ⟨_, List.getElem_mem hi, by rw [hx]; exact Bool.false_ne_true⟩)
          clear hrn
          go_wp2
          go_loop [6] (fun i => ∃ y : Nat, y ≤ r.length ∧ i = .int .i64 y ∧ ∀ i (hi : i < r.length), i < y → inR r[i] 0 (n - 1) = true) (fun i => r.length - (intOf i).toNat)
          case atStart => exact ⟨0, Nat.zero_le _, rfl, fun i _ hi => by omega⟩
          case round =>
            obtain ⟨y, hy, rfl, hh2⟩ := hrel
            have HH2 := Lib.hid hh2
            clear hh2
            by_cases hlt2 : y < r.length
            · obtain ⟨d, q, rfl, hdl, hdj⟩ := HSJ.out.atI (k := y) hlt2
              have HFy := Lib.hid (RF.out y hlt2)
              have HNy : Hid (inR r[y] 0 (n - 1) = true → ∀ i (hi : i < r.length), i < y + 1 → inR r[i] 0 (n - 1) = true) := Lib.hid (fun hk i hi hix => by
                rcases Nat.lt_or_ge i y with h1 | h1
                · exact HH2.out i hi h1
                · obtain rfl : i = y := by omega
                  exact hk)
              have HIx := Lib.hid (HIn.out r[y])
              obtain ⟨z, hz⟩ : ∃ z, r[y] = z := ⟨_, rfl⟩
              rw [hz] at hdj HFy HNy HIx
              clear hz
              go_wp2_with fail
              refine (HIx.out _).mono ?_
              rintro e _ ⟨rfl, rfl⟩
              cases hb : inR z 0 (n - 1)
              · have E1 := Lib.hid (HFx.out (HFy.out hb))
                clear hb
                go_wp2
                go_ret
                exact ⟨by rw [E1.out]; rfl, rfl⟩
              · have E1 := Lib.hid (HNy.out hb)
                clear hb
                go_wp2
                exact ⟨⟨y + 1, by omega, by go_num, E1.out⟩, by simp [intOf]; omega⟩
            · obtain rfl : y = r.length := by omega
              have E1 := Lib.hid (HNx.out (RT.out fun i hi => HH2.out i hi hi))
              go_wp2
              exact ⟨⟨x + 1, by omega, by go_num, E1.out⟩, by simp [intOf]; omega⟩
        · have r1 : ((r.length : Int) == n) = false := beq_eq_false_iff_ne.2 hrn
          have r2 : ((r.length : Int) != n) = true := bne_iff_ne.2 hrn
          have E1 := Lib.hid (HFx.out (by unfold rowOk; rw [decide_eq_false hrn]; rfl))
          clear hrn
          go_wp2
          go_ret
          exact ⟨by rw [E1.out]; rfl, rfl⟩
      · obtain rfl : x = T.length := by omega
        have E1 := Lib.hid (ET.out fun i hi => HH.out i hi hi)
        go_wp2
        go_ret
        exact ⟨by rw [E1.out]; rfl, rfl⟩
  · have E1 : Hid (tbH n T = false) := Lib.hid (by unfold tbH; rw [decide_eq_false hq]; rfl)
    have q1 : ((T.length : Int) == n) = false := beq_eq_false_iff_ne.2 hq
    have q2 : ((T.length : Int) != n) = true := bne_iff_ne.2 hq
    clear h hr hq
    go_enter Tryz.func111, Tryz.ntmps111
    go_wp2
    go_ret
    exact ⟨by rw [E1.out]; rfl, rfl⟩
theorem spec_l01ImageM (v : Value) (ns : List Nat) (m : Nat) (w : World) (h : Sl cI w v (li ns)) (hr : RelM ns) (hm : m < 1073741824) :
    Calls Tryz.prog 142 #[v, .int .i64 m] w fun e w' => e = .returned (.int .i64 (img ns m : Nat)) ∧ w = w' := by
  obtain ⟨A, c, rfl⟩ := h.opn
  have hlen := li_length ns
  have h8 := hr.1
  have HX := Lib.hid (fun i => hr.lt i)
  have HI := Lib.hid (fun i => Nat.lt_of_lt_of_le (imgTo_lt hr.2 m i) (two_pow_30 h8))
  have HL := Lib.hid hlen
  rw [hlen] at h ⊢
  clear hr hlen
  go_enter Tryz.func142, Tryz.ntmps142
  go_wp2
  go_loop [5, 6] (fun t i => ∃ j : Nat, j ≤ ns.length ∧ i = .int .i64 j ∧ t = .int .i64 (imgTo ns m j : Nat)) (fun _ i => ns.length - (intOf i).toNat)
  case atStart => exact ⟨0, Nat.zero_le _, rfl, rfl⟩
  case round =>
    obtain ⟨j, hj, rfl, rfl⟩ := hrel
    by_cases hlt : j < ns.length
    · have hlt' : j < (li ns).length := by rw [HL.out]; exact hlt
      obtain ⟨b, o, rfl, hbl, hc0⟩ := h.atI hlt'
      rw [li_get] at hc0
      have hx := HX.out j
      have hy := HI.out j
      have HS : Hid (imgTo ns m (j + 1) = imgTo ns m j ||| if m.testBit j then ns.getD j 0 else 0) := Lib.hid rfl
      generalize imgTo ns m j = y at *
      generalize ns.getD j 0 = x at *
      have e2 := i64_or_nat y x (by omega) (by omega)
      go_wp2_with fail
      refine (spec_l01Bit m j _ (by omega) (by omega)).mono ?_
      rintro e w1 ⟨rfl, rfl⟩
      cases ht : m.testBit j
      · rw [if_neg (by rw [ht]; decide), Nat.or_zero] at HS
        clear ht
        go_wp2
        exact ⟨⟨j + 1, by omega, by go_num, by rw [HS.out]⟩, by simp [intOf]; omega⟩
      · rw [if_pos ht] at HS
        clear ht
        go_wp2
        exact ⟨⟨j + 1, by omega, by go_num, by rw [HS.out]⟩, by simp [intOf]; omega⟩
    · obtain rfl : j = ns.length := by omega
      go_wp2
      go_ret
      exact ⟨rfl, rfl⟩
/-- a box of an algebra -/
def hc (a o i : Value) (b t : Int) : Array Value := #[a, o, i, .int .i64 b, .int .i64 t]
theorem spec_l18Size (a o i : Value) (b t : Int) (A : List (List Int)) (w : World) (h : Sl2 cI w a A) :
    Calls Tryz.prog 72 #[.agg #[a, o, i, .int .i64 b, .int .i64 t]] w fun e w' => e = .returned (.int .i64 A.length) ∧ Below w.heap.size w w' := by
  obtain ⟨A0, c0, rfl⟩ := h.opn
  have HB := Lib.hid (below_alloc' w (.cells #[.slice A0 A.length c0, o, i, .int .i64 b, .int .i64 t] 26))
  clear h
  go_enter Tryz.func72, Tryz.ntmps72
  go_wp2
  go_ret
  exact ⟨rfl, HB.out⟩
end Go.Proofs.YtgkogfjifcfkoaaGreat
