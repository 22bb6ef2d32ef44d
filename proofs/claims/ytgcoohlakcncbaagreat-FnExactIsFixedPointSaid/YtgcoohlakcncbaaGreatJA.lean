/- Joined of several texts: PT, M2U, 2V, 2X, 12A0. -/
import Derived.Test.YtgcoohlakcncbaaGreat06t
import Derived.Test.YtgcoohlakcncbaaGreatJJ
import Derived.Test.YtgcoohlakcncbaaGreat33ww
import Derived.Sort.Walk0
import Derived.Shelf.SlicesE.Compact
import Derived.Shelf.SortM.Plain
import Derived.Shelf.SortM.SortNone
import Derived.Sort.OwnSorted
import Derived.Lib.AppendZeros
namespace Go.Proofs.YtgcoohlakcncbaaGreat
open Go.RowKit
set_option linter.unusedVariables false
set_option linter.unusedSimpArgs false
/- Plain law: the parts of a formula. No program in sight. Written by gen12E.py out of texts of chapter 14. -/
/-- the part of a formula at an index -/
def pt (f : Fm) (i : Nat) : Fm := (dc f i).headD .fls
theorem pt_at (f : Fm) (i : Nat) (h : i < (enc f).length) : ∃ rest, dc f i = pt f i :: rest ∧ dc f (i + 1) = kids (pt f i) ++ rest := by
  obtain ⟨g, rest, h1, h2, -⟩ := dc_at f i h
  have e : pt f i = g := by unfold pt; rw [h1]; rfl
  exact ⟨rest, by rw [e]; exact h1, by rw [e]; exact h2⟩
theorem pt_drop (f : Fm) (i : Nat) (h : i < (enc f).length) : ∃ rest, (enc f).drop i = enc (pt f i) ++ rest := by
  obtain ⟨rest, h1, -⟩ := pt_at f i h
  exact ⟨rest.flatMap enc, by rw [dc_drop f i (by omega), h1, List.flatMap_cons]⟩
theorem pt_next (f : Fm) (i : Nat) (h : i < (enc f).length) {k : UK} {a : Fm} (e : pt f i = .un k a) : i + 1 < (enc f).length ∧ pt f (i + 1) = a := by
  obtain ⟨rest, h1, h2⟩ := pt_at f i h
  rw [e] at h2
  have h3 : dc f (i + 1) = a :: rest := h2
  refine ⟨?_, by unfold pt; rw [h3]; rfl⟩
  have h4 := dc_drop f (i + 1) (by omega)
  rw [h3, List.flatMap_cons] at h4
  have h5 := congrArg List.length h4
  rw [List.length_drop, List.length_append] at h5
  have := enc_pos a
  omega
/-- a part of a formula -/
def Part (f g : Fm) : Prop := ∃ i, i < (enc f).length ∧ pt f i = g
theorem dc_more {f g : Fm} {i : Nat} {rest : List Fm} (hi : i ≤ (enc f).length) (h : dc f i = g :: rest) : i + (enc g).length ≤ (enc f).length := by
  have h4 := dc_drop f i hi
  rw [h, List.flatMap_cons] at h4
  have h5 := congrArg List.length h4
  rw [List.length_drop, List.length_append] at h5
  omega
theorem dc_next {f g : Fm} {i : Nat} {rest : List Fm} (hi : i ≤ (enc f).length) (h : dc f i = g :: rest) : dc f (i + 1) = kids g ++ rest := by
  have h1 := dc_more hi h
  have h2 := enc_pos g
  obtain ⟨g', rest', e1, e2, -⟩ := dc_at f i (by omega)
  rw [h] at e1
  injection e1 with e1 e3
  rw [e2, ← e1, ← e3]
theorem dc_skip {f : Fm} : ∀ {g : Fm} {i : Nat} {rest : List Fm}, i ≤ (enc f).length → dc f i = g :: rest → dc f (i + (enc g).length) = rest := by
  intro g
  induction g with
  | var s => intro i rest hi h; exact dc_next hi h
  | fls => intro i rest hi h; exact dc_next hi h
  | un k a ih =>
    intro i rest hi h
    have h1 := dc_more hi h
    have h2 : dc f (i + 1) = a :: rest := dc_next hi h
    have e : (enc (.un k a)).length = 1 + (enc a).length := by simp [enc]; omega
    rw [e] at h1 ⊢
    rw [← Nat.add_assoc]
    exact ih (by omega) h2
  | bin k a b iha ihb =>
    intro i rest hi h
    have h1 := dc_more hi h
    have h2 : dc f (i + 1) = a :: b :: rest := dc_next hi h
    have e : (enc (.bin k a b)).length = 1 + (enc a).length + (enc b).length := by simp [enc]; omega
    rw [e] at h1 ⊢
    have h3 := iha (by omega) h2
    have := ihb (by omega) h3
    rw [show i + (1 + (enc a).length + (enc b).length) = i + 1 + (enc a).length + (enc b).length by omega]
    exact this
theorem Part.of {f g : Fm} {i : Nat} {rest : List Fm} (hi : i ≤ (enc f).length) (h : dc f i = g :: rest) : Part f g := by
  have h1 := dc_more hi h
  have h2 := enc_pos g
  exact ⟨i, by omega, by unfold pt; rw [h]; rfl⟩
theorem Part.at {f g : Fm} (h : Part f g) : ∃ i rest, i < (enc f).length ∧ dc f i = g :: rest := by
  obtain ⟨i, hi, e⟩ := h
  obtain ⟨rest, h1, -⟩ := pt_at f i hi
  exact ⟨i, rest, hi, by rw [← e]; exact h1⟩
theorem Part.un {f a : Fm} {k : UK} (h : Part f (.un k a)) : Part f a := by
  obtain ⟨i, rest, hi, h1⟩ := h.at
  have h2 : dc f (i + 1) = a :: rest := dc_next (by omega) h1
  exact Part.of (by omega) h2
theorem Part.bin {f a b : Fm} {k : BK} (h : Part f (.bin k a b)) : Part f a ∧ Part f b := by
  obtain ⟨i, rest, hi, h1⟩ := h.at
  have h2 : dc f (i + 1) = a :: b :: rest := dc_next (by omega) h1
  have h3 := dc_skip (by omega) h2
  have h4 := dc_more (by omega) h2
  exact ⟨Part.of (by omega) h2, Part.of (by omega) h3⟩
theorem Part.self (f : Fm) : Part f f := Part.of (Nat.zero_le _) rfl
theorem part_ok {f g : Fm} (hok : f.ok = true) (h : Part f g) : g.ok = true := by
  obtain ⟨i, rest, hi, e⟩ := h.at
  have key : ∀ (j : Nat), j ≤ (enc f).length → ∀ q ∈ dc f j, q.ok = true := by
    intro j
    induction j with
    | zero => intro _ q hq; rw [show dc f 0 = [f] from rfl, List.mem_singleton] at hq; rw [hq]; exact hok
    | succ j ih =>
      intro hj q hq
      obtain ⟨g', rest', e1, e2, -⟩ := dc_at f j (by omega)
      rw [e2, List.mem_append] at hq
      have hg := ih (by omega)
      rw [e1] at hg
      rcases hq with hq | hq
      · have hg' := hg g' (by simp)
        cases g' with
        | var s => cases hq
        | fls => cases hq
        | un k a => simp only [kids, List.mem_singleton] at hq; rw [hq]; simpa [Fm.ok] using hg'
        | bin k a b => simp only [kids, List.mem_cons, List.not_mem_nil, or_false] at hq; simp [Fm.ok] at hg'; rcases hq with rfl | rfl; exact hg'.1; exact hg'.2
      · exact hg q (List.mem_cons_of_mem _ hq)
  exact key i (by omega) g (by rw [e]; simp)
theorem Sl.atS {w : World} {A : Option Addr} {n c : Nat} {xs : List ByteArray} (h : Sl cS w (.slice A n c) xs) {k : Nat} (hk : k < xs.length) :
    ∃ b o, A = some ⟨b, o, none⟩ ∧ b < w.heap.size ∧ w.cell? ⟨b, o + k, none⟩ = some (.string xs[k]) := by
  obtain ⟨b, o, hA, hb, hc⟩ := h.cell hk
  have := hc 0 (.string xs[k]) rfl
  exact ⟨b, o, hA, hb, by simpa [cS] using this⟩
/- Plain law: the texts of all parts of a formula, each once, in ascending order. No program in sight. -/
/-- the texts of the first parts of a formula -/
def sbT8 (f : Fm) (n : Nat) : List T8 := (List.range n).map fun i => t8 (txt (pt f i))
theorem sbT8_succ (f : Fm) (n : Nat) : sbT8 f (n + 1) = sbT8 f n ++ [t8 (txt (pt f n))] := by
  unfold sbT8
  rw [List.range_succ, List.map_append]
  rfl
theorem sbT8_len (f : Fm) (n : Nat) : (sbT8 f n).length = n := by simp [sbT8]
/-- what SubformulasOf gives -/
def sbs8 (f : Fm) : List T8 := sbI8 (sbT8 f (enc f).length)
theorem sbI8_succ (f : Fm) (n : Nat) : sbI8 (sbT8 f (n + 1)) = ins8 (t8 (txt (pt f n))) (sbI8 (sbT8 f n)) := by
  unfold sbI8
  rw [sbT8_succ, List.foldl_append]
  rfl
theorem sbI8_len (f : Fm) (n : Nat) : (sbI8 (sbT8 f n)).length ≤ n := by
  have := (foldI (sbT8 f n) [] List.Pairwise.nil).2.2
  rw [sbT8_len] at this
  exact this
theorem sbs8_mem {f : Fm} {t : T8} (h : t ∈ sbs8 f) : ∃ g, Part f g ∧ t = t8 (txt g) := by
  have := ((foldI (sbT8 f (enc f).length) [] List.Pairwise.nil).2.1 t).1 h
  rcases this with h | h
  · unfold sbT8 at h
    obtain ⟨i, hi, rfl⟩ := List.mem_map.1 h
    exact ⟨_, ⟨i, List.mem_range.1 hi, rfl⟩, rfl⟩
  · cases h
/- The reference's SubformulasOf: texts inserted into an ascending list. -/
/-- texts as byte arrays -/
def bs (L : List T8) : List ByteArray := L.map fun l => (⟨⟨l⟩⟩ : ByteArray)
theorem bs_length (L : List T8) : (bs L).length = L.length := by simp [bs]
theorem bs_get (L : List T8) (k : Nat) (h : k < (bs L).length) : (bs L)[k] = ⟨⟨L[k]'(by rw [bs_length] at h; exact h)⟩⟩ := by simp [bs]
theorem bs_app (L M : List T8) : bs (L ++ M) = bs L ++ bs M := by simp [bs]
theorem t8_mk (b : ByteArray) : (⟨⟨t8 b⟩⟩ : ByteArray) = b := rfl
theorem ty_str : Ty Tryz.prog 38 9 (.string ⟨#[]⟩) 1 16 := Ty.mk' Tryz.underlying38 (by kernel_rfl) rfl (by decide)
set_option maxRecDepth 100000 in
theorem spec_l02Insert (v : Value) (L : List T8) (x : T8) (w : World) (h : Sl cS w v (bs L)) (hl : L.length ≤ 1000) :
    Calls Tryz.prog 293 #[v, .string ⟨⟨x⟩⟩] w fun e w' => ∃ u, e = .returned u ∧ Sl cS w' u (bs (ins8 x L)) ∧ Below w.heap.size w w' := by
  obtain ⟨A, c, rfl⟩ := h.opn
  rw [bs_length] at h ⊢
  have H := Lib.hid h
  obtain ⟨-, hcc, hcm⟩ := h.cap
  rw [bs_length] at hcc
  clear h
  have HL := Lib.hid hl
  go_enter Tryz.func293, Tryz.ntmps293
  go_wp2
  go_loopw [5] (fun i wr => ∃ k : Nat, i = .int .i64 (k : Int) ∧ k ≤ L.length ∧ (∀ i (h : i < L.length), i < k → L[i] < x) ∧ wr = w) (fun i _ => L.length - (intOf i).toNat)
  case atStart => exact ⟨0, rfl, Nat.zero_le _, fun i _ h => by omega, rfl⟩
  case round =>
    obtain ⟨k, rfl, hk, hlt, rfl⟩ := hrel
    have HLT := Lib.hid hlt
    clear hlt
    by_cases hkl : k < L.length
    · obtain ⟨b, o, rfl, hb, hc⟩ := H.out.atS (k := k) (by rw [bs_length]; exact hkl)
      rw [bs_get] at hc
      by_cases hx : L[k] < x
      · have hbl : Op.bytesLess L[k] x = true := by rw [bytesLess_eq]; exact decide_eq_true hx
        have HX := Lib.hid hx
        clear hx
        go_wp2
        exact ⟨⟨k + 1, by go_num, by omega, fun i h hi => by rcases Nat.lt_or_ge i k with h1 | h1; exact HLT.out i h h1; obtain rfl : i = k := (by omega); exact HX.out, trivial⟩, by simp [intOf]; omega⟩
      · have hbl : Op.bytesLess L[k] x = false := by rw [bytesLess_eq]; exact decide_eq_false hx
        have HX := Lib.hid hx
        clear hx
        by_cases he : L[k] = x
        · have hbe : (L[k] == x) = true := by simpa using he
          have E : Hid (ins8 x L = L) := Lib.hid (by rw [ins8_at x L k hk HLT.out (fun _ => HX.out), if_pos (by rw [List.getElem?_eq_getElem hkl, he])])
          clear he
          go_wp2
          go_ret
          exact ⟨_, rfl, by rw [E.out]; exact H.out, Below.refl _ _⟩
        · have hbe : (L[k] == x) = false := by simpa using he
          have E : Hid (bs (ins8 x L) = (bs L).take k ++ [⟨⟨x⟩⟩] ++ (bs L).drop k) := Lib.hid (by rw [ins8_at x L k hk HLT.out (fun _ => HX.out), if_neg (by rw [List.getElem?_eq_getElem hkl]; exact fun e => he (Option.some.inj e))]; simp [bs])
          clear he
          go_wp2_with (at_builtin; refine stopHere ?_)
          refine goHere ?_
          refine ap_sl (K := cS) _ ty_str rfl _ _ rfl rfl rfl (B := wr.heap.size) (xs := []) (news := (bs L).take k) (Ow.lit [] rfl rfl (Nat.le_refl _)) ((H.out.cut0 (j := k) (c' := c) (by rw [bs_length]; omega) (by omega) hcm).alloc _) (by have := HL.out; simp only [List.length_nil, List.length_take, bs_length]; omega) (by simp) ?_
          intro v1 w1 ho hg hb1 hat
          have hb2 : Below wr.heap.size wr w1 := ((Below.refl _ _).alloc (Nat.le_refl _) _).trans hb1
          rw [List.nil_append] at ho
          have elen : ((bs L).take k).length = k := by rw [List.length_take, bs_length]; omega
          obtain ⟨A1, c1, rfl⟩ := ho.opn
          rw [elen] at ho ⊢
          have O := Lib.hid ho
          have B1 := Lib.hid hb2
          have EL := Lib.hid elen
          clear ho hg hb1 hat hb2 elen
          go_wp2_with (at_builtin; refine stopHere ?_)
          refine goHere ?_
          refine ap_one (K := cS) w1 ty_str rfl _ _ rfl (B := wr.heap.size) (v := .slice A1 k c1) (xs := (bs L).take k) rfl O.out (⟨⟨x⟩⟩ : ByteArray) rfl rfl (by have := HL.out; have := EL.out; omega) B1.out.size ?_
          intro v2 w2 ho hg hb1 hat
          have hb2 : Below wr.heap.size wr w2 := B1.out.trans hb1
          have elen : ((bs L).take k ++ [(⟨⟨x⟩⟩ : ByteArray)]).length = k + 1 := by rw [List.length_append, EL.out]; rfl
          obtain ⟨A2, c2, rfl⟩ := ho.opn
          rw [elen] at ho ⊢
          replace O := Lib.hid ho
          replace B1 := Lib.hid hb2
          replace EL := Lib.hid elen
          clear ho hg hb1 hat hb2 elen
          go_wp2_with (at_builtin; refine stopHere ?_)
          refine goHere ?_
          have hr : Sl cS w2 (.slice (some ⟨b, o + k, none⟩) (L.length - k) (c - k)) (((bs L).drop k).take (L.length - k)) := (H.out.below B1.out).cutAt (i := k) (j := L.length) (c' := c - k) (by omega) (by rw [bs_length]; exact Nat.le_refl _) rfl (fun b1 o1 e => by injection e with e; injection e with e1 e2; subst e1; subst e2; rw [show cS.size = 1 from rfl, Nat.mul_one]) (by omega) (by omega)
          rw [show ((bs L).drop k).take (L.length - k) = (bs L).drop k from List.take_of_length_le (by rw [List.length_drop, bs_length]; exact Nat.le_refl _)] at hr
          refine ap_sl (K := cS) w2 ty_str rfl _ _ rfl rfl rfl (B := wr.heap.size) (v := .slice A2 (k + 1) c2) (xs := (bs L).take k ++ [(⟨⟨x⟩⟩ : ByteArray)]) (news := (bs L).drop k) O.out hr (by have := HL.out; have := EL.out; rw [List.length_drop, bs_length]; omega) B1.out.size ?_
          intro v3 w3 ho hg hb1 hat
          have hb2 : Below wr.heap.size wr w3 := B1.out.trans hb1
          rw [← E.out] at ho
          obtain ⟨A3, c3, rfl⟩ := ho.opn
          replace O := Lib.hid ho
          replace B1 := Lib.hid hb2
          clear ho hg hb1 hat hb2 hr EL
          go_wp2
          go_ret
          exact ⟨_, rfl, O.out.sl, B1.out⟩
    · obtain rfl : k = L.length := by omega
      have E : Hid (bs (ins8 x L) = (bs L).take L.length ++ [⟨⟨x⟩⟩] ++ (bs L).drop L.length) := Lib.hid (by rw [ins8_at x L L.length hk HLT.out (fun h => absurd h (Nat.lt_irrefl _)), if_neg (by rw [List.getElem?_eq_none (Nat.le_refl _)]; simp), List.take_of_length_le (show (bs L).length ≤ L.length by rw [bs_length]; exact Nat.le_refl _), List.drop_of_length_le (show (bs L).length ≤ L.length by rw [bs_length]; exact Nat.le_refl _)]; simp [bs])
      clear hk hkl
      go_wp2_with (at_builtin; refine stopHere ?_)
      refine goHere ?_
      refine ap_sl (K := cS) _ ty_str rfl _ _ rfl rfl rfl (B := wr.heap.size) (xs := []) (news := (bs L).take L.length) (Ow.lit [] rfl rfl (Nat.le_refl _)) ((H.out.cut0 (j := L.length) (c' := c) (by rw [bs_length]; omega) (by omega) hcm).alloc _) (by have := HL.out; simp only [List.length_nil, List.length_take, bs_length]; omega) (by simp) ?_
      intro v1 w1 ho hg hb1 hat
      have hb2 : Below wr.heap.size wr w1 := ((Below.refl _ _).alloc (Nat.le_refl _) _).trans hb1
      rw [List.nil_append] at ho
      have elen : ((bs L).take L.length).length = L.length := by rw [List.length_take, bs_length]; omega
      obtain ⟨A1, c1, rfl⟩ := ho.opn
      rw [elen] at ho ⊢
      have O := Lib.hid ho
      have B1 := Lib.hid hb2
      have EL := Lib.hid elen
      clear ho hg hb1 hat hb2 elen
      go_wp2_with (at_builtin; refine stopHere ?_)
      refine goHere ?_
      refine ap_one (K := cS) w1 ty_str rfl _ _ rfl (B := wr.heap.size) (v := .slice A1 L.length c1) (xs := (bs L).take L.length) rfl O.out (⟨⟨x⟩⟩ : ByteArray) rfl rfl (by have := HL.out; have := EL.out; omega) B1.out.size ?_
      intro v2 w2 ho hg hb1 hat
      have hb2 : Below wr.heap.size wr w2 := B1.out.trans hb1
      have elen : ((bs L).take L.length ++ [(⟨⟨x⟩⟩ : ByteArray)]).length = L.length + 1 := by rw [List.length_append, EL.out]; rfl
      obtain ⟨A2, c2, rfl⟩ := ho.opn
      rw [elen] at ho ⊢
      replace O := Lib.hid ho
      replace B1 := Lib.hid hb2
      replace EL := Lib.hid elen
      clear ho hg hb1 hat hb2 elen
      go_wp2_with (at_builtin; refine stopHere ?_)
      all_goals (refine goHere ?_)
      all_goals (refine ap_sl (K := cS) w2 ty_str rfl _ _ rfl rfl rfl (B := wr.heap.size) (v := .slice A2 (L.length + 1) c2) (xs := (bs L).take L.length ++ [(⟨⟨x⟩⟩ : ByteArray)]) (news := (bs L).drop L.length) O.out (by rw [List.drop_of_length_le (show (bs L).length ≤ L.length by rw [bs_length]; exact Nat.le_refl _)]; exact Sl.empty _ _ (by omega)) (by have := HL.out; have := EL.out; rw [List.length_drop, bs_length]; omega) B1.out.size ?_)
      all_goals (intro v3 w3 ho hg hb1 hat)
      all_goals (have hb2 : Below wr.heap.size wr w3 := B1.out.trans hb1)
      all_goals (rw [← E.out] at ho)
      all_goals (obtain ⟨A3, c3, rfl⟩ := ho.opn)
      all_goals (replace O := Lib.hid ho)
      all_goals (replace B1 := Lib.hid hb2)
      all_goals (clear ho hg hb1 hat hb2 EL)
      all_goals (go_wp2)
      all_goals (go_ret)
      all_goals (exact ⟨_, rfl, O.out.sl, B1.out⟩)
theorem part_pe (f : Fm) {i : Nat} (hi : i < (enc f).length) : pe ((enc f).drop i) 1 i = ((i + (enc (pt f i)).length : Nat) : Int) ∧ i + (enc (pt f i)).length ≤ (enc f).length ∧ ((enc f).drop i).take (enc (pt f i)).length = enc (pt f i) := by
  obtain ⟨rest, h1⟩ := pt_drop f i hi
  refine ⟨by rw [h1, pe_enc1]; omega, ?_, by rw [h1, List.take_left']; rfl⟩
  have h2 := congrArg List.length h1
  rw [List.length_drop, List.length_append] at h2
  omega
set_option maxRecDepth 100000 in
theorem spec_l02Sub (v : Value) (f : Fm) (w : World) (h : Sl cN w v (enc f)) (hl : (enc f).length ≤ 40) (hok : f.ok = true) :
    Calls Tryz.prog 267 #[v] w fun e w' => ∃ u, e = .returned u ∧ Sl cS w' u (bs (sbs8 f)) ∧ Below w.heap.size w w' := by
  obtain ⟨A, c, rfl⟩ := h.opn
  obtain ⟨-, hcc, hcm⟩ := h.cap
  have H := Lib.hid h
  have OK := Lib.hid hok
  have A0 := Lib.hid (Below.refl w.heap.size w)
  clear h hok
  go_enter Tryz.func267, Tryz.ntmps267
  go_wp2
  go_loopw [3, 4] (fun a i wr => ∃ k : Nat, i = .int .i64 (k : Int) ∧ k ≤ (enc f).length ∧ Sl cS wr a (bs (sbI8 (sbT8 f k))) ∧ Below w.heap.size w wr) (fun _ i _ => (enc f).length - (intOf i).toNat)
  case atStart => exact ⟨0, rfl, Nat.zero_le _, (Ow.lit (K := cS) (e := 9) (B := w.heap.size) [] rfl rfl (Nat.le_refl _)).sl, (Below.refl _ _).alloc (Nat.le_refl _) _⟩
  case round =>
    clear A0
    obtain ⟨k, rfl, hk, hS, hb⟩ := hrel
    have S := Lib.hid hS
    have B := Lib.hid hb
    clear hS hb
    obtain ⟨As, cs, rfl⟩ := S.out.opn
    rw [bs_length] at S ⊢
    by_cases hkl : k < (enc f).length
    · obtain ⟨hp1, hp2, hp3⟩ := part_pe f hkl
      have hpos := enc_pos (pt f k)
      have HF := Lib.hid (H.out.below B.out)
      have HP := Lib.hid (spec_l02Part _ (enc f) k wr HF.out (by omega) (by omega))
      rw [hp1] at HP
      obtain ⟨b, o, rfl, -, -⟩ := H.out.cell hkl
      have he : Sl cN wr (.slice (some ⟨b, o + k * 2, none⟩) (enc (pt f k)).length (c - k)) (enc (pt f k)) := by
        have h9 := HF.out.cutAt (A' := some ⟨b, o + k * 2, none⟩) (n' := (enc (pt f k)).length) (i := k) (j := k + (enc (pt f k)).length) (c' := c - k) (by omega) hp2 (by omega) (fun b1 o1 e => by injection e with e; injection e with e1 e2; subst e1; subst e2; rfl) (by omega) (by omega)
        rw [Nat.add_sub_cancel_left, hp3] at h9
        exact h9
      have HE := Lib.hid he
      have HL := Lib.hid hp2
      clear he
      have OKP := Lib.hid (part_ok OK.out ⟨k, hkl, rfl⟩)
      go_wp2_with fail
      refine HP.out.mono ?_
      rintro e w1 ⟨rfl, rfl⟩
      go_wp2_with fail
      refine (spec_l02Text (pt f k) _ wr HE.out (by omega) OKP.out).mono ?_
      rintro e w1 ⟨rfl, hb⟩
      have HI := Lib.hid (spec_l02Insert _ (sbI8 (sbT8 f k)) (t8 (txt (pt f k))) w1 (S.out.below hb) (by have := sbI8_len f k; omega))
      have EI := Lib.hid (sbI8_succ f k)
      replace B := Lib.hid (bthen B.out hb)
      clear hb HP HE HL OKP HF S
      rw [show (⟨⟨t8 (txt (pt f k))⟩⟩ : ByteArray) = txt (pt f k) from rfl] at HI
      go_wp2_with fail
      refine HI.out.mono ?_
      rintro e w2 ⟨u, rfl, hS, hb⟩
      rw [← EI.out] at hS
      have S := Lib.hid hS
      replace B := Lib.hid (bthen B.out hb)
      obtain ⟨A9, c9, hv9⟩ := hS.opn
      subst hv9
      clear hb hS HI EI
      go_wp2
      exact ⟨⟨k + 1, by go_num, by omega, S.out, B.out⟩, by simp [intOf]; omega⟩
    · obtain rfl : k = (enc f).length := by omega
      go_wp2
      go_ret
      exact ⟨_, rfl, S.out, B.out⟩
/- The library's slices.Sort and slices.Compact at []string, in the words of Mem; the program's SubformulasOf. -/
/-- lists of bytes as strings -/
def cL8 : Cod T8 := ⟨1, fun x => [.string ⟨⟨x⟩⟩], fun _ => rfl, by decide, fun _ u hu => by simp at hu; subst hu; rfl⟩
theorem flat_bs (L : List T8) : flat cS (bs L) = flat cL8 L := by
  induction L with
  | nil => rfl
  | cons x L ih => rw [bs, List.map_cons, flat_cons, flat_cons, show L.map (fun l => (⟨⟨l⟩⟩ : ByteArray)) = bs L from rfl, ih]; rfl
theorem Ow.l8 {e : TypeId} {B : Nat} {w : World} {v : Value} {L : List T8} (h : Ow cS e B w v (bs L)) : Ow cL8 e B w v L := by
  obtain ⟨⟨A, c, hv, hc, hm⟩, h2⟩ := h
  rw [bs_length] at hv hc
  refine ⟨⟨A, c, hv, hc, hm⟩, ?_⟩
  rw [flat_bs] at h2
  rw [bs_length] at h2
  exact h2
theorem Ow.s8 {e : TypeId} {B : Nat} {w : World} {v : Value} {L : List T8} (h : Ow cL8 e B w v L) : Ow cS e B w v (bs L) := by
  obtain ⟨⟨A, c, hv, hc, hm⟩, h2⟩ := h
  rw [← bs_length] at hv hc
  refine ⟨⟨A, c, hv, hc, hm⟩, ?_⟩
  rw [flat_bs, bs_length]
  exact h2
theorem flat_cL8 (L : List T8) : flat cL8 L = L.map Go.Proofs.encStr := by
  induction L with
  | nil => rfl
  | cons x L ih => rw [flat_cons, List.map_cons, ih]; rfl
/-- an owned row of texts behind the library's change of it, cut to its first ys -/
theorem Ow.put8 {e : TypeId} {B g c q : Nat} {w : World} {xs ys zs : List T8} {os : Array Obj} (h : Ow cL8 e B w (.slice (some ⟨g, 0, none⟩) xs.length c) xs) (hd : (ys ++ zs).length = xs.length) :
    Ow cL8 e B (Go.Sort.grow (Go.Sort.putRow Go.Proofs.encStr (Go.Sort.ahead w q) g 0 (ys ++ zs).toArray) os) (.slice (some ⟨g, 0, none⟩) ys.length c) ys ∧ Below B w (Go.Sort.grow (Go.Sort.putRow Go.Proofs.encStr (Go.Sort.ahead w q) g 0 (ys ++ zs).toArray) os) := by
  obtain ⟨⟨A, c', hv, hc, hm⟩, h1, h2⟩ := h
  injection hv with _ _ hcc
  subst hcc
  rcases h2 with ⟨h0, _⟩ | ⟨g', cap, cur, hg, hB, hr, hn, hcap, hsz, htk⟩
  · cases h0
  · injection hg with hg _ hcap'
    injection hg with hg
    have hg' : g = g' := by injection hg
    subst hg'
    subst hcap'
    have hyl : ys.length ≤ xs.length := by rw [← hd, List.length_append]; omega
    refine ⟨⟨⟨_, _, rfl, by omega, hm⟩, ?_, ?_⟩, ?_⟩
    · rw [flat_length]
    · refine .inr ⟨g, c, _, rfl, hB, heap_sorted _ hr, by omega, hcap, by simpa [Go.Sort.putCells] using hsz, ?_⟩
      have hcs : (ys ++ zs).length ≤ cur.size := by
        have e1 : cL8.size = 1 := rfl
        rw [hsz, e1, hd]; omega
      have := take_putCells cur (ys ++ zs) hcs
      have e2 := congrArg (List.take ys.length) this
      rw [List.take_take, Nat.min_eq_left (by simp)] at e2
      rw [show ys.length * cL8.size = ys.length from Nat.mul_one _, e2, flat_cL8, ← List.map_take, List.take_left']
      rfl
    · have hgb := grownBy_sorted (w := w) (g := g) (n := q) (os := os) (ys ++ zs).toArray
      exact ⟨hgb.os, hgb.tape, hgb.output, hgb.size, fun k hk => hgb.block k (Nat.lt_of_lt_of_le hk (Nat.le_trans hB (Nat.le_of_lt (Array.getElem?_eq_some_iff.1 hr).1))) (fun e => by injection e; omega)⟩
theorem Ow.holds8 {e : TypeId} {B g c : Nat} {w : World} {xs : List T8} (h : Ow cL8 e B w (.slice (some ⟨g, 0, none⟩) xs.length c) xs) : Go.Sort.Holds Go.Proofs.encStr w g 0 xs.toArray ∧ g < w.heap.size ∧ B ≤ g ∧ xs.length ≤ c ∧ c ≤ 9223372036854775807 := by
  obtain ⟨⟨A, c', hv, hc, hm⟩, h1, h2⟩ := h
  injection hv with _ _ hcc
  subst hcc
  rcases h2 with ⟨h0, _⟩ | ⟨g', cap, cur, hg, hB, hr, hn, hcap, hsz, htk⟩
  · cases h0
  · injection hg with hg _ hcap'
    injection hg with hg
    have hg' : g = g' := by injection hg
    subst hg'
    refine ⟨holds_of_block hr (by rw [← flat_cL8, ← htk, show xs.length * cL8.size = xs.length from Nat.mul_one _]), (Array.getElem?_eq_some_iff.1 hr).1, hB, hc, hm⟩
/-- an owned slice is nil, or lies at the head of a block -/
theorem Ow.cases8 {e : TypeId} {B : Nat} {w : World} {v : Value} {xs : List T8} (h : Ow cL8 e B w v xs) : (v = .slice none 0 0 ∧ xs = []) ∨ ∃ g c, v = .slice (some ⟨g, 0, none⟩) xs.length c := by
  obtain ⟨hv, h1, h2⟩ := h
  rcases h2 with ⟨h0, hn⟩ | ⟨g', cap, cur, hg, -⟩
  · exact .inl ⟨h0, List.eq_nil_of_length_eq_zero hn⟩
  · exact .inr ⟨g', cap, hg⟩
theorem beq8 (x y : T8) : (x == y) = decide (x = y) := by
  by_cases h : x = y
  · rw [decide_eq_true h, h]; simp
  · rw [decide_eq_false h]; simpa using h
theorem eql8 (P : Program) (T : TypeId) : EqlAt P T Go.Proofs.encStr (fun x y => decide (x = y)) := ⟨fun x y w => by
  refine Eq.trans ((EqlAt.string P T).1 ⟨⟨x⟩⟩ ⟨⟨y⟩⟩ w) ?_
  show Result.ok (Value.bool ((⟨⟨x⟩⟩ : ByteArray).toList == (⟨⟨y⟩⟩ : ByteArray).toList)) w = Result.ok (Value.bool (decide (x = y))) w
  rw [Go.ByteArray.toList_eq, Go.ByteArray.toList_eq]
  show Result.ok (Value.bool (x == y)) w = _
  rw [beq8], fun op a b x y w => (EqlAt.string P T).2 op a b ⟨⟨x⟩⟩ ⟨⟨y⟩⟩ w⟩
theorem neq8 (P : Program) (T : TypeId) : NeqAt P T Go.Proofs.encStr (fun x y => decide (x = y)) := ⟨fun x y w => by
  refine Eq.trans ((NeqAt.string P T).1 ⟨⟨x⟩⟩ ⟨⟨y⟩⟩ w) ?_
  show Result.ok (Value.bool (!((⟨⟨x⟩⟩ : ByteArray).toList == (⟨⟨y⟩⟩ : ByteArray).toList))) w = Result.ok (Value.bool (!decide (x = y))) w
  rw [Go.ByteArray.toList_eq, Go.ByteArray.toList_eq]
  show Result.ok (Value.bool (!(x == y))) w = _
  rw [beq8], fun op a b x y w => (NeqAt.string P T).2 op a b ⟨⟨x⟩⟩ ⟨⟨y⟩⟩ w⟩
/- The shelf's layings, written out by the shelf's own program. -/
def Tryz.lSortS_ren : Go.Shelf.Ren := ⟨fun | 6 => 209 | 8 => 246 | 9 => 245 | 19 => 281 | 20 => 282 | 21 => 272 | 22 => 273 | 23 => 274 | 24 => 275 | 25 => 276 | 26 => 277 | 27 => 278 | 28 => 279 | 29 => 280 | 36 => 295 | 31 => 296 | 32 => 297 | 37 => 298 | 38 => 299 | 39 => 300 | 41 => 307 | n => n, fun | 27 => 38 | 29 => 9 | 3 => 3 | 32 => 158 | 26 => 38 | 0 => 0 | 44 => 239 | 46 => 134 | 4 => 4 | 36 => 231 | 35 => 230 | 41 => 236 | 5 => 5 | 9 => 9 | 53 => 247 | 57 => 251 | 63 => 258 | 64 => 259 | n => n, fun | n => n⟩
theorem Tryz.lSortS : Go.Proofs.SlLaysM.n6 Tryz.prog Tryz.lSortS_ren := {
  mixed := by kernel_rfl
  f6 := ⟨Tryz.f209.name, by decide, Tryz.func209.trans (congrArg some (by kernel_rfl))⟩
  f8 := Tryz.func246.trans (congrArg some (by kernel_rfl))
  f9 := ⟨Tryz.f245.name, by decide, Tryz.func245.trans (congrArg some (by kernel_rfl))⟩
  f19 := Tryz.func281.trans (congrArg some (by kernel_rfl))
  f20 := Tryz.func282.trans (congrArg some (by kernel_rfl))
  f21 := ⟨Tryz.f272.name, by decide, Tryz.func272.trans (congrArg some (by kernel_rfl))⟩
  f22 := ⟨Tryz.f273.name, by decide, Tryz.func273.trans (congrArg some (by kernel_rfl))⟩
  f23 := ⟨Tryz.f274.name, by decide, Tryz.func274.trans (congrArg some (by kernel_rfl))⟩
  f24 := ⟨Tryz.f275.name, by decide, Tryz.func275.trans (congrArg some (by kernel_rfl))⟩
  f25 := ⟨Tryz.f276.name, by decide, Tryz.func276.trans (congrArg some (by kernel_rfl))⟩
  f26 := ⟨Tryz.f277.name, by decide, Tryz.func277.trans (congrArg some (by kernel_rfl))⟩
  f27 := ⟨Tryz.f278.name, by decide, Tryz.func278.trans (congrArg some (by kernel_rfl))⟩
  f28 := ⟨Tryz.f279.name, by decide, Tryz.func279.trans (congrArg some (by kernel_rfl))⟩
  f29 := ⟨Tryz.f280.name, by decide, Tryz.func280.trans (congrArg some (by kernel_rfl))⟩
  f31 := Tryz.func296.trans (congrArg some (by kernel_rfl))
  f32 := Tryz.func297.trans (congrArg some (by kernel_rfl))
  f36 := ⟨Tryz.f295.name, by decide, Tryz.func295.trans (congrArg some (by kernel_rfl))⟩
  f37 := ⟨Tryz.f298.name, by decide, Tryz.func298.trans (congrArg some (by kernel_rfl))⟩
  f38 := ⟨Tryz.f299.name, by decide, Tryz.func299.trans (congrArg some (by kernel_rfl))⟩
  f39 := ⟨Tryz.f300.name, by decide, Tryz.func300.trans (congrArg some (by kernel_rfl))⟩
  f41 := ⟨Tryz.f307.name, by decide, Tryz.func307.trans (congrArg some (by kernel_rfl))⟩
  t0 := Tryz.underlying0
  a0 := Tryz.isAgg0
  z0 := Tryz.sizeOf0
  v0 := Tryz.zeroValue0
  t3 := Tryz.underlying3
  a3 := Tryz.isAgg3
  z3 := Tryz.sizeOf3
  v3 := Tryz.zeroValue3
  t4 := Tryz.underlying4
  a4 := Tryz.isAgg4
  z4 := Tryz.sizeOf4
  v4 := Tryz.zeroValue4
  t5 := Tryz.underlying5
  a5 := Tryz.isAgg5
  z5 := Tryz.sizeOf5
  v5 := Tryz.zeroValue5
  t9 := Tryz.underlying9
  a9 := Tryz.isAgg9
  z9 := Tryz.sizeOf9
  v9 := Tryz.zeroValue9
  t26 := Tryz.underlying38
  a26 := Tryz.isAgg38
  z26 := Tryz.sizeOf38
  v26 := Tryz.zeroValue38
  t27 := Tryz.underlying38
  a27 := Tryz.isAgg38
  z27 := Tryz.sizeOf38
  v27 := Tryz.zeroValue38
  t29 := Tryz.underlying9
  a29 := Tryz.isAgg9
  z29 := Tryz.sizeOf9
  v29 := Tryz.zeroValue9
  t32 := Tryz.underlying158
  a32 := Tryz.isAgg158
  z32 := Tryz.sizeOf158
  v32 := Tryz.zeroValue158
  t35 := Tryz.underlying230
  a35 := Tryz.isAgg230
  z35 := Tryz.sizeOf230
  v35 := Tryz.zeroValue230
  t36 := Tryz.underlying231
  a36 := Tryz.isAgg231
  z36 := Tryz.sizeOf231
  v36 := Tryz.zeroValue231
  t41 := Tryz.underlying236
  a41 := Tryz.isAgg236
  z41 := Tryz.sizeOf236
  v41 := Tryz.zeroValue236
  t44 := Tryz.underlying239
  a44 := Tryz.isAgg239
  z44 := Tryz.sizeOf239
  v44 := Tryz.zeroValue239
  t46 := Tryz.underlying134
  a46 := Tryz.isAgg134
  z46 := Tryz.sizeOf134
  v46 := Tryz.zeroValue134
  t53 := Tryz.underlying247
  a53 := Tryz.isAgg247
  z53 := Tryz.sizeOf247
  v53 := Tryz.zeroValue247
  t57 := Tryz.underlying251
  a57 := Tryz.isAgg251
  z57 := Tryz.sizeOf251
  v57 := Tryz.zeroValue251
  t63 := Tryz.underlying258
  a63 := Tryz.isAgg258
  z63 := Tryz.sizeOf258
  v63 := Tryz.zeroValue258
  t64 := Tryz.underlying259
  a64 := Tryz.isAgg259
  z64 := Tryz.sizeOf259
  v64 := Tryz.zeroValue259 }

def Tryz.lCmpS_ren : Go.Shelf.Ren := ⟨fun | 43 => 210 | n => n, fun | 22 => 38 | 23 => 9 | 3 => 3 | 4 => 4 | 0 => 0 | n => n, fun | n => n⟩
theorem Tryz.lCmpS : Go.Proofs.SlLaysE.n43 Tryz.prog Tryz.lCmpS_ren := {
  mixed := by kernel_rfl
  f43 := ⟨Tryz.f210.name, by decide, Tryz.func210.trans (congrArg some (by kernel_rfl))⟩
  t0 := Tryz.underlying0
  a0 := Tryz.isAgg0
  z0 := Tryz.sizeOf0
  v0 := Tryz.zeroValue0
  t3 := Tryz.underlying3
  a3 := Tryz.isAgg3
  z3 := Tryz.sizeOf3
  v3 := Tryz.zeroValue3
  t4 := Tryz.underlying4
  a4 := Tryz.isAgg4
  z4 := Tryz.sizeOf4
  v4 := Tryz.zeroValue4
  t22 := Tryz.underlying38
  a22 := Tryz.isAgg38
  z22 := Tryz.sizeOf38
  v22 := Tryz.zeroValue38
  a23 := Tryz.isAgg9
  z23 := Tryz.sizeOf9 }


/-- slices.Sort of a row of texts of the call's own -/
theorem slices_SortS (v : Value) (xs : List T8) (B : Nat) (w : World) (h : Ow cL8 9 B w v xs) (hl : xs.length ≤ 1048576) :
    Calls Tryz.prog 209 #[v] w fun e w' => e = .returned (.tuple #[]) ∧ Ow cL8 9 B w' v (xs.mergeSort fun x y => decide (x ≤ y)) ∧ Below B w w' := by
  rcases h.cases8 with ⟨rfl, rfl⟩ | ⟨g, c, rfl⟩
  · have hcon := AnyM.slices_Sort_string_none Tryz.lSortS none 0 w
    change Calls Tryz.prog 209 _ _ _ at hcon
    exact hcon.mono fun e w' ⟨he, hw⟩ => ⟨he, by simpa using Ow.nil _ _, hw ▸ Below.refl _ _⟩
  · obtain ⟨h1, h2, h3, h4, h5⟩ := h.holds8
    have hcon := AnyM.slices_Sort_string Tryz.lSortS g 0 c xs w h1 h2 (by omega)
    change Calls Tryz.prog 209 _ _ _ at hcon
    refine hcon.mono fun e w' ⟨he, n, os, hw⟩ => ?_
    subst hw
    have := h.put8 (ys := xs.mergeSort fun x y => decide (x ≤ y)) (zs := []) (q := n) (os := os) (by rw [List.append_nil, List.length_mergeSort])
    rw [List.append_nil, List.length_mergeSort] at this
    exact ⟨he, this⟩
/-- slices.Compact of a row of texts of the call's own -/
theorem slices_CompactS (v : Value) (xs : List T8) (B : Nat) (w : World) (h : Ow cL8 9 B w v xs) (hl : xs.length ≤ 1048576) :
    Calls Tryz.prog 210 #[v] w fun e w' => ∃ u, e = .returned u ∧ Ow cL8 9 B w' u (Lib.compactUpTo xs.toArray xs.length) ∧ Below B w w' := by
  rcases h.cases8 with ⟨rfl, rfl⟩ | ⟨g, c, rfl⟩
  · clear h
    go_enter Tryz.func210, Tryz.ntmps210
    go_wp2
    go_ret
    exact ⟨_, rfl, Ow.nil _ _, Below.refl _ _⟩
  · obtain ⟨h1, h2, h3, h4, h5⟩ := h.holds8
    have hcon := AnyE.slices_Compact Tryz.lCmpS Go.Proofs.encStr (fun _ => rfl) (eql8 _ _) (neq8 _ _) [] Tryz.zeroValue9 g 0 c xs.toArray w h1 (by simp; omega) (by simpa using h4)
    change Calls Tryz.prog 210 _ _ _ at hcon
    refine hcon.mono fun e w' ⟨he, q, hw⟩ => ?_
    subst hw
    have hlen : (Lib.compactUpTo xs.toArray xs.length).length ≤ xs.length := by
      unfold Lib.compactUpTo
      rw [List.length_map]
      have := List.length_filter_le (Lib.keeps xs.toArray) (List.range xs.length)
      simpa using this
    have := h.put8 (ys := Lib.compactUpTo xs.toArray xs.length) (zs := List.replicate (xs.length - (Lib.compactUpTo xs.toArray xs.length).length) []) (q := q) (os := #[]) (by simp; omega)
    simp only [Go.Sort.grow_empty] at this
    refine ⟨_, he, ?_⟩
    simpa using this
set_option maxRecDepth 100000 in
theorem impl_subformulas (b : Nat) (v : Value) (f : Fm) (w : World) (hc : w.cell? ⟨b, 0, none⟩ = some v) (hb : b < w.heap.size) (h : Sl cN w v (enc f)) (hl : (enc f).length ≤ 40) (hok : f.ok = true) :
    Calls Tryz.prog 135 #[.slice (some ⟨b, 0, none⟩) 1 1] w fun e w' => ∃ u, e = .returned u ∧ Ow cS 9 w.heap.size w' u (bs (sbs8 f)) ∧ Below w.heap.size w w' := by
  obtain ⟨A, c, rfl⟩ := h.opn
  have H := Lib.hid h
  have OK := Lib.hid hok
  have HC := Lib.hid hc
  have HB := Lib.hid hb
  have A0 := Lib.hid (Below.refl w.heap.size w)
  clear h hok hc hb
  go_enter Tryz.func135, Tryz.ntmps135
  go_wp2
  go_loopw [3, 9] (fun q i wr => ∃ j : Nat, i = .int .i64 (j : Int) ∧ j ≤ 1 ∧ Ow cS 9 w.heap.size wr q (bs (sbT8 f (if j = 0 then 0 else (enc f).length))) ∧ Below w.heap.size w wr) (fun _ i _ => 1 - (intOf i).toNat)
  case atStart => exact ⟨0, rfl, Nat.zero_le _, Ow.nil _ _, A0.out⟩
  case round =>
    clear A0
    obtain ⟨j, rfl, hj, ho, hb⟩ := hrel
    have O := Lib.hid ho
    have B := Lib.hid hb
    clear ho hb
    by_cases hj0 : j = 0
    · subst hj0
      rw [if_pos rfl] at O
      rw [show ((0 : Nat) : Int) = (0 : Int) from rfl]
      have hc : wr.cell? ⟨b, 0, none⟩ = some (.slice A (enc f).length c) := (B.out.cell (p := ⟨b, 0, none⟩) HB.out).trans HC.out
      obtain ⟨A1, c1, rfl⟩ := O.out.opn
      go_wp2
      go_loopw [3, 15] (fun q i wq => ∃ k : Nat, i = .int .i64 (k : Int) ∧ k ≤ (enc f).length ∧ Ow cS 9 w.heap.size wq q (bs (sbT8 f k)) ∧ Below w.heap.size w wq) (fun _ i _ => (enc f).length - (intOf i).toNat)
      case atStart => exact ⟨0, rfl, Nat.zero_le _, O.out, B.out⟩
      case round =>
        clear O B hc
        obtain ⟨k, rfl, hk, ho, hb⟩ := hrel
        obtain ⟨A2, c2, rfl⟩ := ho.opn
        rw [bs_length, sbT8_len] at ho ⊢
        have O := Lib.hid ho
        have B := Lib.hid hb
        clear ho hb
        by_cases hkl : k < (enc f).length
        · obtain ⟨hp1, hp2, hp3⟩ := part_pe f hkl
          have hpos := enc_pos (pt f k)
          have HP := impl_part _ (enc f) k (k + (enc (pt f k)).length) _ (H.out.below B.out) (by omega) (by omega) hp2 hp1
          rw [Nat.add_sub_cancel_left, hp3] at HP
          replace HP := Lib.hid HP
          have OKP := Lib.hid (part_ok OK.out ⟨k, hkl, rfl⟩)
          have HS := Lib.hid (sbT8_succ f k)
          have HE : Hid ((enc (pt f k)).length ≤ 40) := Lib.hid (by omega)
          clear hp1 hp2 hp3 hpos
          go_wp2_with fail
          refine HP.out.mono ?_
          rintro e w1 ⟨u, rfl, hS, rfl⟩
          have HT := Lib.hid (impl_text (pt f k) u _ hS (by have := HE.out; omega) OKP.out)
          clear hS HP
          go_wp2_with fail
          refine HT.out.mono ?_
          rintro e w2 ⟨rfl, m, rfl⟩
          replace O := Lib.hid (O.out.drewN m)
          replace B := Lib.hid (below_drewN B.out m)
          generalize World.drewN _ m = w2 at *
          clear HT
          go_wp2_with (at_builtin; refine stopHere ?_)
          refine goHere ?_
          refine ap_one (K := cS) w2 ty_str rfl _ _ rfl (B := w.heap.size) (v := .slice A2 k c2) (xs := bs (sbT8 f k)) rfl O.out (txt (pt f k)) rfl rfl (by rw [bs_length, sbT8_len]; omega) B.out.size ?_
          intro v3 w3 ho hg hb1 hat
          have ho2 : Ow cS 9 w.heap.size w3 v3 (bs (sbT8 f (k + 1))) := by rw [HS.out, bs_app]; exact ho
          replace O := Lib.hid ho2
          replace B := Lib.hid (B.out.trans hb1)
          obtain ⟨A3, c3, hv3⟩ := ho.opn
          rw [List.length_append, bs_length, sbT8_len, List.length_singleton] at hv3
          subst hv3
          clear ho ho2 hg hb1 hat HS
          go_wp2
          go_roundw
          case rel => exact ⟨k + 1, by go_num, by omega, O.out, B.out⟩
          case measure => simp [intOf]; omega
        · obtain rfl : k = (enc f).length := by omega
          go_wp2
          exact ⟨⟨1, by go_num, by omega, O.out, B.out⟩, by simp [intOf]⟩
    · obtain rfl : j = 1 := by omega
      rw [if_neg (by decide)] at O
      obtain ⟨A2, c2, rfl⟩ := O.out.opn
      rw [bs_length, sbT8_len] at O ⊢
      have HS := Lib.hid (slices_SortS _ (sbT8 f (enc f).length) w.heap.size wr O.out.l8 (by rw [sbT8_len]; omega))
      clear hj0 hj
      go_wp2_with fail
      refine HS.out.mono ?_
      rintro e w1 ⟨rfl, ho, hb⟩
      have hlen : ((sbT8 f (enc f).length).mergeSort fun x y => decide (x ≤ y)).length = (sbT8 f (enc f).length).length := List.length_mergeSort _
      have HK := Lib.hid (slices_CompactS _ _ w.heap.size w1 ho (by rw [hlen, sbT8_len]; omega))
      have E : Hid (Lib.compactUpTo ((sbT8 f (enc f).length).mergeSort fun x y => decide (x ≤ y)).toArray ((sbT8 f (enc f).length).mergeSort fun x y => decide (x ≤ y)).length = sbs8 f) := Lib.hid (by rw [hlen]; exact sbI8_sort _)
      rw [E.out] at HK
      replace B := Lib.hid (B.out.trans hb)
      clear ho hb hlen HS O E
      go_wp2_with fail
      refine HK.out.mono ?_
      rintro e w2 ⟨u, rfl, ho, hb⟩
      obtain ⟨A4, c4, rfl⟩ := ho.opn
      have O := Lib.hid ho.s8
      replace B := Lib.hid (B.out.trans hb)
      clear ho hb HK
      go_wp2
      go_ret
      exact ⟨_, rfl, O.out, B.out⟩
/- slices.Grow and slices.Concat at strings. Written by gen12A.py. -/
/-- appending a make to nil: an empty slice of the call's own, with room -/
theorem grown_nilS (w : World) (n : Nat) (h0 : 0 < n) (hn : n ≤ 1048576) :
    ∃ w' cap, (∀ (ty : TypeId), (Builtin.append_ #[38, 3] ty #[.slice none 0 0, .int .i64 n]).run Tryz.prog w = .ok (.slice (some ⟨w.heap.size, 0, none⟩) n cap) w') ∧ n ≤ cap ∧ cap ≤ maxLen ∧
      Ow cS 9 w.heap.size w' (.slice (some ⟨w.heap.size, 0, none⟩) 0 cap) [] ∧ Below w.heap.size w w' := by
  obtain ⟨i, hi, hz, hsize, hby⟩ := ty_str.info
  have hs : i.size = 1 := hsize
  have hb : i.bytes = 16 := hby
  have hge := grownCap_ge w n 0 9
  have hle := grownCap_le_maxLen w n 0 9 (by simp only [maxLen]; omega)
  refine ⟨_, _, fun ty => Lib.run_append_nil_zeros w 38 3 ty 9 i _ .i64 .i64 ty_str.under Tryz.underlying3 hi hz n h0 (by omega) (by omega) (by rw [hb]; omega), hge, hle, ⟨⟨_, _, rfl, Nat.zero_le _, by have := hle; simp only [maxLen] at this; omega⟩, ?_⟩, ?_⟩
  · refine World.ownsRow_made _ _ _ (Nat.le_refl _) hle ?_
    show _ = grownCap w n 0 9 * 1
    have hc : (Value.string ⟨#[]⟩).cells.size = 1 := rfl
    simp only [Array.size_append, size_zeroCells, hc]
    omega
  · exact (below_drewN (Below.refl _ _) 1).alloc (Nat.le_refl _) _
theorem slices_Grow_nilS (n : Nat) (w : World) (hn : n ≤ 1048576) :
    Calls Tryz.prog 247 #[.slice none 0 0, .int .i64 n] w fun e w' => ∃ u, e = .returned u ∧ Ow cS 9 w.heap.size w' u [] ∧ Below w.heap.size w w' := by
  by_cases h0 : 0 < n
  · obtain ⟨w1, cap, hr, hge, hle, ho, hb⟩ := grown_nilS w n h0 hn
    have hle' : cap ≤ 9223372036854775807 := by simpa only [maxLen] using hle
    have HR := Lib.hid hr; have HO := Lib.hid ho; have HB := Lib.hid hb
    clear hr ho hb
    go_enter Tryz.func247, Tryz.ntmps247
    go_wp2_with (at_builtin; refine stopHere ?_)
    refine goHere ?_
    refine Lib.wpList_append_run _ rfl _ _ _ _ rfl _ _ rfl rfl _ _ (HR.out _) ?_
    go_wp2
    go_ret
    exact ⟨_, rfl, HO.out, HB.out⟩
  · obtain rfl : n = 0 := by omega
    go_enter Tryz.func247, Tryz.ntmps247
    go_wp2
    go_ret
    exact ⟨_, rfl, Ow.nil _ _, Below.refl _ _⟩

theorem slices_Concat_strs (v : Value) (xss : List (List ByteArray)) (w : World) (h : Sl2 cS w v xss) (hl : xss.length ≤ 1048576) (hs : xss.flatten.length ≤ 1048576) :
    Calls Tryz.prog 211 #[v] w fun e w' => ∃ u, e = .returned u ∧ Ow cS 9 w.heap.size w' u xss.flatten ∧ Below w.heap.size w w' := by
  obtain ⟨A, c, rfl⟩ := h.opn
  have H := Lib.hid h; clear h
  go_enter Tryz.func211, Tryz.ntmps211
  go_wp2
  go_loop [3, 11] (fun s i => ∃ j : Nat, j ≤ xss.length ∧ i = .int .i64 j ∧ s = .int .i64 ((xss.take j).flatten.length : Nat)) (fun _ i => xss.length - (intOf i).toNat)
  case atStart => exact ⟨0, Nat.zero_le _, rfl, rfl⟩
  case round =>
    obtain ⟨j, hj, rfl, rfl⟩ := hrel
    by_cases hlt : j < xss.length
    · obtain ⟨b, o, Ai, ni, ci, rfl, hbl, hc0, hsj⟩ := H.out.at_ hlt
      obtain ⟨A', c', he⟩ := hsj.opn
      injection he with e1 e2 e3
      subst e1 e2 e3
      have h1 := congrArg List.length (flat_take_succ xss hlt)
      have h2 := flat_take_le xss (j + 1)
      rw [List.length_append] at h1
      obtain ⟨S, hS⟩ : ∃ S, (xss.take j).flatten.length = S := ⟨_, rfl⟩
      obtain ⟨T, hT⟩ : ∃ T, (xss.take (j + 1)).flatten.length = T := ⟨_, rfl⟩
      obtain ⟨M, hM⟩ : ∃ M, xss[j].length = M := ⟨_, rfl⟩
      rw [hS, hT, hM] at h1
      rw [hT] at h2
      rw [hM] at hc0
      rw [hS]
      have HT := Lib.hid hT
      have hb1 : S + M ≤ 1048576 := by omega
      have hw : IntKind.i64.wrap ((S : Int) + (M : Int)) = ((S + M : Nat) : Int) := by rw [IntWalk.i64_in _ ⟨by omega, by omega⟩]; omega
      have HTS := Lib.hid h1
      clear hS hT hM h1 h2 hsj
      go_wp2
      go_round
      case rel => exact ⟨j + 1, by omega, by go_num, by rw [HT.out, HTS.out, Int.natCast_add]⟩
      case measure => simp [intOf]; omega
    · obtain rfl : j = xss.length := by omega
      have h2 := flat_take_le xss xss.length
      obtain ⟨S, hS⟩ : ∃ S, (xss.take xss.length).flatten.length = S := ⟨_, rfl⟩
      rw [hS] at h2 ⊢
      clear hS
      have hS : S ≤ 1048576 := by omega
      clear h2
      go_wp2_with fail
      refine (slices_Grow_nilS S _ hS).mono ?_
      rintro e w1 ⟨u, rfl, ho, hb⟩
      have O := Lib.hid ho
      have HB := Lib.hid hb
      clear ho hb
      go_wp2
      go_loopw [6, 27] (fun v i wr => ∃ j : Nat, j ≤ xss.length ∧ i = .int .i64 j ∧ Ow cS 9 w.heap.size wr v (xss.take j).flatten ∧ Below w.heap.size w wr) (fun _ i _ => xss.length - (intOf i).toNat)
      case atStart => exact ⟨0, Nat.zero_le _, rfl, O.out, HB.out⟩
      case round =>
        obtain ⟨j, hj, rfl, ho, hb⟩ := hrel
        have HO := Lib.hid ho
        have HW := Lib.hid hb
        have hz := hb.size
        clear ho hb
        by_cases hlt : j < xss.length
        · obtain ⟨b, o, Ai, ni, ci, rfl, hbl, hc0, hsj⟩ := (H.out.below HW.out).at_ hlt
          have HS := Lib.hid hsj
          have HT := Lib.hid (flat_take_succ xss hlt)
          have h1 := congrArg List.length (flat_take_succ xss hlt)
          have h2 := flat_take_le xss (j + 1)
          rw [List.length_append] at h1
          have hsum : ((xss.take j).flatten.length + xss[j].length) ≤ 1048576 := by omega
          clear h1 h2 hsj
          go_wp2_with (at_builtin; refine stopHere ?_)
          refine goHere ?_
          refine ap_sl (K := cS) _ ty_str rfl _ _ rfl rfl rfl (B := w.heap.size) (xs := (xss.take j).flatten) (news := xss[j]) HO.out HS.out (by omega) hz ?_
          intro v1 w2 ho hg hb hat
          have HW2 := Lib.hid (HW.out.trans hb)
          have O2 := Lib.hid ho
          clear ho hg hb hat hsum
          go_wp2
          go_roundw
          case rel => exact ⟨j + 1, by omega, by go_num, by rw [HT.out]; exact O2.out, HW2.out⟩
          case measure => simp [intOf]; omega
        · obtain rfl : j = xss.length := by omega
          have HE : Hid ((xss.take xss.length).flatten = xss.flatten) := Lib.hid (by rw [List.take_length])
          go_wp2
          go_ret
          exact ⟨_, rfl, by rw [← HE.out]; exact HO.out, HW.out⟩
end Go.Proofs.YtgcoohlakcncbaaGreat
