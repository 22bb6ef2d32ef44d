/- Joined of several texts: 02V, 02X, 02Y. -/
import Derived.Test.YtboldkahppdmbaaGreatDoorJM02
import Derived.Test.YtboldkahppdmbaaGreatDoorJ33
import Derived.Test.YtboldkahppdmbaaGreatDoorEA
import Derived.Test.YtboldkahppdmbaaGreatDoorJ02
import Derived.Sort.Walk0
import Derived.Shelf.SlicesE.Compact
import Derived.Shelf.SortM.Plain
import Derived.Shelf.SortM.SortNone
import Derived.Sort.OwnSorted
namespace Go.Proofs.YtboldkahppdmbaaGreatDoor
open Go.RowKit
set_option linter.unusedVariables false
set_option linter.unusedSimpArgs false
/- The reference's SubformulasOf: texts inserted into an ascending list. -/
/-- texts as byte arrays -/
def bs (L : List T8) : List ByteArray := L.map fun l => (⟨⟨l⟩⟩ : ByteArray)
theorem bs_length (L : List T8) : (bs L).length = L.length := by simp [bs]
theorem bs_get (L : List T8) (k : Nat) (h : k < (bs L).length) : (bs L)[k] = ⟨⟨L[k]'(by rw [bs_length] at h; exact h)⟩⟩ := by simp [bs]
theorem bs_app (L M : List T8) : bs (L ++ M) = bs L ++ bs M := by simp [bs]
theorem t8_mk (b : ByteArray) : (⟨⟨t8 b⟩⟩ : ByteArray) = b := rfl
theorem ty_str : Ty Tryz.prog 38 9 (.string ⟨#[]⟩) 1 16 := Ty.mk' Tryz.underlying38 (by kernel_rfl) rfl (by decide)
set_option maxRecDepth 100000 in
theorem spec_l02Insert (v : Value) (L : List T8) (x : T8) (w : World) (h : Sl cS w v (bs L)) (hl : L.length ≤ 1000) :
    Calls Tryz.prog 80 #[v, .string ⟨⟨x⟩⟩] w fun e w' => ∃ u, e = .returned u ∧ Sl cS w' u (bs (ins8 x L)) ∧ Below w.heap.size w w' := by
  obtain ⟨A, c, rfl⟩ := h.opn
  rw [bs_length] at h ⊢
  have H := Lib.hid h
  obtain ⟨-, hcc, hcm⟩ := h.cap
  rw [bs_length] at hcc
  clear h
  have HL := Lib.hid hl
  go_enter Tryz.func80, Tryz.ntmps80
  go_wp2
  go_loopw [5] (fun i wr => ∃ k : Nat, i = .int .i64 (k : Int) ∧ k ≤ L.length ∧ (∀ i (h : i < L.length), i < k → L[i] < x) ∧ wr = w) (fun i _ => L.length - (intOf i).toNat)
  case atStart => exact ⟨0, rfl, Nat.zero_le _, fun i _ h => by omega, rfl⟩
  case round =>
    obtain ⟨k, rfl, hk, hlt, rfl⟩ := hrel
    have HLT := Lib.hid hlt
    clear hlt
    by_cases hkl : k < L.length
    · obtain ⟨b, o, rfl, hb, hc⟩ := H.out.atS (k := k) (by rw [bs_length]; exact hkl)
      rw [bs_get] at hc
      by_cases hx : L[k] < x
      · have hbl : Op.bytesLess L[k] x = true := by rw [bytesLess_eq]; exact decide_eq_true hx
        have HX := Lib.hid hx
        clear hx
        go_wp2
        exact ⟨⟨k + 1, by go_num, by omega, fun i h hi => by rcases Nat.lt_or_ge i k with h1 | h1; exact HLT.out i h h1; obtain rfl : i = k := (by omega); exact HX.out, trivial⟩, by simp [intOf]; omega⟩
      · have hbl : Op.bytesLess L[k] x = false := by rw [bytesLess_eq]; exact decide_eq_false hx
        have HX := Lib.hid hx
        clear hx
        by_cases he : L[k] = x
        · have hbe : (L[k] == x) = true := by simpa using he
          have E : Hid (ins8 x L = L) := Lib.hid (by rw [ins8_at x L k hk HLT.out (fun _ => HX.out), if_pos (by rw [List.getElem?_eq_getElem hkl, he])])
          clear he
          go_wp2
          go_ret
          exact ⟨_, rfl, by rw [E.out]; exact H.out, Below.refl _ _⟩
        · have hbe : (L[k] == x) = false := by simpa using he
          have E : Hid (bs (ins8 x L) = (bs L).take k ++ [⟨⟨x⟩⟩] ++ (bs L).drop k) := Lib.hid (by rw [ins8_at x L k hk HLT.out (fun _ => HX.out), if_neg (by rw [List.getElem?_eq_getElem hkl]; exact fun e => he (Option.some.inj e))]; simp [bs])
          clear he
          go_wp2_with (at_builtin; refine stopHere ?_)
          refine goHere ?_
          refine ap_sl (K := cS) _ ty_str rfl _ _ rfl rfl rfl (B := wr.heap.size) (xs := []) (news := (bs L).take k) (Ow.lit [] rfl rfl (Nat.le_refl _)) ((H.out.cut0 (j := k) (c' := c) (by rw [bs_length]; omega) (by omega) hcm).alloc _) (by have := HL.out; simp only [List.length_nil, List.length_take, bs_length]; omega) (by simp) ?_
          intro v1 w1 ho hg hb1 hat
          have hb2 : Below wr.heap.size wr w1 := ((Below.refl _ _).alloc (Nat.le_refl _) _).trans hb1
          rw [List.nil_append] at ho
          have elen : ((bs L).take k).length = k := by rw [List.length_take, bs_length]; omega
          obtain ⟨A1, c1, rfl⟩ := ho.opn
          rw [elen] at ho ⊢
          have O := Lib.hid ho
          have B1 := Lib.hid hb2
          have EL := Lib.hid elen
          clear ho hg hb1 hat hb2 elen
          go_wp2_with (at_builtin; refine stopHere ?_)
          refine goHere ?_
          refine ap_one (K := cS) w1 ty_str rfl _ _ rfl (B := wr.heap.size) (v := .slice A1 k c1) (xs := (bs L).take k) rfl O.out (⟨⟨x⟩⟩ : ByteArray) rfl rfl (by have := HL.out; have := EL.out; omega) B1.out.size ?_
          intro v2 w2 ho hg hb1 hat
          have hb2 : Below wr.heap.size wr w2 := B1.out.trans hb1
          have elen : ((bs L).take k ++ [(⟨⟨x⟩⟩ : ByteArray)]).length = k + 1 := by rw [List.length_append, EL.out]; rfl
          obtain ⟨A2, c2, rfl⟩ := ho.opn
          rw [elen] at ho ⊢
          replace O := Lib.hid ho
          replace B1 := Lib.hid hb2
          replace EL := Lib.hid elen
          clear ho hg hb1 hat hb2 elen
          go_wp2_with (at_builtin; refine stopHere ?_)
          refine goHere ?_
          have hr : Sl cS w2 (.slice (some ⟨b, o + k, none⟩) (L.length - k) (c - k)) (((bs L).drop k).take (L.length - k)) := (H.out.below B1.out).cutAt (i := k) (j := L.length) (c' := c - k) (by omega) (by rw [bs_length]; exact Nat.le_refl _) rfl (fun b1 o1 e => by injection e with e; injection e with e1 e2; subst e1; subst e2; rw [show cS.size = 1 from rfl, Nat.mul_one]) (by omega) (by omega)
          rw [show ((bs L).drop k).take (L.length - k) = (bs L).drop k from List.take_of_length_le (by rw [List.length_drop, bs_length]; exact Nat.le_refl _)] at hr
          refine ap_sl (K := cS) w2 ty_str rfl _ _ rfl rfl rfl (B := wr.heap.size) (v := .slice A2 (k + 1) c2) (xs := (bs L).take k ++ [(⟨⟨x⟩⟩ : ByteArray)]) (news := (bs L).drop k) O.out hr (by have := HL.out; have := EL.out; rw [List.length_drop, bs_length]; omega) B1.out.size ?_
          intro v3 w3 ho hg hb1 hat
          have hb2 : Below wr.heap.size wr w3 := B1.out.trans hb1
          rw [← E.out] at ho
          obtain ⟨A3, c3, rfl⟩ := ho.opn
          replace O := Lib.hid ho
          replace B1 := Lib.hid hb2
          clear ho hg hb1 hat hb2 hr EL
          go_wp2
          go_ret
          exact ⟨_, rfl, O.out.sl, B1.out⟩
    · obtain rfl : k = L.length := by omega
      have E : Hid (bs (ins8 x L) = (bs L).take L.length ++ [⟨⟨x⟩⟩] ++ (bs L).drop L.length) := Lib.hid (by rw [ins8_at x L L.length hk HLT.out (fun h => absurd h (Nat.lt_irrefl _)), if_neg (by rw [List.getElem?_eq_none (Nat.le_refl _)]; simp), List.take_of_length_le (show (bs L).length ≤ L.length by rw [bs_length]; exact Nat.le_refl _), List.drop_of_length_le (show (bs L).length ≤ L.length by rw [bs_length]; exact Nat.le_refl _)]; simp [bs])
      clear hk hkl
      go_wp2_with (at_builtin; refine stopHere ?_)
      refine goHere ?_
      refine ap_sl (K := cS) _ ty_str rfl _ _ rfl rfl rfl (B := wr.heap.size) (xs := []) (news := (bs L).take L.length) (Ow.lit [] rfl rfl (Nat.le_refl _)) ((H.out.cut0 (j := L.length) (c' := c) (by rw [bs_length]; omega) (by omega) hcm).alloc _) (by have := HL.out; simp only [List.length_nil, List.length_take, bs_length]; omega) (by simp) ?_
      intro v1 w1 ho hg hb1 hat
      have hb2 : Below wr.heap.size wr w1 := ((Below.refl _ _).alloc (Nat.le_refl _) _).trans hb1
      rw [List.nil_append] at ho
      have elen : ((bs L).take L.length).length = L.length := by rw [List.length_take, bs_length]; omega
      obtain ⟨A1, c1, rfl⟩ := ho.opn
      rw [elen] at ho ⊢
      have O := Lib.hid ho
      have B1 := Lib.hid hb2
      have EL := Lib.hid elen
      clear ho hg hb1 hat hb2 elen
      go_wp2_with (at_builtin; refine stopHere ?_)
      refine goHere ?_
      refine ap_one (K := cS) w1 ty_str rfl _ _ rfl (B := wr.heap.size) (v := .slice A1 L.length c1) (xs := (bs L).take L.length) rfl O.out (⟨⟨x⟩⟩ : ByteArray) rfl rfl (by have := HL.out; have := EL.out; omega) B1.out.size ?_
      intro v2 w2 ho hg hb1 hat
      have hb2 : Below wr.heap.size wr w2 := B1.out.trans hb1
      have elen : ((bs L).take L.length ++ [(⟨⟨x⟩⟩ : ByteArray)]).length = L.length + 1 := by rw [List.length_append, EL.out]; rfl
      obtain ⟨A2, c2, rfl⟩ := ho.opn
      rw [elen] at ho ⊢
      replace O := Lib.hid ho
      replace B1 := Lib.hid hb2
      replace EL := Lib.hid elen
      clear ho hg hb1 hat hb2 elen
      go_wp2_with (at_builtin; refine stopHere ?_)
      all_goals (refine goHere ?_)
      all_goals (refine ap_sl (K := cS) w2 ty_str rfl _ _ rfl rfl rfl (B := wr.heap.size) (v := .slice A2 (L.length + 1) c2) (xs := (bs L).take L.length ++ [(⟨⟨x⟩⟩ : ByteArray)]) (news := (bs L).drop L.length) O.out (by rw [List.drop_of_length_le (show (bs L).length ≤ L.length by rw [bs_length]; exact Nat.le_refl _)]; exact Sl.empty _ _ (by omega)) (by have := HL.out; have := EL.out; rw [List.length_drop, bs_length]; omega) B1.out.size ?_)
      all_goals (intro v3 w3 ho hg hb1 hat)
      all_goals (have hb2 : Below wr.heap.size wr w3 := B1.out.trans hb1)
      all_goals (rw [← E.out] at ho)
      all_goals (obtain ⟨A3, c3, rfl⟩ := ho.opn)
      all_goals (replace O := Lib.hid ho)
      all_goals (replace B1 := Lib.hid hb2)
      all_goals (clear ho hg hb1 hat hb2 EL)
      all_goals (go_wp2)
      all_goals (go_ret)
      all_goals (exact ⟨_, rfl, O.out.sl, B1.out⟩)
theorem part_pe (f : Fm) {i : Nat} (hi : i < (enc f).length) : pe ((enc f).drop i) 1 i = ((i + (enc (pt f i)).length : Nat) : Int) ∧ i + (enc (pt f i)).length ≤ (enc f).length ∧ ((enc f).drop i).take (enc (pt f i)).length = enc (pt f i) := by
  obtain ⟨rest, h1⟩ := pt_drop f i hi
  refine ⟨by rw [h1, pe_enc1]; omega, ?_, by rw [h1, List.take_left']; rfl⟩
  have h2 := congrArg List.length h1
  rw [List.length_drop, List.length_append] at h2
  omega
set_option maxRecDepth 100000 in
theorem spec_l02Sub (v : Value) (f : Fm) (w : World) (h : Sl cN w v (enc f)) (hl : (enc f).length ≤ 40) (hok : f.ok = true) :
    Calls Tryz.prog 40 #[v] w fun e w' => ∃ u, e = .returned u ∧ Sl cS w' u (bs (sbs8 f)) ∧ Below w.heap.size w w' := by
  obtain ⟨A, c, rfl⟩ := h.opn
  obtain ⟨-, hcc, hcm⟩ := h.cap
  have H := Lib.hid h
  have OK := Lib.hid hok
  have A0 := Lib.hid (Below.refl w.heap.size w)
  clear h hok
  go_enter Tryz.func40, Tryz.ntmps40
  go_wp2
  go_loopw [3, 4] (fun a i wr => ∃ k : Nat, i = .int .i64 (k : Int) ∧ k ≤ (enc f).length ∧ Sl cS wr a (bs (sbI8 (sbT8 f k))) ∧ Below w.heap.size w wr) (fun _ i _ => (enc f).length - (intOf i).toNat)
  case atStart => exact ⟨0, rfl, Nat.zero_le _, (Ow.lit (K := cS) (e := 9) (B := w.heap.size) [] rfl rfl (Nat.le_refl _)).sl, (Below.refl _ _).alloc (Nat.le_refl _) _⟩
  case round =>
    clear A0
    obtain ⟨k, rfl, hk, hS, hb⟩ := hrel
    have S := Lib.hid hS
    have B := Lib.hid hb
    clear hS hb
    obtain ⟨As, cs, rfl⟩ := S.out.opn
    rw [bs_length] at S ⊢
    by_cases hkl : k < (enc f).length
    · obtain ⟨hp1, hp2, hp3⟩ := part_pe f hkl
      have hpos := enc_pos (pt f k)
      have HF := Lib.hid (H.out.below B.out)
      have HP := Lib.hid (spec_l02Part _ (enc f) k wr HF.out (by omega) (by omega))
      rw [hp1] at HP
      obtain ⟨b, o, rfl, -, -⟩ := H.out.cell hkl
      have he : Sl cN wr (.slice (some ⟨b, o + k * 2, none⟩) (enc (pt f k)).length (c - k)) (enc (pt f k)) := by
        have h9 := HF.out.cutAt (A' := some ⟨b, o + k * 2, none⟩) (n' := (enc (pt f k)).length) (i := k) (j := k + (enc (pt f k)).length) (c' := c - k) (by omega) hp2 (by omega) (fun b1 o1 e => by injection e with e; injection e with e1 e2; subst e1; subst e2; rfl) (by omega) (by omega)
        rw [Nat.add_sub_cancel_left, hp3] at h9
        exact h9
      have HE := Lib.hid he
      have HL := Lib.hid hp2
      clear he
      have OKP := Lib.hid (part_ok OK.out ⟨k, hkl, rfl⟩)
      go_wp2_with fail
      refine HP.out.mono ?_
      rintro e w1 ⟨rfl, rfl⟩
      go_wp2_with fail
      refine (spec_l02Text (pt f k) _ wr HE.out (by omega) OKP.out).mono ?_
      rintro e w1 ⟨rfl, hb⟩
      have HI := Lib.hid (spec_l02Insert _ (sbI8 (sbT8 f k)) (t8 (txt (pt f k))) w1 (S.out.below hb) (by have := sbI8_len f k; omega))
      have EI := Lib.hid (sbI8_succ f k)
      replace B := Lib.hid (bthen B.out hb)
      clear hb HP HE HL OKP HF S
      rw [show (⟨⟨t8 (txt (pt f k))⟩⟩ : ByteArray) = txt (pt f k) from rfl] at HI
      go_wp2_with fail
      refine HI.out.mono ?_
      rintro e w2 ⟨u, rfl, hS, hb⟩
      rw [← EI.out] at hS
      have S := Lib.hid hS
      replace B := Lib.hid (bthen B.out hb)
      obtain ⟨A9, c9, hv9⟩ := hS.opn
      subst hv9
      clear hb hS HI EI
      go_wp2
      exact ⟨⟨k + 1, by go_num, by omega, S.out, B.out⟩, by simp [intOf]; omega⟩
    · obtain rfl : k = (enc f).length := by omega
      go_wp2
      go_ret
      exact ⟨_, rfl, S.out, B.out⟩
theorem spec_SubformulasOf (v : Value) (f : Fm) (w : World) (h : Sl cN w v (enc f)) (hl : (enc f).length ≤ 40) (hok : f.ok = true) :
    Calls Tryz.prog 13 #[v] w fun e w' => ∃ u, e = .returned (.tuple #[u, .int .i64 0]) ∧ Sl cS w' u (bs (sbs8 f)) ∧ Below w.heap.size w w' := by
  have H1 := Lib.hid ((isF_iff (enc f)).2 ⟨f, hok, rfl, hl⟩ ▸ spec_l02Is v (enc f) w h (by omega))
  have H2 := Lib.hid (spec_l02Sub v f w h hl hok)
  clear h hok
  go_enter Tryz.func13, Tryz.ntmps13
  go_wp2_with fail
  refine H1.out.mono ?_
  rintro e w1 ⟨rfl, rfl⟩
  go_wp2_with fail
  refine H2.out.mono ?_
  rintro e w2 ⟨u, rfl, hS, hb⟩
  obtain ⟨A9, c9, hv9⟩ := hS.opn
  subst hv9
  have S := Lib.hid hS
  have B := Lib.hid hb
  clear hS hb H1 H2
  rw [bs_length] at S ⊢
  go_wp2
  exact bodyPost_ret (v := .tuple #[.slice A9 (sbs8 f).length c9, .int .i64 0]) (by simp [results, Tryz.results13, go_sem]) rfl ⟨_, rfl, S.out, B.out⟩
/- The library's slices.Sort and slices.Compact at []string, in the words of Mem; the program's SubformulasOf. -/
/-- lists of bytes as strings -/
def cL8 : Cod T8 := ⟨1, fun x => [.string ⟨⟨x⟩⟩], fun _ => rfl, by decide, fun _ u hu => by simp at hu; subst hu; rfl⟩
theorem flat_bs (L : List T8) : flat cS (bs L) = flat cL8 L := by
  induction L with
  | nil => rfl
  | cons x L ih => rw [bs, List.map_cons, flat_cons, flat_cons, show L.map (fun l => (⟨⟨l⟩⟩ : ByteArray)) = bs L from rfl, ih]; rfl
theorem Ow.l8 {e : TypeId} {B : Nat} {w : World} {v : Value} {L : List T8} (h : Ow cS e B w v (bs L)) : Ow cL8 e B w v L := by
  obtain ⟨⟨A, c, hv, hc, hm⟩, h2⟩ := h
  rw [bs_length] at hv hc
  refine ⟨⟨A, c, hv, hc, hm⟩, ?_⟩
  rw [flat_bs] at h2
  rw [bs_length] at h2
  exact h2
theorem Ow.s8 {e : TypeId} {B : Nat} {w : World} {v : Value} {L : List T8} (h : Ow cL8 e B w v L) : Ow cS e B w v (bs L) := by
  obtain ⟨⟨A, c, hv, hc, hm⟩, h2⟩ := h
  rw [← bs_length] at hv hc
  refine ⟨⟨A, c, hv, hc, hm⟩, ?_⟩
  rw [flat_bs, bs_length]
  exact h2
theorem flat_cL8 (L : List T8) : flat cL8 L = L.map Go.Proofs.encStr := by
  induction L with
  | nil => rfl
  | cons x L ih => rw [flat_cons, List.map_cons, ih]; rfl
/-- an owned row of texts behind the library's change of it, cut to its first ys -/
theorem Ow.put8 {e : TypeId} {B g c q : Nat} {w : World} {xs ys zs : List T8} {os : Array Obj} (h : Ow cL8 e B w (.slice (some ⟨g, 0, none⟩) xs.length c) xs) (hd : (ys ++ zs).length = xs.length) :
    Ow cL8 e B (Go.Sort.grow (Go.Sort.putRow Go.Proofs.encStr (Go.Sort.ahead w q) g 0 (ys ++ zs).toArray) os) (.slice (some ⟨g, 0, none⟩) ys.length c) ys ∧ Below B w (Go.Sort.grow (Go.Sort.putRow Go.Proofs.encStr (Go.Sort.ahead w q) g 0 (ys ++ zs).toArray) os) := by
  obtain ⟨⟨A, c', hv, hc, hm⟩, h1, h2⟩ := h
  injection hv with _ _ hcc
  subst hcc
  rcases h2 with ⟨h0, _⟩ | ⟨g', cap, cur, hg, hB, hr, hn, hcap, hsz, htk⟩
  · cases h0
  · injection hg with hg _ hcap'
    injection hg with hg
    have hg' : g = g' := by injection hg
    subst hg'
    subst hcap'
    have hyl : ys.length ≤ xs.length := by rw [← hd, List.length_append]; omega
    refine ⟨⟨⟨_, _, rfl, by omega, hm⟩, ?_, ?_⟩, ?_⟩
    · rw [flat_length]
    · refine .inr ⟨g, c, _, rfl, hB, heap_sorted _ hr, by omega, hcap, by simpa [Go.Sort.putCells] using hsz, ?_⟩
      have hcs : (ys ++ zs).length ≤ cur.size := by
        have e1 : cL8.size = 1 := rfl
        rw [hsz, e1, hd]; omega
      have := take_putCells cur (ys ++ zs) hcs
      have e2 := congrArg (List.take ys.length) this
      rw [List.take_take, Nat.min_eq_left (by simp)] at e2
      rw [show ys.length * cL8.size = ys.length from Nat.mul_one _, e2, flat_cL8, ← List.map_take, List.take_left']
      rfl
    · have hgb := grownBy_sorted (w := w) (g := g) (n := q) (os := os) (ys ++ zs).toArray
      exact ⟨hgb.os, hgb.tape, hgb.output, hgb.size, fun k hk => hgb.block k (Nat.lt_of_lt_of_le hk (Nat.le_trans hB (Nat.le_of_lt (Array.getElem?_eq_some_iff.1 hr).1))) (fun e => by injection e; omega)⟩
theorem Ow.holds8 {e : TypeId} {B g c : Nat} {w : World} {xs : List T8} (h : Ow cL8 e B w (.slice (some ⟨g, 0, none⟩) xs.length c) xs) : Go.Sort.Holds Go.Proofs.encStr w g 0 xs.toArray ∧ g < w.heap.size ∧ B ≤ g ∧ xs.length ≤ c ∧ c ≤ 9223372036854775807 := by
  obtain ⟨⟨A, c', hv, hc, hm⟩, h1, h2⟩ := h
  injection hv with _ _ hcc
  subst hcc
  rcases h2 with ⟨h0, _⟩ | ⟨g', cap, cur, hg, hB, hr, hn, hcap, hsz, htk⟩
  · cases h0
  · injection hg with hg _ hcap'
    injection hg with hg
    have hg' : g = g' := by injection hg
    subst hg'
    refine ⟨holds_of_block hr (by rw [← flat_cL8, ← htk, show xs.length * cL8.size = xs.length from Nat.mul_one _]), (Array.getElem?_eq_some_iff.1 hr).1, hB, hc, hm⟩
/-- an owned slice is nil, or lies at the head of a block -/
theorem Ow.cases8 {e : TypeId} {B : Nat} {w : World} {v : Value} {xs : List T8} (h : Ow cL8 e B w v xs) : (v = .slice none 0 0 ∧ xs = []) ∨ ∃ g c, v = .slice (some ⟨g, 0, none⟩) xs.length c := by
  obtain ⟨hv, h1, h2⟩ := h
  rcases h2 with ⟨h0, hn⟩ | ⟨g', cap, cur, hg, -⟩
  · exact .inl ⟨h0, List.eq_nil_of_length_eq_zero hn⟩
  · exact .inr ⟨g', cap, hg⟩
theorem beq8 (x y : T8) : (x == y) = decide (x = y) := by
  by_cases h : x = y
  · rw [decide_eq_true h, h]; simp
  · rw [decide_eq_false h]; simpa using h
theorem eql8 (P : Program) (T : TypeId) : EqlAt P T Go.Proofs.encStr (fun x y => decide (x = y)) := ⟨fun x y w => by
  refine Eq.trans ((EqlAt.string P T).1 ⟨⟨x⟩⟩ ⟨⟨y⟩⟩ w) ?_
  show Result.ok (Value.bool ((⟨⟨x⟩⟩ : ByteArray).toList == (⟨⟨y⟩⟩ : ByteArray).toList)) w = Result.ok (Value.bool (decide (x = y))) w
  rw [Go.ByteArray.toList_eq, Go.ByteArray.toList_eq]
  show Result.ok (Value.bool (x == y)) w = _
  rw [beq8], fun op a b x y w => (EqlAt.string P T).2 op a b ⟨⟨x⟩⟩ ⟨⟨y⟩⟩ w⟩
theorem neq8 (P : Program) (T : TypeId) : NeqAt P T Go.Proofs.encStr (fun x y => decide (x = y)) := ⟨fun x y w => by
  refine Eq.trans ((NeqAt.string P T).1 ⟨⟨x⟩⟩ ⟨⟨y⟩⟩ w) ?_
  show Result.ok (Value.bool (!((⟨⟨x⟩⟩ : ByteArray).toList == (⟨⟨y⟩⟩ : ByteArray).toList))) w = Result.ok (Value.bool (!decide (x = y))) w
  rw [Go.ByteArray.toList_eq, Go.ByteArray.toList_eq]
  show Result.ok (Value.bool (!(x == y))) w = _
  rw [beq8], fun op a b x y w => (NeqAt.string P T).2 op a b ⟨⟨x⟩⟩ ⟨⟨y⟩⟩ w⟩
/- The shelf's layings, written out by the shelf's own program. -/
def Tryz.lSortS_ren : Go.Shelf.Ren := ⟨fun | 6 => 77 | 8 => 110 | 9 => 109 | 19 => 141 | 20 => 142 | 21 => 132 | 22 => 133 | 23 => 134 | 24 => 135 | 25 => 136 | 26 => 137 | 27 => 138 | 28 => 139 | 29 => 140 | 36 => 158 | 31 => 159 | 32 => 160 | 37 => 161 | 38 => 162 | 39 => 163 | 41 => 169 | n => n, fun | 27 => 38 | 29 => 9 | 3 => 3 | 32 => 114 | 26 => 38 | 0 => 0 | 44 => 153 | 46 => 72 | 4 => 4 | 36 => 145 | 35 => 144 | 41 => 150 | 5 => 5 | 9 => 9 | 53 => 166 | 57 => 170 | 63 => 178 | 64 => 179 | n => n, fun | n => n⟩
theorem Tryz.lSortS : Go.Proofs.SlLaysM.n6 Tryz.prog Tryz.lSortS_ren := {
  mixed := by kernel_rfl
  f6 := ⟨Tryz.f77.name, by decide, Tryz.func77.trans (congrArg some (by kernel_rfl))⟩
  f8 := Tryz.func110.trans (congrArg some (by kernel_rfl))
  f9 := ⟨Tryz.f109.name, by decide, Tryz.func109.trans (congrArg some (by kernel_rfl))⟩
  f19 := Tryz.func141.trans (congrArg some (by kernel_rfl))
  f20 := Tryz.func142.trans (congrArg some (by kernel_rfl))
  f21 := ⟨Tryz.f132.name, by decide, Tryz.func132.trans (congrArg some (by kernel_rfl))⟩
  f22 := ⟨Tryz.f133.name, by decide, Tryz.func133.trans (congrArg some (by kernel_rfl))⟩
  f23 := ⟨Tryz.f134.name, by decide, Tryz.func134.trans (congrArg some (by kernel_rfl))⟩
  f24 := ⟨Tryz.f135.name, by decide, Tryz.func135.trans (congrArg some (by kernel_rfl))⟩
  f25 := ⟨Tryz.f136.name, by decide, Tryz.func136.trans (congrArg some (by kernel_rfl))⟩
  f26 := ⟨Tryz.f137.name, by decide, Tryz.func137.trans (congrArg some (by kernel_rfl))⟩
  f27 := ⟨Tryz.f138.name, by decide, Tryz.func138.trans (congrArg some (by kernel_rfl))⟩
  f28 := ⟨Tryz.f139.name, by decide, Tryz.func139.trans (congrArg some (by kernel_rfl))⟩
  f29 := ⟨Tryz.f140.name, by decide, Tryz.func140.trans (congrArg some (by kernel_rfl))⟩
  f31 := Tryz.func159.trans (congrArg some (by kernel_rfl))
  f32 := Tryz.func160.trans (congrArg some (by kernel_rfl))
  f36 := ⟨Tryz.f158.name, by decide, Tryz.func158.trans (congrArg some (by kernel_rfl))⟩
  f37 := ⟨Tryz.f161.name, by decide, Tryz.func161.trans (congrArg some (by kernel_rfl))⟩
  f38 := ⟨Tryz.f162.name, by decide, Tryz.func162.trans (congrArg some (by kernel_rfl))⟩
  f39 := ⟨Tryz.f163.name, by decide, Tryz.func163.trans (congrArg some (by kernel_rfl))⟩
  f41 := ⟨Tryz.f169.name, by decide, Tryz.func169.trans (congrArg some (by kernel_rfl))⟩
  t0 := Tryz.underlying0
  a0 := Tryz.isAgg0
  z0 := Tryz.sizeOf0
  v0 := Tryz.zeroValue0
  t3 := Tryz.underlying3
  a3 := Tryz.isAgg3
  z3 := Tryz.sizeOf3
  v3 := Tryz.zeroValue3
  t4 := Tryz.underlying4
  a4 := Tryz.isAgg4
  z4 := Tryz.sizeOf4
  v4 := Tryz.zeroValue4
  t5 := Tryz.underlying5
  a5 := Tryz.isAgg5
  z5 := Tryz.sizeOf5
  v5 := Tryz.zeroValue5
  t9 := Tryz.underlying9
  a9 := Tryz.isAgg9
  z9 := Tryz.sizeOf9
  v9 := Tryz.zeroValue9
  t26 := Tryz.underlying38
  a26 := Tryz.isAgg38
  z26 := Tryz.sizeOf38
  v26 := Tryz.zeroValue38
  t27 := Tryz.underlying38
  a27 := Tryz.isAgg38
  z27 := Tryz.sizeOf38
  v27 := Tryz.zeroValue38
  t29 := Tryz.underlying9
  a29 := Tryz.isAgg9
  z29 := Tryz.sizeOf9
  v29 := Tryz.zeroValue9
  t32 := Tryz.underlying114
  a32 := Tryz.isAgg114
  z32 := Tryz.sizeOf114
  v32 := Tryz.zeroValue114
  t35 := Tryz.underlying144
  a35 := Tryz.isAgg144
  z35 := Tryz.sizeOf144
  v35 := Tryz.zeroValue144
  t36 := Tryz.underlying145
  a36 := Tryz.isAgg145
  z36 := Tryz.sizeOf145
  v36 := Tryz.zeroValue145
  t41 := Tryz.underlying150
  a41 := Tryz.isAgg150
  z41 := Tryz.sizeOf150
  v41 := Tryz.zeroValue150
  t44 := Tryz.underlying153
  a44 := Tryz.isAgg153
  z44 := Tryz.sizeOf153
  v44 := Tryz.zeroValue153
  t46 := Tryz.underlying72
  a46 := Tryz.isAgg72
  z46 := Tryz.sizeOf72
  v46 := Tryz.zeroValue72
  t53 := Tryz.underlying166
  a53 := Tryz.isAgg166
  z53 := Tryz.sizeOf166
  v53 := Tryz.zeroValue166
  t57 := Tryz.underlying170
  a57 := Tryz.isAgg170
  z57 := Tryz.sizeOf170
  v57 := Tryz.zeroValue170
  t63 := Tryz.underlying178
  a63 := Tryz.isAgg178
  z63 := Tryz.sizeOf178
  v63 := Tryz.zeroValue178
  t64 := Tryz.underlying179
  a64 := Tryz.isAgg179
  z64 := Tryz.sizeOf179
  v64 := Tryz.zeroValue179 }

def Tryz.lCmpS_ren : Go.Shelf.Ren := ⟨fun | 43 => 78 | n => n, fun | 22 => 38 | 23 => 9 | 3 => 3 | 4 => 4 | 0 => 0 | n => n, fun | n => n⟩
theorem Tryz.lCmpS : Go.Proofs.SlLaysE.n43 Tryz.prog Tryz.lCmpS_ren := {
  mixed := by kernel_rfl
  f43 := ⟨Tryz.f78.name, by decide, Tryz.func78.trans (congrArg some (by kernel_rfl))⟩
  t0 := Tryz.underlying0
  a0 := Tryz.isAgg0
  z0 := Tryz.sizeOf0
  v0 := Tryz.zeroValue0
  t3 := Tryz.underlying3
  a3 := Tryz.isAgg3
  z3 := Tryz.sizeOf3
  v3 := Tryz.zeroValue3
  t4 := Tryz.underlying4
  a4 := Tryz.isAgg4
  z4 := Tryz.sizeOf4
  v4 := Tryz.zeroValue4
  t22 := Tryz.underlying38
  a22 := Tryz.isAgg38
  z22 := Tryz.sizeOf38
  v22 := Tryz.zeroValue38
  a23 := Tryz.isAgg9
  z23 := Tryz.sizeOf9 }


/-- slices.Sort of a row of texts of the call's own -/
theorem slices_SortS (v : Value) (xs : List T8) (B : Nat) (w : World) (h : Ow cL8 9 B w v xs) (hl : xs.length ≤ 1048576) :
    Calls Tryz.prog 77 #[v] w fun e w' => e = .returned (.tuple #[]) ∧ Ow cL8 9 B w' v (xs.mergeSort fun x y => decide (x ≤ y)) ∧ Below B w w' := by
  rcases h.cases8 with ⟨rfl, rfl⟩ | ⟨g, c, rfl⟩
  · have hcon := AnyM.slices_Sort_string_none Tryz.lSortS none 0 w
    change Calls Tryz.prog 77 _ _ _ at hcon
    exact hcon.mono fun e w' ⟨he, hw⟩ => ⟨he, by simpa using Ow.nil _ _, hw ▸ Below.refl _ _⟩
  · obtain ⟨h1, h2, h3, h4, h5⟩ := h.holds8
    have hcon := AnyM.slices_Sort_string Tryz.lSortS g 0 c xs w h1 h2 (by omega)
    change Calls Tryz.prog 77 _ _ _ at hcon
    refine hcon.mono fun e w' ⟨he, n, os, hw⟩ => ?_
    subst hw
    have := h.put8 (ys := xs.mergeSort fun x y => decide (x ≤ y)) (zs := []) (q := n) (os := os) (by rw [List.append_nil, List.length_mergeSort])
    rw [List.append_nil, List.length_mergeSort] at this
    exact ⟨he, this⟩
/-- slices.Compact of a row of texts of the call's own -/
theorem slices_CompactS (v : Value) (xs : List T8) (B : Nat) (w : World) (h : Ow cL8 9 B w v xs) (hl : xs.length ≤ 1048576) :
    Calls Tryz.prog 78 #[v] w fun e w' => ∃ u, e = .returned u ∧ Ow cL8 9 B w' u (Lib.compactUpTo xs.toArray xs.length) ∧ Below B w w' := by
  rcases h.cases8 with ⟨rfl, rfl⟩ | ⟨g, c, rfl⟩
  · clear h
    go_enter Tryz.func78, Tryz.ntmps78
    go_wp2
    go_ret
    exact ⟨_, rfl, Ow.nil _ _, Below.refl _ _⟩
  · obtain ⟨h1, h2, h3, h4, h5⟩ := h.holds8
    have hcon := AnyE.slices_Compact Tryz.lCmpS Go.Proofs.encStr (fun _ => rfl) (eql8 _ _) (neq8 _ _) [] Tryz.zeroValue9 g 0 c xs.toArray w h1 (by simp; omega) (by simpa using h4)
    change Calls Tryz.prog 78 _ _ _ at hcon
    refine hcon.mono fun e w' ⟨he, q, hw⟩ => ?_
    subst hw
    have hlen : (Lib.compactUpTo xs.toArray xs.length).length ≤ xs.length := by
      unfold Lib.compactUpTo
      rw [List.length_map]
      have := List.length_filter_le (Lib.keeps xs.toArray) (List.range xs.length)
      simpa using this
    have := h.put8 (ys := Lib.compactUpTo xs.toArray xs.length) (zs := List.replicate (xs.length - (Lib.compactUpTo xs.toArray xs.length).length) []) (q := q) (os := #[]) (by simp; omega)
    simp only [Go.Sort.grow_empty] at this
    refine ⟨_, he, ?_⟩
    simpa using this
set_option maxRecDepth 100000 in
theorem impl_subformulas (b : Nat) (v : Value) (f : Fm) (w : World) (hc : w.cell? ⟨b, 0, none⟩ = some v) (hb : b < w.heap.size) (h : Sl cN w v (enc f)) (hl : (enc f).length ≤ 40) (hok : f.ok = true) :
    Calls Tryz.prog 38 #[.slice (some ⟨b, 0, none⟩) 1 1] w fun e w' => ∃ u, e = .returned u ∧ Ow cS 9 w.heap.size w' u (bs (sbs8 f)) ∧ Below w.heap.size w w' := by
  obtain ⟨A, c, rfl⟩ := h.opn
  have H := Lib.hid h
  have OK := Lib.hid hok
  have HC := Lib.hid hc
  have HB := Lib.hid hb
  have A0 := Lib.hid (Below.refl w.heap.size w)
  clear h hok hc hb
  go_enter Tryz.func38, Tryz.ntmps38
  go_wp2
  go_loopw [3, 9] (fun q i wr => ∃ j : Nat, i = .int .i64 (j : Int) ∧ j ≤ 1 ∧ Ow cS 9 w.heap.size wr q (bs (sbT8 f (if j = 0 then 0 else (enc f).length))) ∧ Below w.heap.size w wr) (fun _ i _ => 1 - (intOf i).toNat)
  case atStart => exact ⟨0, rfl, Nat.zero_le _, Ow.nil _ _, A0.out⟩
  case round =>
    clear A0
    obtain ⟨j, rfl, hj, ho, hb⟩ := hrel
    have O := Lib.hid ho
    have B := Lib.hid hb
    clear ho hb
    by_cases hj0 : j = 0
    · subst hj0
      rw [if_pos rfl] at O
      rw [show ((0 : Nat) : Int) = (0 : Int) from rfl]
      have hc : wr.cell? ⟨b, 0, none⟩ = some (.slice A (enc f).length c) := (B.out.cell (p := ⟨b, 0, none⟩) HB.out).trans HC.out
      obtain ⟨A1, c1, rfl⟩ := O.out.opn
      go_wp2
      go_loopw [3, 15] (fun q i wq => ∃ k : Nat, i = .int .i64 (k : Int) ∧ k ≤ (enc f).length ∧ Ow cS 9 w.heap.size wq q (bs (sbT8 f k)) ∧ Below w.heap.size w wq) (fun _ i _ => (enc f).length - (intOf i).toNat)
      case atStart => exact ⟨0, rfl, Nat.zero_le _, O.out, B.out⟩
      case round =>
        clear O B hc
        obtain ⟨k, rfl, hk, ho, hb⟩ := hrel
        obtain ⟨A2, c2, rfl⟩ := ho.opn
        rw [bs_length, sbT8_len] at ho ⊢
        have O := Lib.hid ho
        have B := Lib.hid hb
        clear ho hb
        by_cases hkl : k < (enc f).length
        · obtain ⟨hp1, hp2, hp3⟩ := part_pe f hkl
          have hpos := enc_pos (pt f k)
          have HP := impl_part _ (enc f) k (k + (enc (pt f k)).length) _ (H.out.below B.out) (by omega) (by omega) hp2 hp1
          rw [Nat.add_sub_cancel_left, hp3] at HP
          replace HP := Lib.hid HP
          have OKP := Lib.hid (part_ok OK.out ⟨k, hkl, rfl⟩)
          have HS := Lib.hid (sbT8_succ f k)
          have HE : Hid ((enc (pt f k)).length ≤ 40) := Lib.hid (by omega)
          clear hp1 hp2 hp3 hpos
          go_wp2_with fail
          refine HP.out.mono ?_
          rintro e w1 ⟨u, rfl, hS, rfl⟩
          have HT := Lib.hid (impl_text (pt f k) u _ hS (by have := HE.out; omega) OKP.out)
          clear hS HP
          go_wp2_with fail
          refine HT.out.mono ?_
          rintro e w2 ⟨rfl, m, rfl⟩
          replace O := Lib.hid (O.out.drewN m)
          replace B := Lib.hid (below_drewN B.out m)
          generalize World.drewN _ m = w2 at *
          clear HT
          go_wp2_with (at_builtin; refine stopHere ?_)
          refine goHere ?_
          refine ap_one (K := cS) w2 ty_str rfl _ _ rfl (B := w.heap.size) (v := .slice A2 k c2) (xs := bs (sbT8 f k)) rfl O.out (txt (pt f k)) rfl rfl (by rw [bs_length, sbT8_len]; omega) B.out.size ?_
          intro v3 w3 ho hg hb1 hat
          have ho2 : Ow cS 9 w.heap.size w3 v3 (bs (sbT8 f (k + 1))) := by rw [HS.out, bs_app]; exact ho
          replace O := Lib.hid ho2
          replace B := Lib.hid (B.out.trans hb1)
          obtain ⟨A3, c3, hv3⟩ := ho.opn
          rw [List.length_append, bs_length, sbT8_len, List.length_singleton] at hv3
          subst hv3
          clear ho ho2 hg hb1 hat HS
          go_wp2
          go_roundw
          case rel => exact ⟨k + 1, by go_num, by omega, O.out, B.out⟩
          case measure => simp [intOf]; omega
        · obtain rfl : k = (enc f).length := by omega
          go_wp2
          exact ⟨⟨1, by go_num, by omega, O.out, B.out⟩, by simp [intOf]⟩
    · obtain rfl : j = 1 := by omega
      rw [if_neg (by decide)] at O
      obtain ⟨A2, c2, rfl⟩ := O.out.opn
      rw [bs_length, sbT8_len] at O ⊢
      have HS := Lib.hid (slices_SortS _ (sbT8 f (enc f).length) w.heap.size wr O.out.l8 (by rw [sbT8_len]; omega))
      clear hj0 hj
      go_wp2_with fail
      refine HS.out.mono ?_
      rintro e w1 ⟨rfl, ho, hb⟩
      have hlen : ((sbT8 f (enc f).length).mergeSort fun x y => decide (x ≤ y)).length = (sbT8 f (enc f).length).length := List.length_mergeSort _
      have HK := Lib.hid (slices_CompactS _ _ w.heap.size w1 ho (by rw [hlen, sbT8_len]; omega))
      have E : Hid (Lib.compactUpTo ((sbT8 f (enc f).length).mergeSort fun x y => decide (x ≤ y)).toArray ((sbT8 f (enc f).length).mergeSort fun x y => decide (x ≤ y)).length = sbs8 f) := Lib.hid (by rw [hlen]; exact sbI8_sort _)
      rw [E.out] at HK
      replace B := Lib.hid (B.out.trans hb)
      clear ho hb hlen HS O E
      go_wp2_with fail
      refine HK.out.mono ?_
      rintro e w2 ⟨u, rfl, ho, hb⟩
      obtain ⟨A4, c4, rfl⟩ := ho.opn
      have O := Lib.hid ho.s8
      replace B := Lib.hid (B.out.trans hb)
      clear ho hb HK
      go_wp2
      go_ret
      exact ⟨_, rfl, O.out, B.out⟩
theorem impl_SubformulasOf (v : Value) (f : Fm) (w : World) (h : Sl cN w v (enc f)) (hl : (enc f).length ≤ 40) (hok : f.ok = true) :
    Calls Tryz.prog 12 #[v] w fun e w' => ∃ u, e = .returned (.tuple #[u, .int .i64 0]) ∧ Sl cS w' u (bs (sbs8 f)) ∧ Below w.heap.size w w' := by
  have H1 := Lib.hid ((isF_iff (enc f)).2 ⟨f, hok, rfl, hl⟩ ▸ impl_isFormula v (enc f) w h (by omega))
  have H := Lib.hid h
  have OK := Lib.hid hok
  clear h hok
  obtain ⟨A, c, rfl⟩ := H.out.opn
  go_enter Tryz.func12, Tryz.ntmps12
  go_wp2_with fail
  refine H1.out.mono ?_
  rintro e w1 ⟨rfl, hb⟩
  have B := Lib.hid hb
  have hba := below_alloc' w1 (.cells #[.slice A (enc f).length c] 29)
  have hk := Blk.new w1 29 #[.slice A (enc f).length c]
  have H2 := Lib.hid (impl_subformulas w1.heap.size _ f _ (hk.cell 0) hk.lt ((H.out.below B.out).below hba) hl OK.out)
  have BA := Lib.hid (bthen B.out hba)
  clear hb hba hk H1
  go_wp2_with fail
  refine H2.out.mono ?_
  rintro e w2 ⟨u, rfl, ho, hb⟩
  obtain ⟨A4, c4, rfl⟩ := ho.opn
  have O := Lib.hid ho.sl
  have B2 := Lib.hid (bthen BA.out hb)
  clear ho hb H2
  rw [bs_length] at O ⊢
  go_wp2
  exact bodyPost_ret (v := .tuple #[.slice A4 (sbs8 f).length c4, .int .i64 0]) (by simp [results, Tryz.results12, go_sem]) rfl ⟨_, rfl, O.out, B2.out⟩
/- The laws' read5 at a formula's text, and likeTexts5 of lists that are one. -/
theorem laws_read5 (g : Fm) (w : World) (hl : (enc g).length ≤ 40) (hok : g.ok = true) :
    Calls Tryz.prog 16 #[.string (txt g)] w fun e w' => ∃ A c, e = .returned (.slice A (enc g).length c) ∧ Sl cN w' (.slice A (enc g).length c) (enc g) ∧ Below w.heap.size w w' := by
  have hs := txt_120 g
  have HF := Lib.hid (spec_ParseFormula (txt g) w (by omega))
  have HR := Lib.hid (txt_read g hok)
  clear hs hok
  go_enter Tryz.func16, Tryz.ntmps16
  go_wp2_with fail
  refine HF.out.mono ?_
  rintro e w1 ⟨a, j, c, hR, hj, hE, hb⟩
  obtain ⟨rfl, rfl, rfl⟩ := hR.one HR.out
  have B := Lib.hid hb
  clear HF HR hR hb
  rcases hE with ⟨hc, x, rfl⟩ | ⟨-, -, h40, rfl⟩ | ⟨-, -, -, A, k, rfl, hA, hS⟩
  · rcases hc with hc | hc
    · cases hc
    · omega
  · omega
  · have S := Lib.hid hS
    clear hA hS
    go_wp2
    go_ret
    exact ⟨_, _, rfl, S.out, B.out⟩
theorem laws_likeTexts5 (v u : Value) (xs : List ByteArray) (w : World) (h : Sl cS w v xs) (h' : Sl cS w u xs) (hl : xs.length ≤ 1073741824) :
    Calls Tryz.prog 14 #[v, u] w fun e w' => e = .returned (.bool true) ∧ Below w.heap.size w w' := by
  obtain ⟨A, c, rfl⟩ := h.opn
  obtain ⟨A', c', rfl⟩ := h'.opn
  go_enter Tryz.func14, Tryz.ntmps14
  go_wp2
  go_loopw [5] (fun i wr => ∃ j : Nat, j ≤ xs.length ∧ i = .int .i64 j ∧ Below w.heap.size w wr) (fun i _ => xs.length - (intOf i).toNat)
  case atStart => exact ⟨0, Nat.zero_le _, rfl, Below.refl _ _⟩
  case round =>
    obtain ⟨j, hj, rfl, hbl⟩ := hrel
    have HB := Lib.hid hbl
    by_cases hlt : j < xs.length
    · obtain ⟨b, o, rfl, hb, c0⟩ := (h.below hbl).atS hlt
      obtain ⟨b', o', rfl, hb', c1⟩ := (h'.below hbl).atS hlt
      generalize xs[j] = x at *
      clear hbl h h'
      go_wp2
      go_quiet (fail)
      go_wp2
      go_roundw
      case rel => exact ⟨j + 1, by omega, by go_num, below_drewN HB.out _⟩
      case measure => simp [intOf]; omega
    · obtain rfl : j = xs.length := by omega
      go_wp2
      go_ret
      exact ⟨rfl, HB.out⟩
end Go.Proofs.YtboldkahppdmbaaGreatDoor
