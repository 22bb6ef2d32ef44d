/- Contracts of chapter 6: the stack of truthSet, of the program. -/
import Derived.Test.YtgcoohlakcncbaaGreatFA
namespace Go.Proofs.YtgcoohlakcncbaaGreat
open Go.RowKit
set_option linter.unusedVariables false
set_option linter.unusedSimpArgs false
theorem li_append (xs ys : List Nat) : li (xs ++ ys) = li xs ++ li ys := by simp [li]
/-- the formulas whose nodes stand from an index on -/
def stepD : List Fm → List Fm
  | [] => []
  | g :: rest => kids g ++ rest
def dc (f : Fm) : Nat → List Fm
  | 0 => [f]
  | j + 1 => stepD (dc f j)
theorem enc_step (g : Fm) (rest : List Fm) : ∃ x : Nd, enc g ++ rest.flatMap enc = x :: (kids g ++ rest).flatMap enc ∧ (match g with | .var s => x = (0, (s : Int)) | .fls => x = (1, 0) | .bin k _ _ => x = (k.i, 0) | .un k _ => x = (k.i, 0)) := by
  cases g with
  | var s => exact ⟨_, by simp [enc, kids], rfl⟩
  | fls => exact ⟨_, by simp [enc, kids], rfl⟩
  | bin k a b => exact ⟨_, by simp [enc, kids], rfl⟩
  | un k a => exact ⟨_, by simp [enc, kids], rfl⟩
theorem dc_drop (f : Fm) (j : Nat) (h : j ≤ (enc f).length) : (enc f).drop j = (dc f j).flatMap enc := by
  induction j with
  | zero => simp [dc]
  | succ j ih =>
    have h1 := ih (by omega)
    have hlt : j < (enc f).length := by omega
    rw [List.drop_eq_getElem_cons hlt] at h1
    cases hd : dc f j with
    | nil => rw [hd] at h1; cases h1
    | cons g rest =>
      rw [hd, List.flatMap_cons] at h1
      obtain ⟨x, hx, _⟩ := enc_step g rest
      rw [hx] at h1
      show _ = (stepD (dc f j)).flatMap enc
      rw [hd]
      exact (List.cons.inj h1).2
theorem flatMap_enc_length (fs : List Fm) : fs.length ≤ (fs.flatMap enc).length := by
  induction fs with
  | nil => simp
  | cons g t ih => have := enc_pos g; rw [List.flatMap_cons, List.length_append, List.length_cons]; omega
theorem dc_length (f : Fm) (j : Nat) (h : j ≤ (enc f).length) : (dc f j).length ≤ (enc f).length := by
  have h1 := flatMap_enc_length (dc f j)
  rw [← dc_drop f j h, List.length_drop] at h1
  omega
/-- the node at an index, and the formulas from it on -/
theorem dc_at (f : Fm) (j : Nat) (h : j < (enc f).length) : ∃ (g : Fm) (rest : List Fm), dc f j = g :: rest ∧ dc f (j + 1) = kids g ++ rest ∧ (match g with | .var s => (enc f)[j] = (0, (s : Int)) | .fls => (enc f)[j] = (1, 0) | .bin k _ _ => (enc f)[j] = (k.i, 0) | .un k _ => (enc f)[j] = (k.i, 0)) := by
  have h1 := dc_drop f j (by omega)
  rw [List.drop_eq_getElem_cons h] at h1
  cases hd : dc f j with
  | nil => rw [hd] at h1; cases h1
  | cons g rest =>
    rw [hd, List.flatMap_cons] at h1
    obtain ⟨x, hx, hm⟩ := enc_step g rest
    rw [hx] at h1
    have hxe := (List.cons.inj h1).1
    refine ⟨g, rest, rfl, by show stepD (dc f j) = _; rw [hd]; rfl, ?_⟩
    rw [hxe]
    exact hm
/-- what stands on the stack when the nodes from an index on are done -/
def stk (ns us : List Nat) (fs : List Fm) : List Nat := (fs.map (tv ns us)).reverse
theorem stk_cons (ns us : List Nat) (g : Fm) (fs : List Fm) : stk ns us (g :: fs) = stk ns us fs ++ [tv ns us g] := by simp [stk]
theorem stk_length (ns us : List Nat) (fs : List Fm) : (stk ns us fs).length = fs.length := by simp [stk]
theorem Ow.pop {α : Type} {K : Cod α} {e : TypeId} {B : Nat} {w : World} {g c : Nat} {xs : List α} {x : α} {n : Nat} (h : Ow K e B w (.slice (some ⟨g, 0, none⟩) n c) (xs ++ [x])) : Ow K e B w (.slice (some ⟨g, 0, none⟩) xs.length c) xs := by
  obtain ⟨⟨A, c', hv, hc, hm⟩, h1, h2⟩ := h
  injection hv with hA hn hc'
  subst hA; subst hc'; subst hn
  rw [List.length_append, List.length_singleton] at hc h1 h2
  refine ⟨⟨_, c, rfl, by omega, hm⟩, flat_length xs, ?_⟩
  rcases h2 with ⟨h0, _⟩ | ⟨g', cap, cur, hv, hb, hg, hn, hcm, hsz, ht⟩
  · cases h0
  · injection hv with hA _ hcc
    injection hA with hA
    injection hA with hA _ _
    subst hA; subst hcc
    refine .inr ⟨g, c, cur, rfl, hb, hg, by omega, hcm, hsz, ?_⟩
    have h3 := congrArg (List.take (xs.length * K.size)) ht
    rw [List.take_take, flat_append, List.take_left' (flat_length xs)] at h3
    rw [Nat.min_eq_left (by rw [Nat.add_mul]; omega)] at h3
    exact h3
/-- the state of truthSet: the frame's block, the stack's cell, the stack -/
structure StT (w0 w : World) (S : Nat) (fr : Array Value) (zs : List Nat) : Prop where
  lt : w0.heap.size < S
  stack : ∃ sv, Blk w S 50 #[sv] ∧ Ow cI 2 (S + 1) w sv (li zs)
  frame : Blk w w0.heap.size 63 fr
  below : Below w0.heap.size w0 w
theorem impl_pop (w0 w : World) (S : Nat) (fr : Array Value) (zs : List Nat) (z : Nat) (h : StT w0 w S fr (zs ++ [z])) (hz : zs.length ≤ 1048576) :
    Calls Tryz.prog 234 #[.pointer (some ⟨S, 0, none⟩)] w fun e w' => e = .returned (.int .i64 (z : Nat)) ∧ StT w0 w' S fr zs := by
  obtain ⟨hS, ⟨sv, hk, ho⟩, hf, hb⟩ := h
  have hlen : (li (zs ++ [z])).length = zs.length + 1 := by rw [li_length]; simp
  obtain ⟨g, c, rfl, hg1, hg2, hfz, hcell⟩ := ho.form (by rw [hlen]; omega)
  have hz1 : w.cell? ⟨g, zs.length, none⟩ = some (.int .i64 (z : Nat)) := by
    have := (ho.at1 rfl (j := zs.length) (by rw [hlen]; omega) rfl).1
    rw [li_get, List.getD_eq_getElem?_getD] at this
    simpa using this
  have hpop : Ow cI 2 (S + 1) w (.slice (some ⟨g, 0, none⟩) (li zs).length c) (li zs) := by
    rw [li_append] at ho
    exact Ow.pop ho
  have k1 := hk.cell
  have k2 := hk.frozen
  have k3 := hk.lt
  rw [li_length] at hpop
  rw [hlen] at k1
  have HE : Hid (StT w0 (w.setCell ⟨S, 0, none⟩ (.slice (some ⟨g, 0, none⟩) zs.length c)) S fr zs) := Lib.hid ⟨hS, ⟨_, hk.set_ 0 _, hpop.setBelow (by show S < _; omega) _⟩, hf.far (by show w0.heap.size ≠ S; omega) _, hb.setCell (by show w0.heap.size ≤ S; omega) _⟩
  have c1 : zs.length + 1 ≤ c := by
    obtain ⟨⟨A, c', hv, hc, hm⟩, _⟩ := ho
    injection hv with _ _ hcc
    subst hcc
    rw [hlen] at hc
    exact hc
  have c2 : c ≤ 9223372036854775807 := by
    obtain ⟨⟨A, c', hv, hc, hm⟩, _⟩ := ho
    injection hv with _ _ hcc
    subst hcc
    exact hm
  clear ho hpop hk hf hb hcell hfz
  have s0 : (#[Value.slice (some ⟨g, 0, none⟩) (zs.length + 1) c] : Array Value)[0]? = some (.slice (some ⟨g, 0, none⟩) (zs.length + 1) c) := rfl
  have k0 := k1 0
  rw [s0] at k0
  clear k1 s0 hlen
  generalize zs.length = n at *
  go_enter Tryz.func234, Tryz.ntmps234
  go_wp2
  go_ret
  exact ⟨rfl, HE.out⟩
theorem en_truthSet_1 : ∀ (args : Array Value) (w : World), (callFunc 234 args).run Tryz.prog w = .ok (.enter 234 args) w := enters Tryz.func234 (by kernel_rfl) (by kernel_rfl)
theorem StT.below_ {w0 w w' : World} {S : Nat} {fr : Array Value} {zs : List Nat} (h : StT w0 w S fr zs) (hb : Below w.heap.size w w') : StT w0 w' S fr zs := by
  obtain ⟨hS, ⟨sv, hk, ho⟩, hf, hB⟩ := h
  exact ⟨hS, ⟨sv, hk.below hb hk.lt, ho.below hb⟩, hf.below hb hf.lt, bthen hB hb⟩
theorem StT.drewN_ {w0 w : World} {S : Nat} {fr : Array Value} {zs : List Nat} (h : StT w0 w S fr zs) (q : Nat) : StT w0 (w.drewN q) S fr zs := by
  obtain ⟨hS, ⟨sv, hk, ho⟩, hf, hB⟩ := h
  exact ⟨hS, ⟨sv, hk.drewN q, ho.drewN q⟩, hf.drewN q, below_drewN hB q⟩
theorem StT.cellF {w0 w : World} {S : Nat} {fr : Array Value} {zs : List Nat} (h : StT w0 w S fr zs) (i : Nat) : w.cell? ⟨w0.heap.size, i, none⟩ = fr[i]? := h.frame.cell i
set_option maxHeartbeats 4000000 in
set_option maxRecDepth 100000 in
theorem impl_truthSet (ns us : List Nat) (f : Fm) (va vu v : Value) (w : World) (ha : Sl cI w va (li ns)) (hu : Sl cI w vu (li us)) (h : Sl cN w v (enc f)) (hr : RelN ns) (hu6 : us.length = 6) (hus : ∀ x ∈ us, x < 2 ^ ns.length) (hok : f.ok = true) (hl : (enc f).length ≤ 1048576) :
    Calls Tryz.prog 198 #[.agg #[.int .i64 (ns.length : Int), va], vu, v] w fun e w' => e = .returned (.int .i64 (tv ns us f : Nat)) ∧ Below w.heap.size w w' := by
  obtain ⟨A0, c0, rfl⟩ := ha.opn
  obtain ⟨A1, c1, rfl⟩ := hu.opn
  obtain ⟨A2, c2, rfl⟩ := h.opn
  have e6 : (li us).length = 6 := by rw [li_length, hu6]
  have en : (li ns).length = ns.length := li_length ns
  rw [e6] at hu ⊢
  rw [en] at ha ⊢
  have hpos := enc_pos f
  obtain ⟨F, hF⟩ : ∃ F : Nat, F = 2 ^ ns.length - 1 := ⟨_, rfl⟩
  have h8 := hr.1
  have hF256 : F < 256 := by have := two_pow_256 h8; have := full_lt ns.length; omega
  have HA := Lib.hid (hF ▸ impl_all ns.length (.slice A0 ns.length c0) A0 ns.length c0 rfl (w.alloc (.cells #[.int .i64 (ns.length : Int), .slice A0 ns.length c0] 63)) h8)
  have hb0 := below_alloc' w (.cells #[.int .i64 (ns.length : Int), .slice A0 ns.length c0] 63)
  have hk0 := Blk.new w 63 #[.int .i64 (ns.length : Int), .slice A0 ns.length c0]
  go_enter Tryz.func198, Tryz.ntmps198
  go_wp2_with fail
  refine HA.out.mono ?_
  rintro e w1 ⟨rfl, hb⟩
  have hB1 : Below w.heap.size w w1 := hb0.trans (hb.mono hb0.size)
  have hst : StT w (w1.alloc (.cells #[.slice none 0 0] 50)) w1.heap.size #[.int .i64 (ns.length : Int), .slice A0 ns.length c0] (stk ns us (dc f (enc f).length)) := by
    have hd := dc_drop f (enc f).length (Nat.le_refl _)
    rw [List.drop_length] at hd
    have hn : dc f (enc f).length = [] := by
      have := flatMap_enc_length (dc f (enc f).length)
      rw [← hd] at this
      exact List.eq_nil_of_length_eq_zero (by simpa using this)
    rw [hn]
    exact ⟨Nat.lt_of_lt_of_le hk0.lt hb.size, ⟨_, Blk.new w1 50 #[.slice none 0 0], Ow.nil _ _⟩, (hk0.below hb hk0.lt).alloc _, hB1.alloc hB1.size _⟩
  have HST := Lib.hid hst
  have Ha := Lib.hid ha
  have Hu := Lib.hid hu
  have Hh := Lib.hid h
  have HR := Lib.hid hr
  have HUS := Lib.hid (tv_lt ns us hus)
  have HT0 : Hid (∀ (s : Nat), us.getD s 0 < 256) := Lib.hid fun s => Nat.lt_of_lt_of_le (getD_lt hus s) (two_pow_256 h8)
  have hL := hl
  have HOK := Lib.hid (enc_nodes f hok)
  have HF := Lib.hid hF
  clear ha hu h hr hst hB1 hb hb0 hk0 hF hus HA e6 en hok
  go_wp2
  go_loopw [10] (fun i wr => ∃ j : Nat, j ≤ (enc f).length ∧ i = .int .i64 ((j : Int) - 1) ∧ StT w wr w1.heap.size #[.int .i64 (ns.length : Int), .slice A0 ns.length c0] (stk ns us (dc f j))) (fun i _ => (intOf i + 1).toNat)
  case atStart => exact ⟨(enc f).length, Nat.le_refl _, rfl, HST.out⟩
  case round =>
    obtain ⟨j, hj, rfl, hst⟩ := hrel
    have hk := en_truthSet_1
    cases j with
    | zero =>
      obtain ⟨hS, ⟨sv, hk, ho⟩, hf, hb⟩ := hst
      have hst1 : stk ns us (dc f 0) = [tv ns us f] := by simp [stk, dc]
      rw [hst1] at ho
      have hsl : (li [tv ns us f]).length = 1 := by rw [li_length]; rfl
      obtain ⟨g, c, rfl, hg1, hg2, hfz, hcell⟩ := ho.form (by rw [hsl]; omega)
      have hx : wr.cell? ⟨g, 0, none⟩ = some (.int .i64 (tv ns us f : Nat)) := (ho.at1 rfl (j := 0) (by rw [hsl]; omega) rfl).1
      have k1 := hk.cell
      rw [hsl] at k1
      have k2 := k1 0
      have k3 := hk.lt
      have HB := Lib.hid hb
      clear ho hk hf hb hcell hfz k1 hst1 hsl
      rw [show ((0 : Nat) : Int) - 1 = -1 from rfl]
      go_wp2
      go_ret
      exact ⟨rfl, HB.out⟩
    | succ j =>
      have hji : (((j + 1 : Nat) : Int) - 1) = (j : Int) := by omega
      rw [hji]
      clear hji
      have hlt : j < (enc f).length := by omega
      obtain ⟨b, o, rfl, hbl, hc0, hc1⟩ := (Hh.out.below hst.below).atN hlt
      obtain ⟨g, rest, hd1, hd2, hm⟩ := dc_at f j hlt
      have hrl : rest.length + 1 ≤ 1048576 := by
        have := dc_length f j (by omega)
        rw [hd1, List.length_cons] at this
        omega
      have hD : stk ns us (dc f j) = stk ns us rest ++ [tv ns us g] := by rw [hd1, stk_cons]
      have HD := Lib.hid hD
      rw [hd2] at hst
      have hnd := HOK.out _ (List.getElem_mem hlt)
      clear hD hd1 hd2
      cases g with
      | var s =>
        simp only at hm
        rw [hm] at hc0 hc1 hnd
        simp [isNd, inR] at hnd
        simp only [kids, List.nil_append] at hst
        obtain ⟨b2, o2, rfl, hb2, hc2⟩ := (Hu.out.below hst.below).atI (k := s) (by rw [li_length]; omega)
        rw [li_get] at hc2
        have E : Hid (tv ns us (.var s) = us.getD s 0) := Lib.hid rfl
        rw [E.out] at HD
        have i1 : s < 6 := by omega
        have i2 : (s : Int) < 6 := by omega
        generalize us.getD s 0 = m at *
        clear hm hnd
        obtain ⟨hS, ⟨sv, hk, ho⟩, hf, hb⟩ := hst
        obtain ⟨A9, c9, rfl⟩ := ho.opn
        have hll := li_length (stk ns us rest)
        rw [stk_length] at hll
        rw [hll] at ho hk
        have HLL := Lib.hid hll
        clear hll
        have k1 := hk.cell
        have k2 := hk.frozen
        have k3 := hk.lt
        have HO := Lib.hid ho
        have HK := Lib.hid hk
        have HFR := Lib.hid hf
        have HB := Lib.hid hb
        clear ho hk hf hb
        go_wp2_with (at_builtin; refine stopHere ?_)
        refine goHere ?_
        refine ap_one (K := cI) _ ty_int64 rfl _ _ rfl (B := w1.heap.size + 1) (xs := li (stk ns us rest)) rfl HO.out (m : Int) rfl rfl (by have := HLL.out; omega) (by omega) ?_
        intro v1 w5 ho1 hg1 hb1 hat1
        obtain ⟨A7, c7, rfl⟩ := ho1.opn
        rw [List.length_append, HLL.out, List.length_singleton] at ho1 ⊢
        have hk5 := (HK.out.alloc (.cells #[.int .i64 (m : Int)] 2)).grown hg1 (HO.out.apart (g := w1.heap.size) (.inl (by omega)))
        have hf5 := (HFR.out.alloc (.cells #[.int .i64 (m : Int)] 2)).grown hg1 (HO.out.apart (g := w.heap.size) (.inl (by omega)))
        have hb5 := HB.out.trans (hb1.mono (by omega))
        have k5 := hk5.cell
        have k6 := hk5.frozen
        have k7 := hk5.lt
        have HE : Hid (StT w (w5.setCell ⟨w1.heap.size, 0, none⟩ (.slice A7 (rest.length + 1) c7)) w1.heap.size #[.int .i64 (ns.length : Int), .slice A0 ns.length c0] (stk ns us rest ++ [m])) :=
          Lib.hid ⟨hS, ⟨_, hk5.set_ 0 _, by rw [li_append]; exact ho1.setBelow (by show w1.heap.size < _; omega) _⟩, hf5.far (by show w.heap.size ≠ w1.heap.size; omega) _, hb5.setCell (by show w.heap.size ≤ w1.heap.size; omega) _⟩
        clear ho1 hg1 hb1 hat1 hk5 hf5 hb5 k1 k2 HO HK HFR HB
        go_wp2
        go_roundw
        case rel => exact ⟨j, by omega, by go_num, by rw [HD.out]; exact HE.out⟩
        case measure => simp [intOf]
      | fls =>
        simp only at hm
        rw [hm] at hc0 hc1
        simp only [kids, List.nil_append] at hst
        have E : Hid (tv ns us .fls = 0) := Lib.hid rfl
        rw [E.out] at HD
        clear hm hnd
        obtain ⟨hS, ⟨sv, hk, ho⟩, hf, hb⟩ := hst
        obtain ⟨A9, c9, rfl⟩ := ho.opn
        have hll := li_length (stk ns us rest)
        rw [stk_length] at hll
        rw [hll] at ho hk
        have HLL := Lib.hid hll
        clear hll
        have k1 := hk.cell
        have k2 := hk.frozen
        have k3 := hk.lt
        have HO := Lib.hid ho
        have HK := Lib.hid hk
        have HFR := Lib.hid hf
        have HB := Lib.hid hb
        clear ho hk hf hb
        go_wp2_with (at_builtin; refine stopHere ?_)
        refine goHere ?_
        refine ap_one (K := cI) _ ty_int64 rfl _ _ rfl (B := w1.heap.size + 1) (xs := li (stk ns us rest)) rfl HO.out (0 : Int) rfl rfl (by have := HLL.out; omega) (by omega) ?_
        intro v1 w5 ho1 hg1 hb1 hat1
        obtain ⟨A7, c7, rfl⟩ := ho1.opn
        rw [List.length_append, HLL.out, List.length_singleton] at ho1 ⊢
        have hk5 := (HK.out.alloc (.cells #[.int .i64 (0 : Int)] 2)).grown hg1 (HO.out.apart (g := w1.heap.size) (.inl (by omega)))
        have hf5 := (HFR.out.alloc (.cells #[.int .i64 (0 : Int)] 2)).grown hg1 (HO.out.apart (g := w.heap.size) (.inl (by omega)))
        have hb5 := HB.out.trans (hb1.mono (by omega))
        have k5 := hk5.cell
        have k6 := hk5.frozen
        have k7 := hk5.lt
        have HE : Hid (StT w (w5.setCell ⟨w1.heap.size, 0, none⟩ (.slice A7 (rest.length + 1) c7)) w1.heap.size #[.int .i64 (ns.length : Int), .slice A0 ns.length c0] (stk ns us rest ++ [0])) :=
          Lib.hid ⟨hS, ⟨_, hk5.set_ 0 _, by rw [li_append]; exact ho1.setBelow (by show w1.heap.size < _; omega) _⟩, hf5.far (by show w.heap.size ≠ w1.heap.size; omega) _, hb5.setCell (by show w.heap.size ≤ w1.heap.size; omega) _⟩
        clear ho1 hg1 hb1 hat1 hk5 hf5 hb5 k1 k2 HO HK HFR HB
        go_wp2
        go_roundw
        case rel => exact ⟨j, by omega, by go_num, by rw [HD.out]; exact HE.out⟩
        case measure => simp [intOf]
      | un k a =>
        simp only at hm
        rw [hm] at hc0 hc1
        simp only [kids, List.cons_append, List.nil_append] at hst
        rw [stk_cons] at hst
        have ha := Nat.lt_of_lt_of_le (HUS.out a) (two_pow_256 h8)
        have d1 : wr.cell? ⟨w.heap.size, 1, none⟩ = some (.slice A0 ns.length c0) := hst.cellF 1
        have HS := Lib.hid hst
        have dl := Nat.lt_of_lt_of_le hst.frame.lt (Nat.le_refl _)
        have dS : w.heap.size < w1.heap.size := hst.lt
        clear hm hnd hst
        cases k with
        | box =>
          simp only [UK.i] at hc0
          have E : Hid (tv ns us (.un .box a) = bx ns (tv ns us a)) := Lib.hid rfl
          rw [E.out] at HD
          generalize tv ns us a = q at *
          go_wp2
          first | go_region_held3 (fun w' => w'.cell? ⟨w.heap.size, 1, none⟩ = some (.slice A0 ns.length c0)) (first | exact d1' | exact d1 | (simp [*]; done)) (first | (go_at_call 234; refine (impl_pop w _ w1.heap.size _ (stk ns us rest) q (HS.out.drewN_ _) (by rw [stk_length]; omega)).mono ?_; rintro e w2 ⟨rfl, hst2⟩; have d1' : w2.cell? ⟨w.heap.size, 1, none⟩ = some (.slice A0 ns.length c0) := hst2.cellF 1; have ha2 := Ha.out.below hst2.below) | (go_at_call 235; refine (impl_box _ ns _ _ ha2 HR.out ha).mono ?_; rintro e w3 ⟨rfl, rfl⟩)) | fail
          all_goals
            clear d1' ha2 d1
            obtain ⟨hS, ⟨sv, hk, ho⟩, hf, hb⟩ := hst2
            obtain ⟨A9, c9, rfl⟩ := ho.opn
            have hll := li_length (stk ns us rest)
            rw [stk_length] at hll
            rw [hll] at ho hk
            have HLL := Lib.hid hll
            clear hll
            have k1 := hk.cell
            have k2 := hk.frozen
            have k3 := hk.lt
            have HO := Lib.hid ho
            have HK := Lib.hid hk
            have HFR := Lib.hid hf
            have HB := Lib.hid hb
            clear ho hk hf hb
            go_wp2_with (at_builtin; refine stopHere ?_)
            refine goHere ?_
            refine ap_one (K := cI) _ ty_int64 rfl _ _ rfl (B := w1.heap.size + 1) (xs := li (stk ns us rest)) rfl HO.out ((bx ns q : Nat) : Int) rfl rfl (by have := HLL.out; omega) (by omega) ?_
            intro v1 w5 ho1 hg1 hb1 hat1
            obtain ⟨A7, c7, rfl⟩ := ho1.opn
            rw [List.length_append, HLL.out, List.length_singleton] at ho1 ⊢
            have hk5 := (HK.out.alloc (.cells #[.int .i64 ((bx ns q : Nat) : Int)] 2)).grown hg1 (HO.out.apart (g := w1.heap.size) (.inl (by omega)))
            have hf5 := (HFR.out.alloc (.cells #[.int .i64 ((bx ns q : Nat) : Int)] 2)).grown hg1 (HO.out.apart (g := w.heap.size) (.inl (by omega)))
            have hb5 := HB.out.trans (hb1.mono (by omega))
            have k5 := hk5.cell
            have k6 := hk5.frozen
            have k7 := hk5.lt
            have HE : Hid (StT w (w5.setCell ⟨w1.heap.size, 0, none⟩ (.slice A7 (rest.length + 1) c7)) w1.heap.size #[.int .i64 (ns.length : Int), .slice A0 ns.length c0] (stk ns us rest ++ [bx ns q])) :=
              Lib.hid ⟨hS, ⟨_, hk5.set_ 0 _, by rw [li_append]; exact ho1.setBelow (by show w1.heap.size < _; omega) _⟩, hf5.far (by show w.heap.size ≠ w1.heap.size; omega) _, hb5.setCell (by show w.heap.size ≤ w1.heap.size; omega) _⟩
            clear ho1 hg1 hb1 hat1 hk5 hf5 hb5 k1 k2 HO HK HFR HB
            go_wp2
            go_roundw
            case rel => exact ⟨j, by omega, by go_num, by rw [HD.out]; exact HE.out⟩
            case measure => simp [intOf]
        | dia =>
          simp only [UK.i] at hc0
          have E : Hid (tv ns us (.un .dia a) = andnot F (bx ns (andnot F (tv ns us a)))) := Lib.hid (by rw [HF.out]; rfl)
          rw [E.out] at HD
          have hq2 : andnot F (tv ns us a) < 256 := andnot_lt (k := 8) hF256
          have e2 := i64_andNot_nat F (tv ns us a) (by omega) (by omega)
          have hq3 : bx ns (andnot F (tv ns us a)) < 256 := Nat.lt_of_lt_of_le (bx_lt _ _) (two_pow_256 h8)
          have e3 := i64_andNot_nat F (bx ns (andnot F (tv ns us a))) (by omega) (by omega)
          generalize tv ns us a = q at *
          go_wp2
          first | go_region_held3 (fun w' => w'.cell? ⟨w.heap.size, 1, none⟩ = some (.slice A0 ns.length c0)) (first | exact d1' | exact d1 | (simp [*]; done)) (first | (go_at_call 234; refine (impl_pop w _ w1.heap.size _ (stk ns us rest) q (HS.out.drewN_ _) (by rw [stk_length]; omega)).mono ?_; rintro e w2 ⟨rfl, hst2⟩; have d1' : w2.cell? ⟨w.heap.size, 1, none⟩ = some (.slice A0 ns.length c0) := hst2.cellF 1; have ha2 := Ha.out.below hst2.below) | (go_at_call 235; refine (impl_box _ ns _ _ ha2 HR.out hq2).mono ?_; rintro e w3 ⟨rfl, rfl⟩)) | fail
          all_goals
            clear d1' ha2 d1
            obtain ⟨hS, ⟨sv, hk, ho⟩, hf, hb⟩ := hst2
            obtain ⟨A9, c9, rfl⟩ := ho.opn
            have hll := li_length (stk ns us rest)
            rw [stk_length] at hll
            rw [hll] at ho hk
            have HLL := Lib.hid hll
            clear hll
            have k1 := hk.cell
            have k2 := hk.frozen
            have k3 := hk.lt
            have HO := Lib.hid ho
            have HK := Lib.hid hk
            have HFR := Lib.hid hf
            have HB := Lib.hid hb
            clear ho hk hf hb
            go_wp2_with (at_builtin; refine stopHere ?_)
            refine goHere ?_
            refine ap_one (K := cI) _ ty_int64 rfl _ _ rfl (B := w1.heap.size + 1) (xs := li (stk ns us rest)) rfl HO.out ((andnot F (bx ns (andnot F q)) : Nat) : Int) rfl rfl (by have := HLL.out; omega) (by omega) ?_
            intro v1 w5 ho1 hg1 hb1 hat1
            obtain ⟨A7, c7, rfl⟩ := ho1.opn
            rw [List.length_append, HLL.out, List.length_singleton] at ho1 ⊢
            have hk5 := (HK.out.alloc (.cells #[.int .i64 ((andnot F (bx ns (andnot F q)) : Nat) : Int)] 2)).grown hg1 (HO.out.apart (g := w1.heap.size) (.inl (by omega)))
            have hf5 := (HFR.out.alloc (.cells #[.int .i64 ((andnot F (bx ns (andnot F q)) : Nat) : Int)] 2)).grown hg1 (HO.out.apart (g := w.heap.size) (.inl (by omega)))
            have hb5 := HB.out.trans (hb1.mono (by omega))
            have k5 := hk5.cell
            have k6 := hk5.frozen
            have k7 := hk5.lt
            have HE : Hid (StT w (w5.setCell ⟨w1.heap.size, 0, none⟩ (.slice A7 (rest.length + 1) c7)) w1.heap.size #[.int .i64 (ns.length : Int), .slice A0 ns.length c0] (stk ns us rest ++ [andnot F (bx ns (andnot F q))])) :=
              Lib.hid ⟨hS, ⟨_, hk5.set_ 0 _, by rw [li_append]; exact ho1.setBelow (by show w1.heap.size < _; omega) _⟩, hf5.far (by show w.heap.size ≠ w1.heap.size; omega) _, hb5.setCell (by show w.heap.size ≤ w1.heap.size; omega) _⟩
            clear ho1 hg1 hb1 hat1 hk5 hf5 hb5 k1 k2 HO HK HFR HB
            go_wp2
            go_roundw
            case rel => exact ⟨j, by omega, by go_num, by rw [HD.out]; exact HE.out⟩
            case measure => simp [intOf]
      | bin k a d =>
        simp only at hm
        rw [hm] at hc0 hc1
        simp only [kids, List.cons_append, List.nil_append] at hst
        rw [stk_cons, stk_cons] at hst
        have ha := Nat.lt_of_lt_of_le (HUS.out a) (two_pow_256 h8)
        have hd := Nat.lt_of_lt_of_le (HUS.out d) (two_pow_256 h8)
        have HS := Lib.hid hst
        have dS : w.heap.size < w1.heap.size := hst.lt
        clear hm hnd hst
        cases k with
        | and =>
          simp only [BK.i] at hc0
          have E : Hid (tv ns us (.bin .and a d) = tv ns us a &&& tv ns us d) := Lib.hid rfl
          rw [E.out] at HD
          have e2 := i64_and_nat (tv ns us a) (tv ns us d) (by omega) (by omega)
          generalize tv ns us a = q at *
          generalize tv ns us d = p at *
          go_wp2_with fail
          refine (impl_pop w _ w1.heap.size _ (stk ns us rest ++ [p]) q HS.out (by rw [List.length_append, stk_length]; simp; omega)).mono ?_
          rintro e w2 ⟨rfl, hst2⟩
          have HS2 := Lib.hid hst2
          clear hst2
          go_wp2_with fail
          refine (impl_pop w _ w1.heap.size _ (stk ns us rest) p HS2.out (by rw [stk_length]; omega)).mono ?_
          rintro e w3 ⟨rfl, hst3⟩
          obtain ⟨hS, ⟨sv, hk, ho⟩, hf, hb⟩ := hst3
          obtain ⟨A9, c9, rfl⟩ := ho.opn
          have hll := li_length (stk ns us rest)
          rw [stk_length] at hll
          rw [hll] at ho hk
          have HLL := Lib.hid hll
          clear hll
          have k1 := hk.cell
          have k2 := hk.frozen
          have k3 := hk.lt
          have HO := Lib.hid ho
          have HK := Lib.hid hk
          have HFR := Lib.hid hf
          have HB := Lib.hid hb
          clear ho hk hf hb
          go_wp2_with (at_builtin; refine stopHere ?_)
          refine goHere ?_
          refine ap_one (K := cI) _ ty_int64 rfl _ _ rfl (B := w1.heap.size + 1) (xs := li (stk ns us rest)) rfl HO.out ((q &&& p : Nat) : Int) rfl rfl (by have := HLL.out; omega) (by omega) ?_
          intro v1 w5 ho1 hg1 hb1 hat1
          obtain ⟨A7, c7, rfl⟩ := ho1.opn
          rw [List.length_append, HLL.out, List.length_singleton] at ho1 ⊢
          have hk5 := (HK.out.alloc (.cells #[.int .i64 ((q &&& p : Nat) : Int)] 2)).grown hg1 (HO.out.apart (g := w1.heap.size) (.inl (by omega)))
          have hf5 := (HFR.out.alloc (.cells #[.int .i64 ((q &&& p : Nat) : Int)] 2)).grown hg1 (HO.out.apart (g := w.heap.size) (.inl (by omega)))
          have hb5 := HB.out.trans (hb1.mono (by omega))
          have k5 := hk5.cell
          have k6 := hk5.frozen
          have k7 := hk5.lt
          have HE : Hid (StT w (w5.setCell ⟨w1.heap.size, 0, none⟩ (.slice A7 (rest.length + 1) c7)) w1.heap.size #[.int .i64 (ns.length : Int), .slice A0 ns.length c0] (stk ns us rest ++ [q &&& p])) :=
            Lib.hid ⟨hS, ⟨_, hk5.set_ 0 _, by rw [li_append]; exact ho1.setBelow (by show w1.heap.size < _; omega) _⟩, hf5.far (by show w.heap.size ≠ w1.heap.size; omega) _, hb5.setCell (by show w.heap.size ≤ w1.heap.size; omega) _⟩
          clear ho1 hg1 hb1 hat1 hk5 hf5 hb5 k1 k2 HO HK HFR HB
          go_wp2
          go_roundw
          case rel => exact ⟨j, by omega, by go_num, by rw [HD.out]; exact HE.out⟩
          case measure => simp [intOf]
        | or =>
          simp only [BK.i] at hc0
          have E : Hid (tv ns us (.bin .or a d) = tv ns us a ||| tv ns us d) := Lib.hid rfl
          rw [E.out] at HD
          have e2 := i64_or_nat (tv ns us a) (tv ns us d) (by omega) (by omega)
          generalize tv ns us a = q at *
          generalize tv ns us d = p at *
          go_wp2_with fail
          refine (impl_pop w _ w1.heap.size _ (stk ns us rest ++ [p]) q HS.out (by rw [List.length_append, stk_length]; simp; omega)).mono ?_
          rintro e w2 ⟨rfl, hst2⟩
          have HS2 := Lib.hid hst2
          clear hst2
          go_wp2_with fail
          refine (impl_pop w _ w1.heap.size _ (stk ns us rest) p HS2.out (by rw [stk_length]; omega)).mono ?_
          rintro e w3 ⟨rfl, hst3⟩
          obtain ⟨hS, ⟨sv, hk, ho⟩, hf, hb⟩ := hst3
          obtain ⟨A9, c9, rfl⟩ := ho.opn
          have hll := li_length (stk ns us rest)
          rw [stk_length] at hll
          rw [hll] at ho hk
          have HLL := Lib.hid hll
          clear hll
          have k1 := hk.cell
          have k2 := hk.frozen
          have k3 := hk.lt
          have HO := Lib.hid ho
          have HK := Lib.hid hk
          have HFR := Lib.hid hf
          have HB := Lib.hid hb
          clear ho hk hf hb
          go_wp2_with (at_builtin; refine stopHere ?_)
          refine goHere ?_
          refine ap_one (K := cI) _ ty_int64 rfl _ _ rfl (B := w1.heap.size + 1) (xs := li (stk ns us rest)) rfl HO.out ((q ||| p : Nat) : Int) rfl rfl (by have := HLL.out; omega) (by omega) ?_
          intro v1 w5 ho1 hg1 hb1 hat1
          obtain ⟨A7, c7, rfl⟩ := ho1.opn
          rw [List.length_append, HLL.out, List.length_singleton] at ho1 ⊢
          have hk5 := (HK.out.alloc (.cells #[.int .i64 ((q ||| p : Nat) : Int)] 2)).grown hg1 (HO.out.apart (g := w1.heap.size) (.inl (by omega)))
          have hf5 := (HFR.out.alloc (.cells #[.int .i64 ((q ||| p : Nat) : Int)] 2)).grown hg1 (HO.out.apart (g := w.heap.size) (.inl (by omega)))
          have hb5 := HB.out.trans (hb1.mono (by omega))
          have k5 := hk5.cell
          have k6 := hk5.frozen
          have k7 := hk5.lt
          have HE : Hid (StT w (w5.setCell ⟨w1.heap.size, 0, none⟩ (.slice A7 (rest.length + 1) c7)) w1.heap.size #[.int .i64 (ns.length : Int), .slice A0 ns.length c0] (stk ns us rest ++ [q ||| p])) :=
            Lib.hid ⟨hS, ⟨_, hk5.set_ 0 _, by rw [li_append]; exact ho1.setBelow (by show w1.heap.size < _; omega) _⟩, hf5.far (by show w.heap.size ≠ w1.heap.size; omega) _, hb5.setCell (by show w.heap.size ≤ w1.heap.size; omega) _⟩
          clear ho1 hg1 hb1 hat1 hk5 hf5 hb5 k1 k2 HO HK HFR HB
          go_wp2
          go_roundw
          case rel => exact ⟨j, by omega, by go_num, by rw [HD.out]; exact HE.out⟩
          case measure => simp [intOf]
        | imp =>
          simp only [BK.i] at hc0
          have E : Hid (tv ns us (.bin .imp a d) = andnot F (tv ns us a) ||| tv ns us d) := Lib.hid (by rw [HF.out]; rfl)
          rw [E.out] at HD
          have hq2 : andnot F (tv ns us a) < 256 := andnot_lt (k := 8) hF256
          have e2 := i64_andNot_nat F (tv ns us a) (by omega) (by omega)
          have e3 := i64_or_nat (andnot F (tv ns us a)) (tv ns us d) (by omega) (by omega)
          generalize tv ns us a = q at *
          generalize tv ns us d = p at *
          go_wp2_with fail
          refine (impl_pop w _ w1.heap.size _ (stk ns us rest ++ [p]) q HS.out (by rw [List.length_append, stk_length]; simp; omega)).mono ?_
          rintro e w2 ⟨rfl, hst2⟩
          have HS2 := Lib.hid hst2
          clear hst2
          go_wp2_with fail
          refine (impl_pop w _ w1.heap.size _ (stk ns us rest) p HS2.out (by rw [stk_length]; omega)).mono ?_
          rintro e w3 ⟨rfl, hst3⟩
          obtain ⟨hS, ⟨sv, hk, ho⟩, hf, hb⟩ := hst3
          obtain ⟨A9, c9, rfl⟩ := ho.opn
          have hll := li_length (stk ns us rest)
          rw [stk_length] at hll
          rw [hll] at ho hk
          have HLL := Lib.hid hll
          clear hll
          have k1 := hk.cell
          have k2 := hk.frozen
          have k3 := hk.lt
          have HO := Lib.hid ho
          have HK := Lib.hid hk
          have HFR := Lib.hid hf
          have HB := Lib.hid hb
          clear ho hk hf hb
          go_wp2_with (at_builtin; refine stopHere ?_)
          refine goHere ?_
          refine ap_one (K := cI) _ ty_int64 rfl _ _ rfl (B := w1.heap.size + 1) (xs := li (stk ns us rest)) rfl HO.out ((andnot F q ||| p : Nat) : Int) rfl rfl (by have := HLL.out; omega) (by omega) ?_
          intro v1 w5 ho1 hg1 hb1 hat1
          obtain ⟨A7, c7, rfl⟩ := ho1.opn
          rw [List.length_append, HLL.out, List.length_singleton] at ho1 ⊢
          have hk5 := (HK.out.alloc (.cells #[.int .i64 ((andnot F q ||| p : Nat) : Int)] 2)).grown hg1 (HO.out.apart (g := w1.heap.size) (.inl (by omega)))
          have hf5 := (HFR.out.alloc (.cells #[.int .i64 ((andnot F q ||| p : Nat) : Int)] 2)).grown hg1 (HO.out.apart (g := w.heap.size) (.inl (by omega)))
          have hb5 := HB.out.trans (hb1.mono (by omega))
          have k5 := hk5.cell
          have k6 := hk5.frozen
          have k7 := hk5.lt
          have HE : Hid (StT w (w5.setCell ⟨w1.heap.size, 0, none⟩ (.slice A7 (rest.length + 1) c7)) w1.heap.size #[.int .i64 (ns.length : Int), .slice A0 ns.length c0] (stk ns us rest ++ [andnot F q ||| p])) :=
            Lib.hid ⟨hS, ⟨_, hk5.set_ 0 _, by rw [li_append]; exact ho1.setBelow (by show w1.heap.size < _; omega) _⟩, hf5.far (by show w.heap.size ≠ w1.heap.size; omega) _, hb5.setCell (by show w.heap.size ≤ w1.heap.size; omega) _⟩
          clear ho1 hg1 hb1 hat1 hk5 hf5 hb5 k1 k2 HO HK HFR HB
          go_wp2
          go_roundw
          case rel => exact ⟨j, by omega, by go_num, by rw [HD.out]; exact HE.out⟩
          case measure => simp [intOf]
end Go.Proofs.YtgcoohlakcncbaaGreat
